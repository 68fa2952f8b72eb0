/- What the law BagUndo stands on: the framework, the given functions as plain functions, their walks, and the plain laws; part 3. -/
import Derived.Test.YtapehjfhmhfaoaaBagUndoZ2
set_option linter.unusedSimpArgs false
set_option linter.unusedVariables false
namespace Go.Abs
open Go Go.RowKit
section
variable {P : Program} {tt : TT} {H : aS} {K : V → aS → Prop}
theorem aEd (htt : iG P tt) {args : Array Operand} {t t' e : TypeId} {te : TyE} (hu : P.underlying t = some (.slice e)) (hu' : P.underlying t' = some .string) (hte : tt e = some te) (hz0 : rW te.zero te.size = true) (h1 : te.size = 1) {s : V} {bs : ByteArray} {es : List V} (hs : CO te.size H s = some es)
    (hb : (es.length + bs.size) * te.bytes ≤ 140737488355328) (h63 : es.length + bs.size ≤ 9223372036854775807)
    (h : K (.msl te.size H.length 0 (es.length + bs.size)) (zK te.size H s (es ++ bs.data.toList.map fun b => bN .u8 (b.toNat : Int)))) : sV P (.call ⟨.builtin .append, args, #[t, t']⟩) [s, pZ bs] H K := by
  intro ro o a g w next R ho hsr hx hn
  obtain ⟨hlen, hx⟩ := hx
  have hops : (Op.call ⟨.builtin .append, args, #[t, t']⟩).operands = args := by simp [Op.operands, Call.operands]
  rw [hops] at hlen hx
  obtain ⟨u1, u2, h2⟩ : ∃ u1 u2, args.map a.eval = #[u1, u2] := by
    generalize args.map a.eval = as0 at hlen
    obtain ⟨l⟩ := as0
    match l, hlen with
    | [u1, u2], _ => exact ⟨u1, u2, rfl⟩
  rw [h2] at hx
  have r1 := hx 0 s u1 rfl rfl
  have r2 := (hx 1 (pZ bs) u2 rfl rfl).nY
  have hys : (bs.data.toList.map fun b => bN .u8 (b.toNat : Int)).length = bs.size := by rw [List.length_map, Array.length_toList]; rfl
  obtain ⟨v, w', g', hrun, hrep, hsr', hext⟩ := MX (ty := o.type) (e' := e) (vx := .string bs) (ys := bs.data.toList.map fun b => bN .u8 (b.toNat : Int)) (news := bs.data.toList.map fun b => Value.int .u8 (b.toNat : Int)) htt hsr hu (.inr hu') hte hz0 r1 hs
    (fun w => by rw [hys]; rfl)
    ⟨by rw [h1, List.length_map, List.length_map, Nat.mul_one], ⟨fun i => Value.int .u8 ((bs.data.toList.map fun b => (b.toNat : Int)).getD i 0), fun i y hy => by
      simp only [List.getElem?_map, Option.map_eq_some_iff] at hy
      obtain ⟨b, hb', rfl⟩ := hy
      have e1 : (bs.data.toList.map fun b => (b.toNat : Int)).getD i 0 = (b.toNat : Int) := by rw [List.getD_eq_getElem?_getD, List.getElem?_map, hb']; rfl
      show Rep g w (bN .u8 (b.toNat : Int)) (Value.int .u8 ((bs.data.toList.map fun b => (b.toNat : Int)).getD i 0)) ∧ (Value.int .u8 ((bs.data.toList.map fun b => (b.toNat : Int)).getD i 0)).cells.size = te.size ∧ ∀ (j : Nat) z, (Value.int .u8 ((bs.data.toList.map fun b => (b.toNat : Int)).getD i 0)).cells[j]? = some z → (bs.data.toList.map fun b => Value.int .u8 (b.toNat : Int))[i * te.size + j]? = some z
      rw [e1]
      refine ⟨.lit _ rfl, by rw [h1]; rfl, fun j z hz => ?_⟩
      have hj : j = 0 := by
        have := (Array.getElem?_eq_some_iff.1 hz).1
        simp [Value.cells] at this; omega
      subst hj
      have : z = Value.int .u8 (b.toNat : Int) := by
        simp [Value.cells] at hz; exact hz.symm
      subst this
      rw [h1, Nat.mul_one, Nat.add_zero, List.getElem?_map, hb']; rfl⟩, fun z hz => by
      obtain ⟨b, _, rfl⟩ := List.mem_map.1 hz
      rfl⟩
    (fun y hy => by
      obtain ⟨b, _, rfl⟩ := List.mem_map.1 hy
      rfl)
    (fun w1 _ => by
      rw [hys]
      have e1 : bs.extract 0 bs.size = bs := ByteArray.extract_zero_size
      simp only [Builtin.firstCells, Sem.run_pure, e1]
      congr 1
      apply Array.ext'
      simp)
    (by rw [hys]; exact hb) (by rw [hys]; exact h63)
  rw [hys] at hrep
  refine eB (by rw [ho]; simp) (v := v) (w' := w') ?_ (hn _ _ g' w' v h hsr' hrep hext)
  cases o
  simp only at ho
  subst ho
  simp only [execOp, resolve, Sem.run_bind, Sem.run_pure, Result.andThen, invoke, builtin]
  rw [h2, r2, hrun]

theorem aEa {src dst e : TypeId} {x : Operand} {xs : List Int} (hs : P.underlying src = some (.slice e)) (he : P.underlying e = some (.int .u8)) (hd : P.underlying dst = some .string) (h : K (pZ (strOfNums xs)) H) : sV P (.convert src dst x) [eL (bN .u8) xs] H K := by
  intro ro o a g w next R ho hsr hx hn
  have hops : (Op.convert src dst x).operands = #[x] := rfl
  rw [hops] at hx
  have r1 := hx.2 0 _ (a.eval x) rfl (by simp)
  obtain ⟨b, cap, cs, e1, hcs, _, hrun⟩ := SZ (P := P) (k := 1) hsr r1 (DM fun _ => rfl)
  have e2 : cs = xs.map (Value.int .u8) := by
    obtain ⟨c, hc⟩ := hcs.rep
    apply List.ext_getElem?
    intro i
    by_cases hi : i < xs.length
    · have h1 : (xs.map (bN .u8))[i]? = some (bN .u8 xs[i]) := by simp [hi]
      obtain ⟨a1, a2, a3⟩ := hc i _ h1
      have a4 := a1.nY
      have := a3 0 (Value.int .u8 xs[i]) (by rw [a4]; rfl)
      simp at this
      rw [this]
      simp [hi]
    · have := hcs.len
      rw [List.getElem?_eq_none (by simp at this; omega), List.getElem?_eq_none (by simpa using Nat.le_of_not_lt hi)]
  subst e2
  have hr : (execOp a.eval o).run P w = .ok (.value (.string (strOfNums xs))) w := by
    cases o
    simp only at ho
    subst ho
    simp only [execOp, Sem.run_bind, Sem.run_pure]
    rw [e1]
    have h3 := hrun w (fun _ => rfl)
    rw [e1] at h3
    cases b with
    | none =>
      have h4 : xs = [] := by
        simp [Builtin.firstCells] at h3
        exact h3
      subst h4
      rw [run_convert_bytes_nil w src e hs he _ _ dst hd]
      rfl
    | some ad =>
      have h4 : (loadCells ad (xs.map (bN .u8)).length).run P w = .ok (xs.map (Value.int .u8)).toArray w := by
        simpa [Builtin.firstCells] using h3
      rw [run_convert_bytes_string w src dst e _ _ cap hs he hd, run_bytesToString w _ _ cap xs h4, foldl_push_bytes]
      simp [strOfNums, ByteArray.empty, ByteArray.emptyWithCapacity, Result.andThen]
      rfl
  exact eB (by rw [ho]; simp) hr (hn _ _ g w _ h hsr (.lit _ rfl) (Ext.refl g w))

end
section rules
variable {P : Program} {tt : TT} {N : Nat} {T : Env} {H : aS} {ops : Array Oper} {K : Env → aS → Prop} {i n : Nat}
def aD8 (N : Nat) (ops : Array Oper) (T : Env) (i : Nat) : Option (String × TypeId × List V) := match fH N ops i with
  | some (.call ⟨.invoke r name, args, _⟩) => match iR T [] (#[r] ++ args).toList with
    | some (.ifc t x :: as0) => some (name, t, x :: as0)
    | _ => none
  | _ => none

theorem aFk {H0 : Frame} {L : List (Nat × Nat × List V)} {name : String} {t : TypeId} {fid : Nat} {as0 : List V} {x : V} (hm : NF P t name = some fid) (hc : dK P fid as0 x) (hO : aN H0 H L)
    (h : ∀ H', aN H0 H' L → RWs P tt N ops (aH (i + 1) n) (T.bP (cE ops i) ([], x)) H' K) (hs : aH i n = i :: aH (i + 1) n := by kernel_rfl) (hd : aD8 N ops T i = some (name, t, as0) := by kernel_rfl) : RWs P tt N ops (aH i n) T H K := by
  unfold aD8 at hd
  split at hd
  · rename_i r nm args tys hp
    split at hd
    · rename_i t' x' as0' hx
      simp at hd; obtain ⟨rfl, rfl, rfl⟩ := hd
      exact xD hs hp hx (aEu hm ((hc H).mono fun r H' ⟨e, hx⟩ => e ▸ h H' (hO.call hx)))
    · simp at hd
  · simp at hd

theorem ZI {H0 : Frame} {L : List (Nat × Nat × List V)} (xs : List V) (k : Nat) (hO : aN H0 H L) (h : ∀ lo H', aN H0 H' (L ++ [(lo, k, xs)]) → RWs P tt N ops (aH (i + 1) n) (T.bP (cE ops i) ([], .msl k lo 0 xs.length)) H' K)
    (hs : aH i n = i :: aH (i + 1) n := by kernel_rfl) (hd : EN tt N ops T i = some (xs, k) := by kernel_rfl) : RWs P tt N ops (aH i n) T H K :=
  aG9 hs hd (h _ _ (hO.new k xs))

def aBR (P : Program) (tt : TT) (N : Nat) (ops : Array Oper) (T : Env) (i : Nat) : Option (V × ByteArray) := match fH N ops i with
  | some (.call ⟨.builtin .append, args, tys⟩) => match iR T [] args.toList, tys.toList with
    | some [s, .lit (.string b)], [t, t'] => match P.underlying t, P.underlying t' with
      | some (.slice e), some .string => match tt e with
        | some te => match rW te.zero te.size && Nat.beq te.size 1 && Nat.beq te.bytes 1 with
          | true => some (s, b)
          | false => none
        | none => none
      | _, _ => none
    | _, _ => none
  | _ => none

theorem aHl {H0 : Frame} {L : List (Nat × Nat × List V)} (htt : iG P tt) (xs : List Int) (bs : ByteArray) (q lo : Nat) (L' : Nat → List (Nat × Nat × List V)) (hO : aN H0 H L)
    (hb : (xs.length + bs.size) * 1 ≤ 140737488355328 ∧ xs.length + bs.size ≤ 9223372036854775807)
    (h : ∀ lo' H', aN H0 H' (L' lo') → RWs P tt N ops (aH (i + 1) n) (T.bP (cE ops i) ([], .msl 1 lo' 0 (xs ++ bs.data.toList.map fun b => (b.toNat : Int)).length)) H' K)
    (hs : aH i n = i :: aH (i + 1) n := by kernel_rfl) (hd : aBR P tt N ops T i = some (.msl 1 lo 0 xs.length, bs) := by kernel_rfl) (hL : L[q]? = some (lo, 1, xs.map (bN .u8)) := by kernel_rfl)
    (hl : ∀ lo', L' lo' = L.set q (lo', 1, (xs ++ bs.data.toList.map fun b => (b.toNat : Int)).map (bN .u8)) := by intro _; kernel_rfl) : RWs P tt N ops (aH i n) T H K := by
  unfold aBR at hd
  split at hd
  · rename_i args tys hp
    split at hd
    · rename_i s b t t' hev hty
      split at hd
      · rename_i e h1 h2
        split at hd
        · rename_i te hte
          split at hd
          · rename_i hz
            simp at hd; obtain ⟨rfl, rfl⟩ := hd
            simp only [Bool.and_eq_true] at hz
            obtain ⟨⟨hz0, hz1⟩, hz2⟩ := hz
            have hz1 : te.size = 1 := Nat.eq_of_beq_eq_true hz1
            have hz2 : te.bytes = 1 := Nat.eq_of_beq_eq_true hz2
            obtain rfl : tys = #[t, t'] := by rw [← Array.toArray_toList (xs := tys), hty]
            have hlen : (xs.map (bN .u8)).length = xs.length := by simp
            refine xD hs hp (xs := [.msl 1 lo 0 xs.length, pZ b]) (by show _ = some [V.msl 1 lo 0 xs.length, V.lit (.string b)]; simpa [Op.operands, Call.operands] using hev) (aEd htt h1 h2 hte hz0 hz1 (es := xs.map (bN .u8)) ?_ ?_ ?_ ?_)
            · rw [hz1]; simp [CO, hO.at q hL]
            · rw [hlen, hz2]; exact hb.1
            · rw [hlen]; exact hb.2
            · have h3 := h H.length _ (by rw [hl]; exact hO.app (n := xs.length) q hL _)
              have e1 : (xs ++ b.data.toList.map fun b => (b.toNat : Int)).length = xs.length + b.size := by rw [List.length_append, List.length_map, Array.length_toList]; rfl
              have e2 : (xs ++ b.data.toList.map fun b => (b.toNat : Int)).map (bN .u8) = xs.map (bN .u8) ++ b.data.toList.map fun b => bN .u8 (b.toNat : Int) := by rw [List.map_append, List.map_map]; rfl
              rw [e1, e2] at h3
              rw [hlen, hz1]
              exact h3
          · simp at hd
        · simp at hd
      · simp at hd
    · simp at hd
  · simp at hd

def aBD (P : Program) (N : Nat) (ops : Array Oper) (T : Env) (i : Nat) : Option V := match fH N ops i with
  | some (.convert src dst x) => match P.underlying src, P.underlying dst with
    | some (.slice e), some .string => match P.underlying e with
      | some (.int .u8) => match cF T [] x with
        | some v => some v
        | none => none
      | _ => none
    | _, _ => none
  | _ => none

theorem aHj (xs : List Int) (h : RWs P tt N ops (aH (i + 1) n) (T.bP (cE ops i) ([], pZ (strOfNums xs))) H K)
    (hs : aH i n = i :: aH (i + 1) n := by kernel_rfl) (hd : aBD P N ops T i = some (eL (bN .u8) xs) := by kernel_rfl) : RWs P tt N ops (aH i n) T H K := by
  unfold aBD at hd
  split at hd
  · rename_i src dst x hp
    split at hd
    · rename_i e h1 h2
      split at hd
      · rename_i h3
        split at hd
        · rename_i v hv
          simp at hd; subst hd
          exact xD hs hp (xs := [eL (bN .u8) xs]) (by simp [Op.operands, iR, hv]) (aEa h1 h3 h2 h)
        · simp at hd
      · simp at hd
    · simp at hd
  · simp at hd

end rules
end Go.Abs
namespace Go.Abs
open Go Go.RowKit
section rules
variable {P : Program} {tt : TT} {N : Nat} {T : Env} {H : aS} {ops : Array Oper} {K : Env → aS → Prop} {i n : Nat} {H0 : aS} {E : List Nat} {G : Gs} {L : List (Nat × Nat × List V)}
theorem aBp {β : Type} {f : β → V} {m : List (ByteArray × β)} {mty : TypeId} {mo ko : Operand} {l : Nat} {KV : V → aS → Prop} (htt : iG P tt) (k : ByteArray) (z : V) (hO : aN ⟨H0, E, (l, lX f m) :: G⟩ H L) (hm : JR P tt mty = some z)
    (h0 : vM m k = none → KV z H) (h1 : ∀ v, vM m k = some v → KV (f v) H) : sV P (.lookup mty mo ko false) [.mp l, .lit (.string k)] H KV := by
  obtain ⟨kt, et, a1, a2, a3⟩ := UN htt hm
  have hl := (hO.gm 0 _ rfl).2
  refine aFg (kv := .string k) (z := z) a1 a2 trivial a3 hl (fun hnd hno => ?_) fun hnd j x hj => ?_
  · exact h0 (DX fun p hp' e => hno (.string p.1, f p.2) (List.mem_map.2 ⟨p, hp', rfl⟩) (by simp [e]))
  · have : ∃ y, m[j]? = some (k, y) ∧ f y = x := by
      simp only [oZ, List.getElem?_map, Option.map_eq_some_iff] at hj
      obtain ⟨⟨a, b⟩, h3, h4⟩ := hj
      simp at h4
      exact ⟨b, by rw [h3, h4.1], h4.2⟩
    obtain ⟨y, hy, rfl⟩ := this
    exact h1 y (EA (HG hnd) hy)

def aFy (N : Nat) (ops : Array Oper) (i : Nat) : Bool := match fH N ops i with
  | some (.mapUpdate _ _ _ _) => true
  | _ => false

variable {TD : PE} {KD : PE → aS → Prop} {pl : Oper → Bool}
theorem WC {β : Type} {f : β → V} {m : List (ByteArray × β)} {mty : TypeId} {l : Nat} (htt : iG P tt) (k : ByteArray) (z : V) (hO : aN ⟨H0, E, (l, lX f m) :: G⟩ H L)
    (h0 : vM m k = none → RD P tt N pl ops (aH (i + 1) n) (TD.bP (cE ops i) z) H KD) (h1 : ∀ v, vM m k = some v → RD P tt N pl ops (aH (i + 1) n) (TD.bP (cE ops i) (f v)) H KD)
    (hs : aH i n = i :: aH (i + 1) n := by kernel_rfl) (hd : VV N ops (lift TD) i = some (mty, l, .string k, false) := by kernel_rfl) (hm : JR P tt mty = some z := by kernel_rfl) : RD P tt N pl ops (aH i n) TD H KD := by
  unfold VV at hd
  split at hd
  · rename_i mty' m' k' ok' hp
    split at hd
    · rename_i l' kv e1 e2
      simp at hd; obtain ⟨rfl, rfl, rfl, rfl⟩ := hd
      refine NS hs hp (fun h => by cases h) (.inl ⟨rfl, rfl⟩) ?_
      exact ⟨[.mp l', .lit (.string k)], by simp [iR, e1, e2], aBp htt k z hO hm (fun h => ⟨fun _ _ => eZ.refl H, h0 h⟩) (fun v h => ⟨fun _ _ => eZ.refl H, h1 v h⟩)⟩
    · simp at hd
  · simp at hd

theorem aCd {β : Type} {f : β → V} {m : List (ByteArray × β)} {mty : TypeId} {l : Nat} (k : ByteArray) (v : β) (hO : aN ⟨H0, E, (l, lX f m) :: G⟩ H L) (h : ∀ H', aN ⟨H0, E, (l, lX f (nC m k v)) :: G⟩ H' L → RD P tt N pl ops (aH (i + 1) n) (TD.bP (cE ops i) (.tup [])) H' KD)
    (hs : aH i n = i :: aH (i + 1) n := by kernel_rfl) (hd : aDq N ops (lift TD) i = some (mty, l, .string k, f v) := by kernel_rfl) (hm : yJ P mty = true := by kernel_rfl) (hu : aFy N ops i = true := by kernel_rfl) : RD P tt N pl ops (aH i n) TD H KD := by
  obtain ⟨kt, et, h1, h2⟩ := wU hm
  have fin : ∀ M', aCc (.string k) (f v) (oZ f m) M' → RD P tt N pl ops (aH (i + 1) n) (TD.bP (cE ops i) (.tup [])) (H.set l (.raw (zV RS M'))) KD := by
    intro M' hM
    rw [aD4 hM]
    exact h _ (hO.uY _)
  have hl := (hO.gm 0 _ rfl).2
  unfold aDq at hd
  split at hd
  · rename_i mty' m' k' x' hp
    split at hd
    · rename_i l' kv xv e1 e2 e3
      simp at hd; obtain ⟨rfl, rfl, rfl, rfl⟩ := hd
      refine NS hs hp (fun h => by cases h) (.inl ⟨rfl, rfl⟩) ?_
      exact ⟨[.mp l', .lit (.string k), f v], by simp [iR, e1, e2, e3], aEQ (.inl rfl) h1 h2 trivial rfl hl fun M' hM => ⟨fun h => by simp [CB] at h, fin M' hM⟩⟩
    · simp at hd
  · rename_i mty' m' k' x' hp
    exfalso
    unfold aFy at hu
    rw [hp] at hu
    cases hu
  · simp at hd

end rules
section
variable {P : Program} {tt : TT} {N : Nat} {T : Env} {H : aS} {ops : Array Oper} {K : Env → aS → Prop} {i n : Nat}
theorem wW {H0 : aS} {E : List Nat} {G0 G : Gs} {L0 L : OL} {Post : V → Gs → OL → Prop} {fid : Nat} {as0 : List V} (ctx : Ctx) (b : Bool) (y : V) (M : Gs) (R : OL) (ix : List Nat) (hg : G0.Perm (M ++ G)) (hc : b = true → wV P fid as0 M L Post) (hy : b = false → Post y M L) (hO : aN ⟨H0, E, G0⟩ H L0)
    (h : ∀ x M' L' H', Post x M' L' → aN ⟨H0, E, M' ++ G⟩ H' (L' ++ R) → RWs P tt N ops (aH (i + 1) n) (T.bP (cE ops i) (ctx, x)) H' K) (hnd : ix.Nodup := by decide) (hp : ix.map (fun i => L0[i]?) = (L ++ R).map some := by kernel_rfl)
    (hs : aH i n = i :: aH (i + 1) n := by kernel_rfl) (hd : DC N ops T i = some (ctx, fid, as0) := by kernel_rfl) (hb : gB T ctx = b := by kernel_rfl) : RWs P tt N ops (aH i n) T H K := by
  replace hO := hO.CF hg
  unfold DC at hd
  split at hd
  · rename_i ctx' f args tys hp'
    split at hd
    · rename_i ys cs xs hf hx
      simp at hd; obtain ⟨rfl, rfl, rfl⟩ := hd
      rw [hs]
      obtain ⟨o, ho, e, hctx, hdd, hdst⟩ := KG hp'
      rw [hdst] at h
      refine ⟨T, H, nE.refl _ _ _, o, ctx', ho, hctx, hdd, .inr ⟨fun hg => .inl ?_, fun hg => ?_⟩⟩
      · rw [e]
        refine ⟨_, xs, hf, hx, .inl ?_⟩
        have h1 := hc (hb.symm.trans hg) ⟨H0, E, up R ++ G⟩ H (hO.pick ix hnd hp).aFu
        simp only [List.append_assoc] at h1 ⊢
        exact h1.mono fun _ H' ⟨M', L', hP, hO'⟩ => h _ M' L' H' hP hO'.aFp
      · exact ⟨y, h y M L H (hy (hb.symm.trans hg)) (hO.pick ix hnd hp)⟩
    · simp at hd
  · simp at hd

end
theorem EC {N : Nat} {Q : Exit → Env → aS → List Nat → Prop} {ds : List Nat} {e : Exit} {T : Env} {H H0 : aS} {E : List Nat} {G : Gs} {L : OL} {β : Type} {f : β → V} {m : List (ByteArray × β)} {bs : List Nat} {l clock : Nat} (hO : aN ⟨H0, E, (l, xM f m bs clock) :: G⟩ H L)
    (h : ∀ H', aN ⟨H0, E, (l, lX f m) :: G⟩ H' L → Cl N Q e T H' ds) : Cl N Q e T H ds :=
  LL (fun g w _ _ hg => ⟨g, ⟨hg.sr.aF7 (hO.gm 0 _ rfl).2 (s' := zV RS (oZ f m)) fun _ _ _ _ ⟨es, h1, _, h3, h4, h5⟩ => ⟨es, clock, h1, h3, h4, h5⟩, hg.tr, hg.df, hg.dl, hg.sz⟩, Ext.refl g w⟩) (h _ (hO.uY _))

theorem WW {S A B R : Type} {body : S ⊕ B → A → Option (S ⊕ B)} {after : S ⊕ B → Option R} {e : B} {r : R} (hb : ∀ x, body (.inr e) x = some (.inr e)) : ∀ {q : List A}, (mU body (.inr e) q).bind after = some r → after (.inr e) = some r
  | [], h => h
  | x :: q, h => by
    simp only [mU, hb, Option.bind_some] at h
    exact WW hb h

end Go.Abs
namespace Go.Abs
open Go Go.RowKit
variable {P : Program} {tt : TT} {ro : Option Nat} {N : Nat} {H : aS} {ds : List Nat} {pl : Oper → Bool}
def GW (ops : Array Oper) (i : Nat) : List Nat := match ops[i]? with
  | some o => (o.after.toList.filter fun e => Region.binds .any e).map (·.on)
  | none => []

def aFr (ops : Array Oper) : Bool := (List.range ops.size).all fun i => (GW ops i).all fun j => Nat.blt j i

abbrev VC (f : Nat → Bool) (i : Nat) : Nat → Bool := fun k => Nat.beq k i || f k

def YD (ops : Array Oper) (f : Nat → Bool) : Prop := ∀ k, f k = true → ∀ j ∈ GW ops k, f j = true

theorem UA {ops : Array Oper} {i : Nat} {o : Oper} (ho : ops[i]? = some o) {j : Nat} : j ∈ GW ops i ↔ ∃ e ∈ o.after, Region.binds .any e = true ∧ e.on = j := by
  unfold GW
  rw [ho]
  simp only [List.mem_map, List.mem_filter, Array.mem_toList_iff]
  constructor
  · rintro ⟨e, ⟨h1, h2⟩, h3⟩; exact ⟨e, h1, h2, h3⟩
  · rintro ⟨e, h1, h2, h3⟩; exact ⟨e, ⟨h1, h2⟩, h3⟩

theorem aFW (htt : iG P tt) {ops : Array Oper} {Inv : (Nat → Bool) → PE → aS → Prop} {K : PE → aS → Prop} {R : Exit → Act → World → Prop} (haft : aFr ops = true)
    (hstep : ∀ i f T H, i < ops.size → f i = false → YD ops f → (∀ j ∈ GW ops i, f j = true) → Inv f T H → RD P tt N pl ops (aH i (i + 1)) T H (fun T' H' => Inv (VC f i) T' H'))
    (hend : ∀ f T H, (∀ i, i < ops.size → f i = true) → Inv f T H → K T H) :
    ∀ (fuel : Nat) (listed : Array Bool), listed.size = ops.size → ((List.range ops.size).filter fun i => !listed.getD i false).length = fuel → YD ops (fun k => listed.getD k false) → ∀ (T : PE) (H : aS) (g : Gh) (w : World) (a : Act), Good N g w (lift T) H ds a → Inv (fun k => listed.getD k false) T H →
      (∀ T' H' g' w' a', K T' H' → Good N g' w' (lift T') H' ds a' → Ext g w g' w' → R .normal a' w') → wpAnyIn (FR ro) 0 P .any ops R fuel listed a w := by
  have hun0 : ∀ (listed : Array Bool) (i : Nat), listed.size = ops.size → i < ops.size → listed.getD i true = listed.getD i false := by
    intro listed i hs hi
    rw [Array.getD_eq_getD_getElem?, Array.getD_eq_getD_getElem?, Array.getElem?_eq_getElem (by rw [hs]; exact hi)]
    rfl
  intro fuel
  induction fuel with
  | zero =>
    intro listed hsz hL hcl T H g w a hg h hr
    have hall : ∀ i, i < ops.size → listed.getD i false = true := by
      intro i hi
      have := List.length_eq_zero_iff.1 hL
      rw [List.filter_eq_nil_iff] at this
      have := this i (List.mem_range.2 hi)
      simpa using this
    refine ⟨?_, hr T H g w a (hend _ T H hall h) hg (Ext.refl g w)⟩
    rw [List.eq_nil_iff_forall_not_mem]
    intro i hi
    obtain ⟨h0, o, ho, _⟩ := mem_ready.1 hi
    have hlt := (Array.getElem?_eq_some_iff.1 ho).1
    rw [hun0 listed i hsz hlt, hall i hlt] at h0
    cases h0
  | succ fuel ih =>
    intro listed hsz hL hcl T H g w a hg h hr
    refine ⟨fun hnil => ?_, fun i hi => ?_⟩
    · exfalso
      have hex : ∃ i, i < ops.size ∧ listed.getD i false = false := by
        cases hf : (List.range ops.size).filter fun i => !listed.getD i false with
        | nil => rw [hf] at hL; simp at hL
        | cons i r =>
          have : i ∈ (List.range ops.size).filter fun i => !listed.getD i false := by rw [hf]; exact List.mem_cons_self ..
          rw [List.mem_filter, List.mem_range] at this
          exact ⟨i, this.1, by simpa using this.2⟩
      have hmin : ∀ n i, i ≤ n → i < ops.size → listed.getD i false = false → ∃ m, m < ops.size ∧ listed.getD m false = false ∧ ∀ j, j < m → listed.getD j false = true := by
        intro n
        induction n with
        | zero => intro i hi hl hf; exact ⟨i, hl, hf, fun j hj => by omega⟩
        | succ n ihn =>
          intro i hi hl hf
          cases Classical.em (∃ j, j < i ∧ listed.getD j false = false) with
          | inl hj => obtain ⟨j, hj, hjf⟩ := hj; exact ihn j (by omega) (by omega) hjf
          | inr hj => exact ⟨i, hl, hf, fun j hji => by
              cases hx : listed.getD j false with
              | true => rfl
              | false => exact absurd ⟨j, hji, hx⟩ hj⟩
      obtain ⟨i0, hi0, hf0⟩ := hex
      obtain ⟨m, hm, hmf, hless⟩ := hmin i0 i0 (Nat.le_refl _) hi0 hf0
      have hrd : m ∈ Region.ready .any ops listed := by
        refine mem_ready.2 ⟨by rw [hun0 listed m hsz hm]; exact hmf, ops[m], Array.getElem?_eq_getElem hm, fun e he hb => ?_⟩
        refine hless _ ?_
        have h1 := List.all_eq_true.1 haft m (List.mem_range.2 hm)
        have h2 := List.all_eq_true.1 h1 e.on ((UA (Array.getElem?_eq_getElem hm)).2 ⟨e, he, hb, rfl⟩)
        exact Nat.le_of_ble_eq_true h2
      rw [hnil] at hrd; cases hrd
    · obtain ⟨h0, oi, hoi, hall⟩ := mem_ready.1 hi
      have hlt := (Array.getElem?_eq_some_iff.1 hoi).1
      have hun : listed.getD i false = false := by rw [← hun0 listed i hsz hlt]; exact h0
      have hdeps : ∀ j ∈ GW ops i, listed.getD j false = true := by
        intro j hj
        obtain ⟨e, he, hb, rfl⟩ := (UA hoi).1 hj
        exact hall e he hb
      have hs := hstep i (fun k => listed.getD k false) T H hlt hun hcl hdeps h
      have hf1 : aH i (i + 1) = [i] := by simp [aH]
      rw [hf1] at hs
      obtain ⟨o', ho', hs⟩ := hs
      rw [hoi] at ho'; cases ho'
      have hge : ∀ k, (listed.setIfInBounds i true).getD k false = (Nat.beq k i || listed.getD k false) := by
        intro k
        by_cases hki : k = i
        · subst hki
          rw [Array.getD_eq_getD_getElem?, Array.getElem?_setIfInBounds]
          simp [hsz, hlt]
        · rw [getD_set_ne false (Ne.symm hki)]
          have : Nat.beq k i = false := by
            cases hb : Nat.beq k i with
            | false => rfl
            | true => exact absurd (Nat.eq_of_beq_eq_true hb) hki
          rw [this]; rfl
      refine OK htt hoi hs hg ?_
      intro T1 H1 g1 w1 a1 hn hg1 hx1
      have hfe : (fun k => (listed.setIfInBounds i true).getD k false) = VC (fun k => listed.getD k false) i := funext hge
      refine ih (listed.setIfInBounds i true) (by simp [hsz]) ?_ ?_ T1 H1 g1 w1 a1 hg1 (by rw [hfe]; exact hn) (fun T' H' g' w' a' hk hg' hx' => hr T' H' g' w' a' hk hg' (hx1.trans hx'))
      · have hcount : ∀ (L : List Nat), L.Nodup → i ∈ L → ((L.filter fun k => !(listed.setIfInBounds i true).getD k false).length) + 1 = (L.filter fun k => !listed.getD k false).length := by
          intro L
          induction L with
          | nil => intro _ hm; cases hm
          | cons x L ihL =>
            intro hnd hm
            have hnd' := List.nodup_cons.1 hnd
            by_cases hxi : x = i
            · subst hxi
              have hrest : (L.filter fun k => !(listed.setIfInBounds x true).getD k false) = L.filter fun k => !listed.getD k false := by
                refine List.filter_congr fun k hk => ?_
                have hne : k ≠ x := fun e => hnd'.1 (e ▸ hk)
                rw [getD_set_ne false (Ne.symm hne)]
              have hb : Nat.beq x x = true := Nat.beq_refl x
              rw [List.filter_cons, List.filter_cons, hge, hb, hun, hrest]
              simp
            · have hm' : i ∈ L := by
                rcases List.mem_cons.1 hm with e | e
                · exact absurd e.symm hxi
                · exact e
              have := ihL hnd'.2 hm'
              rw [List.filter_cons, List.filter_cons, getD_set_ne false (Ne.symm hxi)]
              split
              · simp only [List.length_cons]; omega
              · exact this
        have := hcount (List.range ops.size) List.nodup_range (List.mem_range.2 hlt)
        omega
      · rw [hfe]
        intro k hk j hj
        show (Nat.beq j i || listed.getD j false) = true
        replace hk : (Nat.beq k i || listed.getD k false) = true := hk
        rw [Bool.or_eq_true] at hk ⊢
        refine .inr ?_
        rcases hk with hk | hk
        · rw [Nat.eq_of_beq_eq_true hk] at hj; exact hdeps j hj
        · exact hcl k hk j hj

theorem aHo (pl : Oper → Bool) (htt : iG P tt) {c : Code} (n : Nat) {l : List (Nat × V)} {Q : Exit → Env → aS → List Nat → Prop} (Inv : (Nat → Bool) → PE → aS → Prop) (h0 : ∀ f, (∀ k, f k = false) → Inv f (PE.ofL l) H)
    (hstep : ∀ i f T H, i < n → f i = false → YD c.ops f → (∀ j ∈ GW c.ops i, f j = true) → Inv f T H → RD P tt N pl c.ops (aH i (i + 1)) T H (fun T' H' => Inv (VC f i) T' H'))
    (hend : ∀ f T H, (∀ i, i < n → f i = true) → Inv f T H → ClK l N Q .normal (lift T) H ds)
    (hm : P.follows .mixedOrders = true := by kernel_rfl) (hk : c.kind = 8 := by kernel_rfl) (hn : c.ops.size = n := by kernel_rfl) (haft : aFr c.ops = true := by kernel_rfl) : AWP P ro N c (Env.ofL l) H ds Q := by
  refine OQ ?_
  cases c with
  | region id ops draw =>
    cases draw with
    | true =>
      intro g w a R hg hr
      simp only [Code.ops] at hn haft hstep
      subst hn
      refine wpIn_region_any hm ?_
      have hg0 : Good N g w (lift (PE.ofL l)) H ds a := by rw [ZF]; exact hg
      obtain ⟨d1, d2⟩ := hg0.sr.drew
      have hfe : (fun k => (Array.replicate ops.size false).getD k false) = fun _ => false := funext fun k => EI _ k
      refine aFW (ro := ro) htt (ops := ops) (Inv := Inv) (pl := pl) haft hstep hend ops.size (Array.replicate ops.size false) (by simp) ?_ ?_ (PE.ofL l) H g _ a (hg0.step d2 d1 (hg0.tr.ext d2) rfl rfl) (by rw [hfe]; exact h0 _ fun _ => rfl)
        (fun T' H' g' w' a' hk hg' hx => hr _ _ _ _ _ _ _ hk hg' (d2.trans hx))
      · rw [List.filter_eq_self.2 (fun k _ => by rw [EI]; rfl)]
        simp
      · intro k hk
        exact absurd ((EI _ _).symm.trans hk) (by simp)
    | false => simp [Code.kind] at hk
  | _ => simp [Code.kind] at hk

def qC (T : PE) : List (Nat × V) → Prop
  | [] => True
  | p :: r => T p.1 = some p.2 ∧ qC T r

def ovP (l : List (Nat × V)) (T : PE) : PE := fun t => match PE.ofL l t with
  | some v => some v
  | none => T t

theorem qC.ofL {T : PE} : ∀ {l : List (Nat × V)}, qC T l → ∀ t v, PE.ofL l t = some v → T t = some v
  | [], _, t, v, h => by simp [PE.ofL] at h
  | p :: r, hp, t, v, h => by
    obtain ⟨h1, h2⟩ := hp
    simp only [PE.ofL, PE.set] at h
    split at h
    · rename_i hb
      cases h
      rw [Nat.eq_of_beq_eq_true hb]; exact h1
    · exact qC.ofL h2 t v h

theorem LO {l : List (Nat × V)} {T : PE} (h : qC T l) : ovP l T = T := by
  funext t
  unfold ovP
  split
  · rename_i v hv
    exact (h.ofL t v hv).symm
  · rfl

theorem aCB {ops : Array Oper} {is : List Nat} {T : PE} {K : PE → aS → Prop} (l : List (Nat × V)) (hT : qC T l) (h : RD P tt N pl ops is (ovP l T) H K) : RD P tt N pl ops is T H K := by rw [LO hT] at h; exact h

def sK (f : Nat → Bool) (T : PE) : List (Nat × Nat × V) → Prop
  | [] => True
  | p :: r => (f p.1 = true → T p.2.1 = some p.2.2) ∧ sK f T r

def aAc (i d : Nat) (x : V) : List (Nat × Nat × V) → Prop
  | [] => True
  | p :: r => ((Nat.beq p.2.1 d = true ∧ p.2.2 = x) ∨ (Nat.beq p.2.1 d = false ∧ Nat.beq p.1 i = false)) ∧ aAc i d x r

def aAo (i : Nat) : List (Nat × Nat × V) → Bool
  | [] => true
  | p :: r => !Nat.beq p.1 i && aAo i r

def XS (d : Nat) : List (Nat × V) → Bool
  | [] => true
  | p :: r => !Nat.beq p.1 d && XS d r

theorem qC.put {T : PE} {d : Nat} (x : V) : ∀ {l : List (Nat × V)}, qC T l → XS d l = true → qC (T.bP (some d) x) l
  | [], _, _ => trivial
  | p :: r, h, hf => by
    simp only [XS, Bool.and_eq_true, Bool.not_eq_true'] at hf
    refine ⟨?_, qC.put x h.2 hf.2⟩
    show (T.set d x) p.1 = _
    simp only [PE.set, hf.1]
    exact h.1

theorem sK.put {f : Nat → Bool} {T : PE} {i d : Nat} {x : V} : ∀ {l : List (Nat × Nat × V)}, sK f T l → aAc i d x l → sK (VC f i) (T.bP (some d) x) l
  | [], _, _ => trivial
  | p :: r, h, hs => by
    refine ⟨fun hp => ?_, sK.put h.2 hs.2⟩
    show (T.set d x) p.2.1 = _
    simp only [PE.set]
    rcases hs.1 with ⟨h1, h2⟩ | ⟨h1, h2⟩
    · rw [h1, h2]
    · rw [h1]
      replace hp : (Nat.beq p.1 i || f p.1) = true := hp
      rw [h2, Bool.false_or] at hp
      exact h.1 hp

theorem sK.stay {f : Nat → Bool} {T : PE} {i : Nat} : ∀ {l : List (Nat × Nat × V)}, sK f T l → aAo i l = true → sK (VC f i) T l
  | [], _, _ => trivial
  | p :: r, h, hs => by
    simp only [aAo, Bool.and_eq_true, Bool.not_eq_true'] at hs
    refine ⟨fun hp => ?_, sK.stay h.2 hs.2⟩
    replace hp : (Nat.beq p.1 i || f p.1) = true := hp
    rw [hs.1, Bool.false_or] at hp
    exact h.1 hp

theorem sK.start {f : Nat → Bool} (hf : ∀ k, f k = false) {T : PE} : ∀ (l : List (Nat × Nat × V)), sK f T l
  | [] => trivial
  | p :: r => ⟨fun h => by rw [hf] at h; (cases h), sK.start hf r⟩

theorem sK.done {f : Nat → Bool} {T : PE} {n : Nat} (hf : ∀ k, k < n → f k = true) : ∀ {l : List (Nat × Nat × V)}, sK f T l → (l.all fun p => Nat.blt p.1 n) = true → qC T (l.map (·.2))
  | [], _, _ => trivial
  | p :: r, h, hn => by
    rw [List.all_cons, Bool.and_eq_true] at hn
    exact ⟨h.1 (hf _ (Nat.le_of_ble_eq_true hn.1)), sK.done hf h.2 hn.2⟩

theorem qC.append {T : PE} : ∀ {l m : List (Nat × V)}, qC T l → qC T m → qC T (l ++ m)
  | [], _, _, h => h
  | _ :: _, _, h1, h2 => ⟨h1.1, h1.2.append h2⟩

theorem qC.aHi : ∀ (l : List (Nat × V)), (l.map (·.1)).Nodup → qC (PE.ofL l) l
  | [], _ => trivial
  | p :: r, hn => by
    rw [List.map_cons, List.nodup_cons] at hn
    refine ⟨by simp [PE.ofL, PE.set], ?_⟩
    have : ∀ (m : List (Nat × V)), (∀ q ∈ m, q.1 ≠ p.1) → qC (PE.ofL r) m → qC (PE.ofL (p :: r)) m := by
      intro m
      induction m with
      | nil => intro _ _; trivial
      | cons q m ih =>
        intro hq hm
        refine ⟨?_, ih (fun x hx => hq x (List.mem_cons_of_mem _ hx)) hm.2⟩
        simp only [PE.ofL, PE.set]
        have hb : Nat.beq q.1 p.1 = false := by
          cases hb : Nat.beq q.1 p.1 with
          | false => rfl
          | true => exact absurd (Nat.eq_of_beq_eq_true hb) (hq q (List.mem_cons_self ..))
        rw [hb]; exact hm.1
    exact this r (fun q hq e => hn.1 (e ▸ List.mem_map_of_mem hq)) (qC.aHi r hn.2)

theorem aGO {Q : Exit → Env → aS → List Nat → Prop} {X : Env → aS → List Nat → Prop} {T : PE} (l : List (Nat × V)) (m : List (Nat × V)) (hT : qC T m) (next : X (Env.ofL l) H ds)
    (h : l.map (fun p => ovP m T p.1) = l.map (fun p => some p.2) := by kernel_rfl) : Cl N (uD X Q) .normal (lift T) H ds := by
  rw [LO hT] at h
  refine dX (l := l) (.eq ?_) (aK next)
  have : ∀ (l : List (Nat × V)), l.map (fun p => T p.1) = l.map (fun p => some p.2) → l.map (fun p => lift T p.1) = l.map (fun p => some ([], p.2)) := by
    intro l
    induction l with
    | nil => intro _; rfl
    | cons p r ih =>
      intro h
      simp only [List.map_cons, List.cons.injEq] at h ⊢
      exact ⟨by simp [lift, h.1], ih h.2⟩
  exact this l h

theorem qC.BB {T : PE} {dO : Option Tmp} {l : List (Nat × V)} (d : Nat) (x : V) (h : qC T l) (hd : dO = some d := by kernel_rfl) (hf : XS d l = true := by kernel_rfl) : qC (T.bP dO x) l := by
  subst hd; exact h.put x hf

theorem sK.BB {f : Nat → Bool} {T : PE} {i : Nat} {dO : Option Tmp} {x : V} {l : List (Nat × Nat × V)} (d : Nat) (h : sK f T l) (hs : aAc i d x l) (hd : dO = some d := by kernel_rfl) : sK (VC f i) (T.bP dO x) l := by
  subst hd; exact h.put hs

theorem yO {j : Nat} {l : List Nat} (h : l.any (Nat.beq j) = true) : j ∈ l := by
  obtain ⟨x, hx, e⟩ := List.any_eq_true.1 h
  rw [Nat.eq_of_beq_eq_true e]; exact hx

theorem aCp {ops : Array Oper} {i : Nat} {T : PE} {K : PE → aS → Prop} (l : List (Nat × V)) (d : Nat) (x : V) (hT : qC T l) (h : K (T.bP (some d) x) H) (hc : EE tt N ops (aH i (i + 1)) (ovP l T) = some [] := by kernel_rfl)
    (he : DT tt ops (aH i (i + 1)) (ovP l T) = (ovP l T).bP (some d) x := by kernel_rfl) : RD P tt N pl ops (aH i (i + 1)) T H K := by
  refine aCB l hT (MH hc trivial ?_)
  rw [he, LO hT]; exact h

end Go.Abs
namespace Go.Abs
open Go
structure aE where
  Kind : Int
  Num : Int
  Text : ByteArray
  deriving Inhabited, DecidableEq

def QH (x : aE) : List V := [(bN .i64 x.Kind)] ++ [(bN .i64 x.Num)] ++ [(pZ x.Text)]

def aM (x : aE) : V := .agg (QH x)

structure aI where
  Row : (List aE)
  At : Int
  Net : Int
  deriving Inhabited, DecidableEq

def UG (x : aI) : List V := [(eL aM x.Row)] ++ [(bN .i64 x.At)] ++ [(bN .i64 x.Net)]

def aO (x : aI) : V := .agg (UG x)

structure aD where
  At : Int
  Net : Int
  deriving Inhabited, DecidableEq

def aCt (x : aD) : List V := [(bN .i64 x.At)] ++ [(bN .i64 x.Net)]

def aL (x : aD) : V := .agg (aCt x)

structure aC where
  row : (List aE)
  jumps : (List aD)
  deriving Inhabited, DecidableEq

def aCh (x : aC) : List V := [(eL aM x.row)] ++ [(eL aL x.jumps)]

def aB (x : aC) : V := .agg (aCh x)

inductive bI where
  | none_
  | k_number (x : Int)
  | k_words (x : ByteArray)
  deriving DecidableEq

instance : Inhabited bI := ⟨.none_⟩

def bE : bI → V
  | .none_ => .lit .nilIface
  | .k_number x => .ifc 105 (bN .i64 x)
  | .k_words x => .ifc 109 (pZ x)

structure bU where
  cells : List (ByteArray × aC)
  edges : Int
  mark : Int
  deriving Inhabited, DecidableEq

def pM (lo lm : Nat) (b : bU) : Nat × Nat × List V := (lo, 3, [(.agg [.mp lm, eI b.edges, eI b.mark])])

def fJ (lm : Nat) (b : bU) : Nat × dS := (lm, lX aB b.cells)

def lH (m : List (ByteArray × aC)) (k : ByteArray) : List aD := ((vM m k).getD default).jumps

noncomputable def BM : Option bU := some ⟨[], 0, -1⟩

noncomputable def wG (l0 : (List aI)) : Option ((List aI)) :=
  some l0

noncomputable def kM  : Option Bool :=
  some true

noncomputable def iD (s10 : (List aE)) (s21 : (List aE)) (t12 : Int) (t13 : Int) : Option ((Int) ⊕ (Unit ⊕ Bool)) :=
  cond (decide (t13 < t12))
  (aT (0 ≤ t13 ∧ t13 < ((List.length s10 : Nat) : Int)) <|
  aT (0 ≤ t13 ∧ t13 < ((List.length s21 : Nat) : Int)) <|
  cond (!((decide (((List.getD s10 (Int.toNat t13) default).Kind) = ((List.getD s21 (Int.toNat t13) default).Kind))) && ((decide (((List.getD s10 (Int.toNat t13) default).Num) = ((List.getD s21 (Int.toNat t13) default).Num))) && ((sA ((List.getD s10 (Int.toNat t13) default).Text) ((List.getD s21 (Int.toNat t13) default).Text)) && true))))
  (some (.inr (.inr false)))
  (some (.inl (IntKind.i64.wrap (t13 + (1 : Int))))))
  (some (.inr (.inl ())))

noncomputable def mV (s10 : (List aE)) (s21 : (List aE)) (t12 : Int) (t13 : Int) : Option Bool :=
  (lp (fun s => iD s10 s21 t12 s) t13).bind (Sum.elim (fun rr => kM ) (fun rr => some rr))

noncomputable def mZ (s10 : (List aE)) (s21 : (List aE)) : Option Bool :=
  cond (!decide (((List.length s10 : Nat) : Int) = ((List.length s21 : Nat) : Int)))
  (some false)
  (mV s10 s21 ((List.length s10 : Nat) : Int) (0 : Int))

noncomputable def CH (a0 : (List aE)) (b1 : (List aE)) : Option Bool :=
  (mZ a0 b1).bind fun x1 =>
  some x1

noncomputable def yH (r0 : (List aE)) : Option (List aE) :=
  aT (0 ≤ ((List.length r0 : Nat) : Int) ∧ (32 : Int) * ((List.length r0 : Nat) : Int) ≤ 281474976710656 ∧ ((List.length r0 : Nat) : Int) ≤ 9223372036854775807) <|
  aT ((List.length ([] : List aE) + List.length r0) * 32 ≤ 140737488355328 ∧ List.length ([] : List aE) + List.length r0 ≤ 9223372036854775807) <|
  some (([] : List aE) ++ r0)

noncomputable def sN {σ : Type} (kN : σ → (List aE) → (List aD) → Option (σ × Bool)) (sg : σ) (t1 : (List aI)) (i3 : Int) (r4 : (List aE)) (f5 : List aD) : Option ((σ × Int) ⊕ (σ ⊕ σ)) :=
  (yH r4).bind fun x7 =>
  (kN sg x7 f5).bind fun x10 =>
  cond (!x10.2)
  (some (.inr (.inr x10.1)))
  (some (.inl (x10.1, i3)))

noncomputable def mY {σ : Type} (kN : σ → (List aE) → (List aD) → Option (σ × Bool)) (t1 : (List aI)) (r4 : (List aE)) (sg : σ) (i3 : Int) (f5 : List aD) : Option ((σ × Int × List aD) ⊕ ((σ × Int × List aD))) :=
  aT ((((decide (i3 < ((List.length t1 : Nat) : Int)))) = true → 0 ≤ i3 ∧ i3 < ((List.length t1 : Nat) : Int))) <|
  (cX (decide (i3 < ((List.length t1 : Nat) : Int))) (CH ((List.getD t1 (Int.toNat i3) default).Row) r4)).bind fun x16 =>
  cond ((decide (i3 < ((List.length t1 : Nat) : Int))) && x16)
  (aT (0 ≤ i3 ∧ i3 < ((List.length t1 : Nat) : Int)) <|
  aT (0 ≤ i3 ∧ i3 < ((List.length t1 : Nat) : Int)) <|
  aT ((List.length f5 + List.length ([aD.mk ((List.getD t1 (Int.toNat i3) default).At) ((List.getD t1 (Int.toNat i3) default).Net)])) * 16 ≤ 140737488355328 ∧ List.length f5 + List.length ([aD.mk ((List.getD t1 (Int.toNat i3) default).At) ((List.getD t1 (Int.toNat i3) default).Net)]) ≤ 9223372036854775807) <|
  some (.inl (sg, IntKind.i64.wrap (i3 + (1 : Int)), f5 ++ ([aD.mk ((List.getD t1 (Int.toNat i3) default).At) ((List.getD t1 (Int.toNat i3) default).Net)]))))
  (some (.inr (sg, i3, f5)))

noncomputable def vE {σ : Type} (kN : σ → (List aE) → (List aD) → Option (σ × Bool)) (sg : σ) (t1 : (List aI)) (i3 : Int) (r4 : (List aE)) (f5 : List aD) : Option ((σ × Int) ⊕ (σ ⊕ σ)) :=
  (lp (fun s => mY kN t1 r4 s.1 s.2.1 s.2.2) (sg, i3, f5)).bind (fun rr => sN kN rr.1 t1 rr.2.1 r4 rr.2.2)

noncomputable def mC {σ : Type} (kN : σ → (List aE) → (List aD) → Option (σ × Bool)) (t1 : (List aI)) (sg : σ) (i3 : Int) : Option ((σ × Int) ⊕ (σ ⊕ σ)) :=
  cond (decide (i3 < ((List.length t1 : Nat) : Int)))
  (aT (0 ≤ i3 ∧ i3 < ((List.length t1 : Nat) : Int)) <|
  vE kN sg t1 i3 ((List.getD t1 (Int.toNat i3) default).Row) ([] : List aD))
  (some (.inr (.inl sg)))

noncomputable def vA {σ : Type} (kN : σ → (List aE) → (List aD) → Option (σ × Bool)) (sg : σ) (t1 : (List aI)) (i3 : Int) : Option σ :=
  (lp (fun s => mC kN t1 s.1 s.2) (sg, i3)).bind (Sum.elim (fun rr => some rr) (fun rr => some rr))

noncomputable def rG {σ : Type} (kN : σ → (List aE) → (List aD) → Option (σ × Bool)) (t1 : (List aI)) (sg0 : σ) : Option σ :=
  vA kN sg0 t1 (0 : Int)

noncomputable def iP (f1 : aE → Option Bool)  : Option Int :=
  some (-1 : Int)

noncomputable def lS (f1 : aE → Option Bool) (s0 : (List aE)) (t7 : Int) (t8 : Int) : Option ((Int) ⊕ (Unit ⊕ Int)) :=
  cond (decide (t8 < t7))
  (aT (0 ≤ t8 ∧ t8 < ((List.length s0 : Nat) : Int)) <|
  (f1 (List.getD s0 (Int.toNat t8) default)).bind fun x3 =>
  cond x3
  (some (.inr (.inr t8)))
  (some (.inl (IntKind.i64.wrap (t8 + (1 : Int))))))
  (some (.inr (.inl ())))

noncomputable def lR (f1 : aE → Option Bool) (s0 : (List aE)) (t7 : Int) (t8 : Int) : Option Int :=
  (lp (fun s => lS f1 s0 t7 s) t8).bind (Sum.elim (fun rr => iP f1 ) (fun rr => some rr))

noncomputable def mA (s0 : (List aE)) (f1 : aE → Option Bool) : Option Int :=
  lR f1 s0 ((List.length s0 : Nat) : Int) (0 : Int)

noncomputable def gW (s0 : (List aE)) (f1 : aE → Option Bool) : Option Bool :=
  (mA s0 f1).bind fun x1 =>
  some (decide ((0 : Int) ≤ x1))

noncomputable def oY (v0 : aE) : Option (bI × Bool) :=
  cond ((decide (v0.Kind = (1 : Int))) && (sA v0.Text (⟨#[]⟩ : ByteArray)))
  (some (bI.k_number v0.Num, true))
  (cond (((decide (v0.Kind = (2 : Int))) && (decide (v0.Num = (0 : Int)))) && (decide (((ByteArray.size v0.Text : Nat) : Int) ≤ (64 : Int))))
  (some (bI.k_words v0.Text, true))
  (some (bI.none_, false)))

noncomputable def zY (v0 : aE) : Option Bool :=
  (oY v0).bind fun (x1_0, x1_1) =>
  match x1_0 with
  | .none_ => (some x1_1)
  | .k_number y4 => (some x1_1)
  | .k_words y5 => (some x1_1)

noncomputable def AM (v0 : aE) : Option Bool :=
  (zY v0).bind fun x1 =>
  some (!x1)

noncomputable def tQ (r0 : (List aE)) : Option Bool :=
  cond (decide ((8 : Int) < ((List.length r0 : Nat) : Int)))
  (some false)
  ((gW r0 (fun y0 => AM y0)).bind fun x2 =>
  some (!x2))

noncomputable def wT (t0 : (List aE)) : Option ((Int × (List aE))) :=
  some ((-1 : Int), t0)

noncomputable def gV {σ : Type} (f1 : σ → aE → Option (σ × Bool)) (sg : σ) : Option (σ × Int) :=
  some (sg, (-1 : Int))

noncomputable def cK {σ : Type} (f1 : σ → aE → Option (σ × Bool)) (s0 : (List aE)) (t7 : Int) (sg : σ) (t8 : Int) : Option ((σ × Int) ⊕ (σ ⊕ (σ × Int))) :=
  cond (decide (t8 < t7))
  (aT (0 ≤ t8 ∧ t8 < ((List.length s0 : Nat) : Int)) <|
  (f1 sg (List.getD s0 (Int.toNat t8) default)).bind fun x3 =>
  cond x3.2
  (some (.inr (.inr (x3.1, t8))))
  (some (.inl (x3.1, IntKind.i64.wrap (t8 + (1 : Int))))))
  (some (.inr (.inl sg)))

noncomputable def lA {σ : Type} (f1 : σ → aE → Option (σ × Bool)) (sg : σ) (s0 : (List aE)) (t7 : Int) (t8 : Int) : Option (σ × Int) :=
  (lp (fun s => cK f1 s0 t7 s.1 s.2) (sg, t8)).bind (Sum.elim (fun rr => gV f1 rr) (fun rr => some (rr.1, rr.2)))

noncomputable def lI {σ : Type} (s0 : (List aE)) (f1 : σ → aE → Option (σ × Bool)) (sg0 : σ) : Option (σ × Int) :=
  lA f1 sg0 s0 ((List.length s0 : Nat) : Int) (0 : Int)

noncomputable def nJ (v0 : aE) (t1 : Int) (t2 : (List aE)) : Option (Bool × Int) :=
  aT (0 ≤ (IntKind.i64.wrap (t1 + (1 : Int))) ∧ (IntKind.i64.wrap (t1 + (1 : Int))) < ((List.length t2 : Nat) : Int)) <|
  some ((!((decide (v0.Kind = ((List.getD t2 (Int.toNat (IntKind.i64.wrap (t1 + (1 : Int)))) default).Kind))) && ((decide (v0.Num = ((List.getD t2 (Int.toNat (IntKind.i64.wrap (t1 + (1 : Int)))) default).Num))) && ((sA v0.Text ((List.getD t2 (Int.toNat (IntKind.i64.wrap (t1 + (1 : Int)))) default).Text)) && true)))), (IntKind.i64.wrap (t1 + (1 : Int))))

noncomputable def pK (x0 : Int) : Option Bool :=
  some (!decide (x0 = x0))

noncomputable def rO (x0 : Int) (y1 : Int) : Option Int :=
  (pK x0).bind fun x1 =>
  (pK y1).bind fun x4 =>
  cond x1
  (cond x4
  (some (0 : Int))
  (some (-1 : Int)))
  (cond x4
  (some (1 : Int))
  (cond (decide (x0 < y1))
  (some (-1 : Int))
  (cond (decide (y1 < x0))
  (some (1 : Int))
  (some (0 : Int)))))

noncomputable def oJ (x0 : Int) : Option Bool :=
  some (!decide (x0 = x0))

noncomputable def jR (x0 : Int) (y1 : Int) : Option Int :=
  (oJ x0).bind fun x1 =>
  (oJ y1).bind fun x4 =>
  cond x1
  (cond x4
  (some (0 : Int))
  (some (-1 : Int)))
  (cond x4
  (some (1 : Int))
  (cond (decide (x0 < y1))
  (some (-1 : Int))
  (cond (decide (y1 < x0))
  (some (1 : Int))
  (some (0 : Int)))))

noncomputable def mX (a0 : ByteArray) (b1 : ByteArray) : Option Int :=
  some (VM a0 b1)

noncomputable def qL (a0 : ByteArray) (b1 : ByteArray) : Option Int :=
  (mX a0 b1).bind fun x1 =>
  some x1

noncomputable def tM (a0 : aE) (b1 : aE) : Option Int :=
  (oY a0).bind fun (x1_0, x1_1) =>
  match x1_0 with
  | .none_ => ((oY b1).bind fun (x6_0, x6_1) =>
  match x6_0 with
  | .none_ => (cond ((!x1_1) || (!x6_1))
  (some (0 : Int))
  (none))
  | .k_number y9 => (cond ((!x1_1) || (!x6_1))
  (some (0 : Int))
  (some (1 : Int)))
  | .k_words y10 => (cond ((!x1_1) || (!x6_1))
  (some (0 : Int))
  (none)))
  | .k_number y4 => ((oY b1).bind fun (x23_0, x23_1) =>
  match x23_0 with
  | .none_ => (cond ((!x1_1) || (!x23_1))
  (some (0 : Int))
  (some (-1 : Int)))
  | .k_number y26 => (cond ((!x1_1) || (!x23_1))
  (some (0 : Int))
  ((jR y4 y26).bind fun x33 =>
  some x33))
  | .k_words y27 => (cond ((!x1_1) || (!x23_1))
  (some (0 : Int))
  (some (-1 : Int))))
  | .k_words y5 => ((oY b1).bind fun (x39_0, x39_1) =>
  match x39_0 with
  | .none_ => (cond ((!x1_1) || (!x39_1))
  (some (0 : Int))
  (none))
  | .k_number y42 => (cond ((!x1_1) || (!x39_1))
  (some (0 : Int))
  (some (1 : Int)))
  | .k_words y43 => (cond ((!x1_1) || (!x39_1))
  (some (0 : Int))
  ((qL y5 y43).bind fun x56 =>
  some x56)))

noncomputable def tI (a0 : (List aE)) (b1 : (List aE)) : Option Int :=
  (tQ a0).bind fun x1 =>
  (cX (!(!x1)) (tQ b1)).bind fun x4 =>
  cond ((!x1) || (!x4))
  (some (0 : Int))
  (aT (0 ≤ (if ((List.length b1 : Nat) : Int) < ((List.length a0 : Nat) : Int) then ((List.length b1 : Nat) : Int) else ((List.length a0 : Nat) : Int)) ∧ (if ((List.length b1 : Nat) : Int) < ((List.length a0 : Nat) : Int) then ((List.length b1 : Nat) : Int) else ((List.length a0 : Nat) : Int)) ≤ ((List.length a0 : Nat) : Int)) <|
  (wT b1).bind fun x9 =>
  (lI (List.take (Int.toNat (if ((List.length b1 : Nat) : Int) < ((List.length a0 : Nat) : Int) then ((List.length b1 : Nat) : Int) else ((List.length a0 : Nat) : Int))) a0) (fun st y0 => (nJ y0 st x9.2).bind fun o => some (o.2, o.1)) x9.1).bind fun x12 =>
  cond (decide (x12.2 < (0 : Int)))
  ((rO ((List.length a0 : Nat) : Int) ((List.length b1 : Nat) : Int)).bind fun x15 =>
  some x15)
  (aT (0 ≤ x12.2 ∧ x12.2 < ((List.length a0 : Nat) : Int)) <|
  aT (0 ≤ x12.2 ∧ x12.2 < ((List.length b1 : Nat) : Int)) <|
  (tM (List.getD a0 (Int.toNat x12.2) default) (List.getD b1 (Int.toNat x12.2) default)).bind fun x20 =>
  some x20))

noncomputable def sJ (xY : (List aD) → Option Bool) (yK : (List aI)) (t4 : Bool) (rZ : (List aE)) (nR : Bool) (t14 : (List aE)) (t15 : (List aD)) : Option ((Bool × (List aE) × Bool) ⊕ (Bool × (List aE) × Bool)) :=
  (tQ t14).bind fun x7 =>
  (cX (nR && (!(!x7))) (tI rZ t14)).bind fun x12 =>
  (cX (!((!x7) || (nR && (decide ((0 : Int) ≤ x12))))) (xY t15)).bind fun x15 =>
  cond (((!x7) || (nR && (decide ((0 : Int) ≤ x12)))) || (!x15))
  (some (.inr (false, rZ, nR)))
  (some (.inl (t4, t14, true)))

noncomputable def CE (xY : (List aD) → Option Bool) (t4 : Bool) (rZ : (List aE)) (nR : Bool) (yK : (List aI)) : Option Bool :=
  (rG (fun st t14 t15 => rnd (fun (s : Bool × (List aE) × Bool) => sJ xY yK s.1 s.2.1 s.2.2 t14 t15) st) yK (.inl (t4, rZ, nR))).bind (Sum.elim (fun (s : Bool × (List aE) × Bool) =>
  (some true))
  (fun (s : Bool × (List aE) × Bool) =>
  (some s.1)))

noncomputable def zX (l0 : (List aI)) (xY : (List aD) → Option Bool) : Option Bool :=
  cond (decide ((4096 : Int) < ((List.length l0 : Nat) : Int)))
  (some false)
  ((wG l0).bind fun x5 =>
  CE xY false ([]) false x5)

noncomputable def DS (n0 : Int) : Option Bool :=
  some ((decide (n0 ≤ (1048576 : Int))) && (decide ((-1048576 : Int) ≤ n0)))

noncomputable def AD  : Option Bool :=
  some true

noncomputable def qF (t9 : (List aD)) (t10 : Int) (uE : Int) (t11 : Int) : Option ((Int × Int) ⊕ (Unit ⊕ Bool)) :=
  cond (decide (t11 < t10))
  (aT (0 ≤ t11 ∧ t11 < ((List.length t9 : Nat) : Int)) <|
  (cX (!(((decide (((List.getD t9 (Int.toNat t11) default).At) ≤ uE)) || (decide ((1125899906842624 : Int) ≤ ((List.getD t9 (Int.toNat t11) default).At)))) || (decide (((List.getD t9 (Int.toNat t11) default).Net) = (0 : Int))))) (DS ((List.getD t9 (Int.toNat t11) default).Net))).bind fun x8 =>
  cond ((((decide (((List.getD t9 (Int.toNat t11) default).At) ≤ uE)) || (decide ((1125899906842624 : Int) ≤ ((List.getD t9 (Int.toNat t11) default).At)))) || (decide (((List.getD t9 (Int.toNat t11) default).Net) = (0 : Int)))) || (!x8))
  (some (.inr (.inr false)))
  (some (.inl ((List.getD t9 (Int.toNat t11) default).At, IntKind.i64.wrap (t11 + (1 : Int))))))
  (some (.inr (.inl ())))

noncomputable def DU (uE : Int) (t9 : (List aD)) (t10 : Int) (t11 : Int) : Option Bool :=
  (lp (fun s => qF t9 t10 s.1 s.2) (uE, t11)).bind (Sum.elim (fun rr => AD ) (fun rr => some rr))

noncomputable def pS (f0 : (List aD)) : Option Bool :=
  cond (decide ((1024 : Int) < ((List.length f0 : Nat) : Int)))
  (some false)
  (DU (-2 : Int) f0 ((List.length f0 : Nat) : Int) (0 : Int))

noncomputable def yI (l0 : (List aI)) : Option Bool :=
  (zX l0 (fun y0 => pS y0)).bind fun x1 =>
  some x1

noncomputable def oK {σ : Type} (kN : σ → (List aE) → (List aD) → Option (σ × Bool)) (t9c0 : (List aI)) (sg : σ) (t10 : (List aE)) (t11 : (List aD)) : Option ((σ) ⊕ (σ)) :=
  (kN sg t10 t11).bind fun x7 =>
  cond (!x7.2)
  (some (.inr x7.1))
  (some (.inl x7.1))

noncomputable def tP {σ : Type} (kN : σ → (List aE) → (List aD) → Option (σ × Bool)) (sg : σ) (t9c0 : (List aI)) : Option σ :=
  (rG (fun st t10 t11 => rnd (fun (s : σ) => oK kN t9c0 s t10 t11) st) t9c0 (.inl sg)).bind (Sum.elim (fun (s : σ) =>
  (some s))
  (fun (s : σ) =>
  (some s)))

noncomputable def rJ {σ : Type} (kN : σ → (List aE) → (List aD) → Option (σ × Bool)) (t1 : (List aI)) (sg0 : σ) : Option σ :=
  (yI t1).bind fun x1 =>
  cond (!x1)
  (some sg0)
  ((wG t1).bind fun x5 =>
  tP kN sg0 x5)

noncomputable def kY {σ : Type} (f1 : σ → aI → Option (σ × Bool)) (sg : σ) : Option (σ × Int) :=
  some (sg, (-1 : Int))

noncomputable def dL {σ : Type} (f1 : σ → aI → Option (σ × Bool)) (s0 : (List aI)) (t7 : Int) (sg : σ) (t8 : Int) : Option ((σ × Int) ⊕ (σ ⊕ (σ × Int))) :=
  cond (decide (t8 < t7))
  (aT (0 ≤ t8 ∧ t8 < ((List.length s0 : Nat) : Int)) <|
  (f1 sg (List.getD s0 (Int.toNat t8) default)).bind fun x3 =>
  cond x3.2
  (some (.inr (.inr (x3.1, t8))))
  (some (.inl (x3.1, IntKind.i64.wrap (t8 + (1 : Int))))))
  (some (.inr (.inl sg)))

noncomputable def lB {σ : Type} (f1 : σ → aI → Option (σ × Bool)) (sg : σ) (s0 : (List aI)) (t7 : Int) (t8 : Int) : Option (σ × Int) :=
  (lp (fun s => dL f1 s0 t7 s.1 s.2) (sg, t8)).bind (Sum.elim (fun rr => kY f1 rr) (fun rr => some (rr.1, rr.2)))

noncomputable def lJ {σ : Type} (s0 : (List aI)) (f1 : σ → aI → Option (σ × Bool)) (sg0 : σ) : Option (σ × Int) :=
  lB f1 sg0 s0 ((List.length s0 : Nat) : Int) (0 : Int)

noncomputable def fN {σ : Type} (s0 : (List aI)) (f1 : σ → aI → Option (σ × Bool)) (sg0 : σ) : Option (σ × Bool) :=
  (lJ s0 f1 sg0).bind fun x1 =>
  some (x1.1, decide ((0 : Int) ≤ x1.2))

noncomputable def tE (x0 : Int) (out3 : List Int) : Option (List Int) :=
  aT ((List.length out3 + List.length ([IntKind.u8.wrap x0])) * 1 ≤ 140737488355328 ∧ List.length out3 + List.length ([IntKind.u8.wrap x0]) ≤ 9223372036854775807) <|
  some (out3 ++ ([IntKind.u8.wrap x0]))

noncomputable def tJ  (x0 : Int) (out3 : List Int) : Option ((Int × List Int) ⊕ ((Int × List Int))) :=
  cond (decide ((128 : Int) ≤ x0))
  (aT ((List.length out3 + List.length ([bM .or .u8 (IntKind.u8.wrap x0) (128 : Int)])) * 1 ≤ 140737488355328 ∧ List.length out3 + List.length ([bM .or .u8 (IntKind.u8.wrap x0) (128 : Int)]) ≤ 9223372036854775807) <|
  aT (0 ≤ (7 : Int)) <|
  some (.inl (Int.fdiv x0 (2 ^ (min (Int.toNat (7 : Int)) 64)), out3 ++ ([bM .or .u8 (IntKind.u8.wrap x0) (128 : Int)]))))
  (some (.inr (x0, out3)))

noncomputable def FL (x0 : Int) (out3 : List Int) : Option (List Int) :=
  (lp (fun s => tJ s.1 s.2) (x0, out3)).bind (fun rr => tE rr.1 rr.2)

noncomputable def xE (x0 : Int) : Option (List Int) :=
  FL x0 ([] : List Int)

noncomputable def IW (n0 : Int) : Option (List Int) :=
  aT (0 ≤ (1 : Int)) <|
  aT (0 ≤ (63 : Int)) <|
  (xE (bM .xor .u64 (IntKind.u64.wrap ((IntKind.u64.wrap n0) * 2 ^ (min (Int.toNat (1 : Int)) 64))) (IntKind.u64.wrap (Int.fdiv n0 (2 ^ (min (Int.toNat (63 : Int)) 64)))))).bind fun x3 =>
  some x3

noncomputable def qH (n0 : Int) : Option (List Int) :=
  (IW n0).bind fun x2 =>
  aT ((List.length ([(1 : Int)]) + List.length x2) * 1 ≤ 140737488355328 ∧ List.length ([(1 : Int)]) + List.length x2 ≤ 9223372036854775807) <|
  some (([(1 : Int)]) ++ x2)

noncomputable def JL (n0 : Int) : Option (List Int) :=
  cond (decide (n0 < (0 : Int)))
  (some ([] : List Int))
  ((xE (IntKind.u64.wrap n0)).bind fun x4 =>
  some x4)

noncomputable def FW (s0 : ByteArray) : Option (List Int) :=
  (JL ((ByteArray.size s0 : Nat) : Int)).bind fun x1 =>
  aT ((List.length x1 + ByteArray.size s0) * 1 ≤ 140737488355328 ∧ List.length x1 + ByteArray.size s0 ≤ 9223372036854775807) <|
  some (x1 ++ (List.map (fun b => ((UInt8.toNat b : Nat) : Int)) (ByteArray.data s0).toList))

noncomputable def qP (w0 : ByteArray) : Option (List Int) :=
  (FW w0).bind fun x2 =>
  aT ((List.length ([(2 : Int)]) + List.length x2) * 1 ≤ 140737488355328 ∧ List.length ([(2 : Int)]) + List.length x2 ≤ 9223372036854775807) <|
  some (([(2 : Int)]) ++ x2)

noncomputable def vZ (v0 : aE) : Option (List Int) :=
  (oY v0).bind fun (x1_0, x1_1) =>
  match x1_0 with
  | .none_ => (cond (!x1_1)
  (some ([]))
  (none))
  | .k_number y4 => (cond (!x1_1)
  (some ([]))
  ((qH y4).bind fun x8 =>
  some x8))
  | .k_words y5 => (cond (!x1_1)
  (some ([]))
  ((qP y5).bind fun x11 =>
  some x11))

noncomputable def CA (out3 : List Int) : Option (List Int) :=
  some out3

noncomputable def xT (t13 : (List aE)) (t14 : Int) (out3 : List Int) (t15 : Int) : Option ((List Int × Int) ⊕ ((List Int))) :=
  cond (decide (t15 < t14))
  (aT (0 ≤ t15 ∧ t15 < ((List.length t13 : Nat) : Int)) <|
  (vZ (List.getD t13 (Int.toNat t15) default)).bind fun x13 =>
  aT ((List.length out3 + List.length x13) * 1 ≤ 140737488355328 ∧ List.length out3 + List.length x13 ≤ 9223372036854775807) <|
  some (.inl (out3 ++ x13, IntKind.i64.wrap (t15 + (1 : Int)))))
  (some (.inr out3))

noncomputable def CG (out3 : List Int) (t13 : (List aE)) (t14 : Int) (t15 : Int) : Option (List Int) :=
  (lp (fun s => xT t13 t14 s.1 s.2) (out3, t15)).bind (fun rr => CA rr)

noncomputable def AP (r0 : (List aE)) : Option (List Int) :=
  (tQ r0).bind fun x1 =>
  cond (!x1)
  (some ([]))
  (CG ([IntKind.u8.wrap ((List.length r0 : Nat) : Int)]) r0 ((List.length r0 : Nat) : Int) (0 : Int))

noncomputable def BS (r0 : (List aE)) : Option ByteArray :=
  (AP r0).bind fun x1 =>
  some (strOfNums x1)

def sM (b : bU) (c : aC) (k : ByteArray) : Int := wR (b.edges + wR ((lN c.jumps) - (lN (lH b.cells k))))

noncomputable def EX (b : bU) (c : aC) : Option bU :=
  (BS c.row).bind fun k =>
  cond (decide ((lN c.jumps) = 0)) (some ⟨pX b.cells k, sM b c k, b.mark⟩) (some ⟨nC b.cells k c, sM b c k, b.mark⟩)

noncomputable def lG (s0 : (List aD)) : Option (List aD) :=
  aT (List.length s0 * 16 ≤ 140737488355328 ∧ List.length s0 ≤ 9223372036854775807) <|
  some s0

noncomputable def tY (f0 : (List aD)) : Option ((List aD) × Int) :=
  (pS f0).bind fun x1 =>
  cond (!x1)
  (some ([], (7 : Int)))
  (some (f0, (0 : Int)))

noncomputable def xL (f0 : (List aD)) (at7 : Int) (out8 : List aD) : Option ((List aD) × Int) :=
  aT (0 ≤ at7 ∧ at7 ≤ ((List.length f0 : Nat) : Int)) <|
  aT ((List.length out8 + List.length (List.drop (Int.toNat at7) f0)) * 16 ≤ 140737488355328 ∧ List.length out8 + List.length (List.drop (Int.toNat at7) f0) ≤ 9223372036854775807) <|
  (tY (out8 ++ (List.drop (Int.toNat at7) f0))).bind fun x18 =>
  some (x18.1, x18.2)

noncomputable def xZ (f0 : (List aD)) (v6 : Int) (at7 : Int) : Option ((List aD) × Int) :=
  cond (!decide (v6 = (0 : Int)))
  (aT (List.length ([aD.mk (-1 : Int) v6]) * 16 ≤ 140737488355328 ∧ List.length ([aD.mk (-1 : Int) v6]) ≤ 9223372036854775807) <|
  xL f0 at7 ([aD.mk (-1 : Int) v6]))
  (xL f0 at7 ([] : List aD))

noncomputable def pO (f0 : (List aD)) (t1 : Int) (v6 : Int) (at7 : Int) : Option ((Int × Int) ⊕ ((Int × Int))) :=
  aT ((((decide (at7 < ((List.length f0 : Nat) : Int)))) = true → 0 ≤ at7 ∧ at7 < ((List.length f0 : Nat) : Int))) <|
  cond ((decide (at7 < ((List.length f0 : Nat) : Int))) && (decide (((List.getD f0 (Int.toNat at7) default).At) < t1)))
  (aT (0 ≤ at7 ∧ at7 < ((List.length f0 : Nat) : Int)) <|
  some (.inl (IntKind.i64.wrap (v6 + ((List.getD f0 (Int.toNat at7) default).Net)), IntKind.i64.wrap (at7 + (1 : Int)))))
  (some (.inr (v6, at7)))

noncomputable def CL (f0 : (List aD)) (t1 : Int) (v6 : Int) (at7 : Int) : Option ((List aD) × Int) :=
  (lp (fun s => pO f0 t1 s.1 s.2) (v6, at7)).bind (fun rr => xZ f0 rr.1 rr.2)

noncomputable def wB (f0 : (List aD)) (t1 : Int) : Option ((List aD) × Int) :=
  (pS f0).bind fun x1 =>
  cond (!x1)
  (some ([], (2 : Int)))
  (cond (decide ((1125899906842624 : Int) ≤ t1))
  (some ([], (0 : Int)))
  (cond (decide (t1 ≤ (-1 : Int)))
  ((lG f0).bind fun x7 =>
  some (x7, (0 : Int)))
  (CL f0 t1 (0 : Int) (0 : Int))))

noncomputable def lE (t : Int) (st : List aC ⊕ Int) (p : ByteArray × aC) : Option (List aC ⊕ Int) := match st with
  | .inr e => some (.inr e)
  | .inl out => (wB p.2.jumps t).bind fun x =>
    cond (!(decide (x.2 = (0 : Int)))) (some (.inr x.2))
    (aT ((List.length out + List.length ([aC.mk p.2.row x.1])) * 48 ≤ 140737488355328 ∧ List.length out + List.length ([aC.mk p.2.row x.1]) ≤ 9223372036854775807) <|
    some (.inl (out ++ [aC.mk p.2.row x.1])))

noncomputable def qM (out : List aC) (m n i : Int) : Option ((Int × Int) ⊕ Int) :=
  cond (decide (i < m))
  (aT (0 ≤ i ∧ i < (lN out)) <|
  some (.inl (wR (n + (lN (gD out i).jumps)), wR (i + (1 : Int)))))
  (some (.inr n))

noncomputable def nA (out : List aC) (m : Int) (b : bU) (i : Int) : Option ((bU × Int) ⊕ bU) :=
  cond (decide (i < m))
  (aT (0 ≤ i ∧ i < (lN out)) <|
  (EX b (gD out i)).bind fun x => some (.inl (x, wR (i + (1 : Int)))))
  (some (.inr b))

noncomputable def BZ (b : bU) (t : Int) (st : List aC ⊕ Int) : Option (Int × bU) := match st with
  | .inr e => some (e, b)
  | .inl out => (lp (fun s => qM out (lN out) s.1 s.2) ((0 : Int), (0 : Int))).bind fun n =>
    cond (decide ((4096 : Int) < n)) (some ((7 : Int), b))
    ((lp (fun s => nA out (lN out) s.1 s.2) (b, (0 : Int))).bind fun b => some ((0 : Int), bU.mk b.cells b.edges t))

noncomputable def oG (b : bU) (t : Int) : Option (Int × bU) :=
  cond (decide (t ≤ b.mark)) (some ((0 : Int), b))
  (uW b.cells (fun q => (mU (lE t) (.inl []) q).bind (BZ b t)))

noncomputable def KB (m : Int) (x0 : aI) : Option Bool := some (decide (x0.At < m))

noncomputable def AR (l0 : (List aI)) : Option ((List aI)) :=
  some l0

noncomputable def xI (by2 : Int → Int → Option Int) (out8 : List aD) : Option ((List aD) × Int) :=
  (tY out8).bind fun x9 =>
  some (x9.1, x9.2)

noncomputable def pL (by2 : Int → Int → Option Int) (f0 : (List aD)) (g1 : (List aD)) (out8 : List aD) (a9 : Int) (b10 : Int) (iK : Int) (at12 : Int) : Option (((List aD) × (List aD) × List aD × Int × Int × Int) ⊕ ((List aD))) :=
  (by2 a9 b10).bind fun x19 =>
  cond (!decide (x19 = iK))
  (aT ((List.length out8 + List.length ([aD.mk at12 (IntKind.i64.wrap (x19 - iK))])) * 16 ≤ 140737488355328 ∧ List.length out8 + List.length ([aD.mk at12 (IntKind.i64.wrap (x19 - iK))]) ≤ 9223372036854775807) <|
  some (.inl (f0, g1, out8 ++ ([aD.mk at12 (IntKind.i64.wrap (x19 - iK))]), a9, b10, x19)))
  (some (.inl (f0, g1, out8, a9, b10, iK)))

noncomputable def mR (by2 : Int → Int → Option Int) (f0 : (List aD)) (g1 : (List aD)) (out8 : List aD) (a9 : Int) (b10 : Int) (iK : Int) (at12 : Int) : Option (((List aD) × (List aD) × List aD × Int × Int × Int) ⊕ ((List aD))) :=
  aT ((((decide ((0 : Int) < ((List.length g1 : Nat) : Int)))) = true → 0 ≤ (0 : Int) ∧ (0 : Int) < ((List.length g1 : Nat) : Int))) <|
  cond ((decide ((0 : Int) < ((List.length g1 : Nat) : Int))) && (decide (((List.getD g1 (Int.toNat (0 : Int)) default).At) = at12)))
  (aT (0 ≤ (0 : Int) ∧ (0 : Int) < ((List.length g1 : Nat) : Int)) <|
  aT (0 ≤ (1 : Int) ∧ (1 : Int) ≤ ((List.length g1 : Nat) : Int)) <|
  pL by2 f0 (List.drop (Int.toNat (1 : Int)) g1) out8 a9 (IntKind.i64.wrap (b10 + ((List.getD g1 (Int.toNat (0 : Int)) default).Net))) iK at12)
  (pL by2 f0 g1 out8 a9 b10 iK at12)

noncomputable def nB (by2 : Int → Int → Option Int) (f0 : (List aD)) (g1 : (List aD)) (out8 : List aD) (a9 : Int) (b10 : Int) (iK : Int) (at12 : Int) : Option (((List aD) × (List aD) × List aD × Int × Int × Int) ⊕ ((List aD))) :=
  aT ((((decide ((0 : Int) < ((List.length f0 : Nat) : Int)))) = true → 0 ≤ (0 : Int) ∧ (0 : Int) < ((List.length f0 : Nat) : Int))) <|
  cond ((decide ((0 : Int) < ((List.length f0 : Nat) : Int))) && (decide (((List.getD f0 (Int.toNat (0 : Int)) default).At) = at12)))
  (aT (0 ≤ (0 : Int) ∧ (0 : Int) < ((List.length f0 : Nat) : Int)) <|
  aT (0 ≤ (1 : Int) ∧ (1 : Int) ≤ ((List.length f0 : Nat) : Int)) <|
  mR by2 (List.drop (Int.toNat (1 : Int)) f0) g1 out8 (IntKind.i64.wrap (a9 + ((List.getD f0 (Int.toNat (0 : Int)) default).Net))) b10 iK at12)
  (mR by2 f0 g1 out8 a9 b10 iK at12)

noncomputable def pN (by2 : Int → Int → Option Int) (f0 : (List aD)) (g1 : (List aD)) (out8 : List aD) (a9 : Int) (b10 : Int) (iK : Int) (at12 : Int) : Option (((List aD) × (List aD) × List aD × Int × Int × Int) ⊕ ((List aD))) :=
  cond (decide ((0 : Int) < ((List.length g1 : Nat) : Int)))
  (aT (0 ≤ (0 : Int) ∧ (0 : Int) < ((List.length g1 : Nat) : Int)) <|
  nB by2 f0 g1 out8 a9 b10 iK (if ((List.getD g1 (Int.toNat (0 : Int)) default).At) < at12 then ((List.getD g1 (Int.toNat (0 : Int)) default).At) else at12))
  (nB by2 f0 g1 out8 a9 b10 iK at12)

noncomputable def lF (by2 : Int → Int → Option Int)  (f0 : (List aD)) (g1 : (List aD)) (out8 : List aD) (a9 : Int) (b10 : Int) (iK : Int) : Option (((List aD) × (List aD) × List aD × Int × Int × Int) ⊕ ((List aD))) :=
  cond ((decide ((0 : Int) < ((List.length f0 : Nat) : Int))) || (decide ((0 : Int) < ((List.length g1 : Nat) : Int))))
  (cond (decide ((0 : Int) < ((List.length f0 : Nat) : Int)))
  (aT (0 ≤ (0 : Int) ∧ (0 : Int) < ((List.length f0 : Nat) : Int)) <|
  pN by2 f0 g1 out8 a9 b10 iK ((List.getD f0 (Int.toNat (0 : Int)) default).At))
  (pN by2 f0 g1 out8 a9 b10 iK (1125899906842624 : Int)))
  (some (.inr out8))

noncomputable def CQ (by2 : Int → Int → Option Int) (f0 : (List aD)) (g1 : (List aD)) (out8 : List aD) (a9 : Int) (b10 : Int) (iK : Int) : Option ((List aD) × Int) :=
  (lp (fun s => lF by2 s.1 s.2.1 s.2.2.1 s.2.2.2.1 s.2.2.2.2.1 s.2.2.2.2.2) (f0, g1, out8, a9, b10, iK)).bind (fun rr => xI by2 rr)

noncomputable def AN (f0 : (List aD)) (g1 : (List aD)) (by2 : Int → Int → Option Int) : Option ((List aD) × Int) :=
  (pS f0).bind fun x1 =>
  (cX (!(!x1)) (pS g1)).bind fun x4 =>
  cond ((!x1) || (!x4))
  (some ([], (2 : Int)))
  (CQ by2 f0 g1 ([] : List aD) (0 : Int) (0 : Int) (0 : Int))

noncomputable def uO (a0 : Int) (b1 : Int) : Option Int :=
  some (IntKind.i64.wrap (a0 + b1))

noncomputable def CD (f0 : (List aD)) (g1 : (List aD)) : Option ((List aD) × Int) :=
  (AN f0 g1 (fun y0 y1 => uO y0 y1)).bind fun x1 =>
  some (x1.1, x1.2)

noncomputable def vS (lQ : Int) : Option Int :=
  some lQ

noncomputable def qO (t24 : (List aD)) (t25 : Int) (v3 : Int) (lQ : Int) (t26 : Int) : Option ((Int × Int × Int) ⊕ (Int)) :=
  cond (decide (t26 < t25))
  (aT (0 ≤ t26 ∧ t26 < ((List.length t24 : Nat) : Int)) <|
  some (.inl (IntKind.i64.wrap (v3 + ((List.getD t24 (Int.toNat t26) default).Net)), if (IntKind.i64.wrap (v3 + ((List.getD t24 (Int.toNat t26) default).Net))) < lQ then (IntKind.i64.wrap (v3 + ((List.getD t24 (Int.toNat t26) default).Net))) else lQ, IntKind.i64.wrap (t26 + (1 : Int)))))
  (some (.inr lQ))

noncomputable def vU (v3 : Int) (lQ : Int) (t24 : (List aD)) (t25 : Int) (t26 : Int) : Option Int :=
  (lp (fun s => qO t24 t25 s.1 s.2.1 s.2.2) (v3, lQ, t26)).bind (fun rr => vS rr)

noncomputable def tH (f0 : (List aD)) (v3 : Int) (lQ : Int) : Option Int :=
  vU v3 lQ f0 ((List.length f0 : Nat) : Int) (0 : Int)

noncomputable def xF (f0 : (List aD)) : Option Int :=
  (pS f0).bind fun x1 =>
  cond ((!x1) || (decide (((List.length f0 : Nat) : Int) = (0 : Int))))
  (some (0 : Int))
  (aT (0 ≤ (0 : Int) ∧ (0 : Int) < ((List.length f0 : Nat) : Int)) <|
  cond (decide (((List.getD f0 (Int.toNat (0 : Int)) default).At) = (-1 : Int)))
  (aT (0 ≤ (0 : Int) ∧ (0 : Int) < ((List.length f0 : Nat) : Int)) <|
  tH f0 (0 : Int) ((List.getD f0 (Int.toNat (0 : Int)) default).Net))
  (tH f0 (0 : Int) (0 : Int)))

noncomputable def xU (b : bU) (e : Int) (turned : List aC) (n : Int) (below : Bool) (r : List aE) (f : List aD) : Option ((Int × List aC × Int × Bool) ⊕ (Int × List aC × Int × Bool)) :=
  (BS r).bind fun k =>
  (CD (lH b.cells k) f).bind fun x =>
  cond (!(decide (x.2 = (0 : Int)))) (some (.inr (x.2, turned, n, below)))
  ((cX (!below) (xF x.1)).bind fun y =>
  aT ((List.length turned + List.length ([aC.mk r x.1])) * 48 ≤ 140737488355328 ∧ List.length turned + List.length ([aC.mk r x.1]) ≤ 9223372036854775807) <|
  some (.inl (e, turned ++ [aC.mk r x.1], wR (n + wR ((lN x.1) - (lN (lH b.cells k)))), below || (decide (y < (0 : Int))))))

noncomputable def IT (b : bU) (turned : List aC) (n : Int) (below : Bool) : Option (Int × bU) :=
  cond (decide ((4096 : Int) < n)) (some ((7 : Int), b))
  (cond below (some ((20 : Int), b))
  ((lp (fun s => nA turned (lN turned) s.1 s.2) (b, (0 : Int))).bind fun b => some ((0 : Int), b)))

noncomputable def NQ (b : bU) (l : List aI) : Option (Int × bU) :=
  (rJ (fun st r f => rnd (fun (q : Int × List aC × Int × Bool) => xU b q.1 q.2.1 q.2.2.1 q.2.2.2 r f) st) l (.inl ((0 : Int), [], b.edges, false))).bind (Sum.elim (fun q => IT b q.2.1 q.2.2.1 q.2.2.2) (fun q => some (q.1, b)))

noncomputable def sG (b : bU) (l : List aI) : Option (Int × bU) :=
  (yI l).bind fun m =>
  cond (!m) (some ((2 : Int), b))
  ((fN l (fun (st : Unit) y => (KB b.mark y).bind fun o => some (st, o)) ()).bind fun c =>
  cond c.2 (some ((16 : Int), b))
  ((AR l).bind fun x => NQ b x))

noncomputable def FV (b : bU) : Option Int := some b.mark

noncomputable def qX (js : List aD) (m n i : Int) : Option ((Int × Int) ⊕ Int) :=
  cond (decide (i < m))
  (aT (0 ≤ i ∧ i < (lN js)) <|
  some (.inl (wR (n + (if (0 : Int) > (gD js i).Net then (0 : Int) else (gD js i).Net)), wR (i + (1 : Int)))))
  (some (.inr n))

noncomputable def AI (b : bU) : Option Int :=
  uW b.cells (fun q => (mU (fun (n : Int) (p : ByteArray × aC) => lp (fun s => qX p.2.jumps (lN p.2.jumps) s.1 s.2) (n, (0 : Int))) (0 : Int) q).bind (fun n => some n))

noncomputable def pV (x0 : Int) (n2 : Int) : Option Int :=
  aT (0 ≤ (IntKind.u8.wrap x0) ∧ (IntKind.u8.wrap x0) < ((ByteArray.size (⟨#[0, 1, 2, 2, 3, 3, 3, 3, 4, 4, 4, 4, 4, 4, 4, 4, 5, 5, 5, 5, 5, 5, 5, 5, 5, 5, 5, 5, 5, 5, 5, 5, 6, 6, 6, 6, 6, 6, 6, 6, 6, 6, 6, 6, 6, 6, 6, 6, 6, 6, 6, 6, 6, 6, 6, 6, 6, 6, 6, 6, 6, 6, 6, 6, 7, 7, 7, 7, 7, 7, 7, 7, 7, 7, 7, 7, 7, 7, 7, 7, 7, 7, 7, 7, 7, 7, 7, 7, 7, 7, 7, 7, 7, 7, 7, 7, 7, 7, 7, 7, 7, 7, 7, 7, 7, 7, 7, 7, 7, 7, 7, 7, 7, 7, 7, 7, 7, 7, 7, 7, 7, 7, 7, 7, 7, 7, 7, 7, 8, 8, 8, 8, 8, 8, 8, 8, 8, 8, 8, 8, 8, 8, 8, 8, 8, 8, 8, 8, 8, 8, 8, 8, 8, 8, 8, 8, 8, 8, 8, 8, 8, 8, 8, 8, 8, 8, 8, 8, 8, 8, 8, 8, 8, 8, 8, 8, 8, 8, 8, 8, 8, 8, 8, 8, 8, 8, 8, 8, 8, 8, 8, 8, 8, 8, 8, 8, 8, 8, 8, 8, 8, 8, 8, 8, 8, 8, 8, 8, 8, 8, 8, 8, 8, 8, 8, 8, 8, 8, 8, 8, 8, 8, 8, 8, 8, 8, 8, 8, 8, 8, 8, 8, 8, 8, 8, 8, 8, 8, 8, 8, 8, 8, 8, 8, 8, 8, 8, 8, 8, 8, 8, 8, 8, 8, 8, 8]⟩ : ByteArray) : Nat) : Int)) <|
  some (IntKind.i64.wrap (n2 + (IntKind.i64.wrap (bt (⟨#[0, 1, 2, 2, 3, 3, 3, 3, 4, 4, 4, 4, 4, 4, 4, 4, 5, 5, 5, 5, 5, 5, 5, 5, 5, 5, 5, 5, 5, 5, 5, 5, 6, 6, 6, 6, 6, 6, 6, 6, 6, 6, 6, 6, 6, 6, 6, 6, 6, 6, 6, 6, 6, 6, 6, 6, 6, 6, 6, 6, 6, 6, 6, 6, 7, 7, 7, 7, 7, 7, 7, 7, 7, 7, 7, 7, 7, 7, 7, 7, 7, 7, 7, 7, 7, 7, 7, 7, 7, 7, 7, 7, 7, 7, 7, 7, 7, 7, 7, 7, 7, 7, 7, 7, 7, 7, 7, 7, 7, 7, 7, 7, 7, 7, 7, 7, 7, 7, 7, 7, 7, 7, 7, 7, 7, 7, 7, 7, 8, 8, 8, 8, 8, 8, 8, 8, 8, 8, 8, 8, 8, 8, 8, 8, 8, 8, 8, 8, 8, 8, 8, 8, 8, 8, 8, 8, 8, 8, 8, 8, 8, 8, 8, 8, 8, 8, 8, 8, 8, 8, 8, 8, 8, 8, 8, 8, 8, 8, 8, 8, 8, 8, 8, 8, 8, 8, 8, 8, 8, 8, 8, 8, 8, 8, 8, 8, 8, 8, 8, 8, 8, 8, 8, 8, 8, 8, 8, 8, 8, 8, 8, 8, 8, 8, 8, 8, 8, 8, 8, 8, 8, 8, 8, 8, 8, 8, 8, 8, 8, 8, 8, 8, 8, 8, 8, 8, 8, 8, 8, 8, 8, 8, 8, 8, 8, 8, 8, 8, 8, 8, 8, 8, 8, 8, 8, 8]⟩ : ByteArray) (IntKind.u8.wrap x0)))))

noncomputable def oL (x0 : Int) (n2 : Int) : Option Int :=
  cond (decide ((256 : Int) ≤ x0))
  (aT (0 ≤ (8 : Int)) <|
  pV (Int.fdiv x0 (2 ^ (min (Int.toNat (8 : Int)) 64))) (IntKind.i64.wrap (n2 + (8 : Int))))
  (pV x0 n2)

noncomputable def oN (x0 : Int) (n2 : Int) : Option Int :=
  cond (decide ((65536 : Int) ≤ x0))
  (aT (0 ≤ (16 : Int)) <|
  oL (Int.fdiv x0 (2 ^ (min (Int.toNat (16 : Int)) 64))) (IntKind.i64.wrap (n2 + (16 : Int))))
  (oL x0 n2)

noncomputable def rM (x0 : Int) : Option Int :=
  cond (decide ((4294967296 : Int) ≤ x0))
  (aT (0 ≤ (32 : Int)) <|
  oN (Int.fdiv x0 (2 ^ (min (Int.toNat (32 : Int)) 64))) (32 : Int))
  (oN x0 (0 : Int))

noncomputable def nO (x0 : Int) : Option Int :=
  (rM x0).bind fun x2 =>
  some x2

noncomputable def eV (cmp3 : aC → aC → Option Int) (aA : List aC) (a1 : Int) (b2 : Int) (i8 : Int) : Option ((List aC × Int) ⊕ ((List aC))) :=
  some (.inl (aA, IntKind.i64.wrap (i8 + (1 : Int))))

noncomputable def gQ (cmp3 : aC → aC → Option Int) (a1 : Int) (b2 : Int) (i8 : Int) (aA : List aC) (j9 : Int) : Option ((List aC × Int) ⊕ ((List aC))) :=
  aT ((((decide (a1 < j9))) = true → 0 ≤ j9 ∧ j9 < ((List.length aA : Nat) : Int))) <|
  aT ((((decide (a1 < j9))) = true → 0 ≤ (IntKind.i64.wrap (j9 - (1 : Int))) ∧ (IntKind.i64.wrap (j9 - (1 : Int))) < ((List.length aA : Nat) : Int))) <|
  (cX (decide (a1 < j9)) (cmp3 (List.getD aA (Int.toNat j9) default) (List.getD aA (Int.toNat (IntKind.i64.wrap (j9 - (1 : Int)))) default))).bind fun x4 =>
  cond ((decide (a1 < j9)) && (decide (x4 < (0 : Int))))
  (aT (0 ≤ (IntKind.i64.wrap (j9 - (1 : Int))) ∧ (IntKind.i64.wrap (j9 - (1 : Int))) < ((List.length aA : Nat) : Int)) <|
  aT (0 ≤ j9 ∧ j9 < ((List.length aA : Nat) : Int)) <|
  aT (0 ≤ j9 ∧ j9 < ((List.length aA : Nat) : Int)) <|
  aT (0 ≤ (IntKind.i64.wrap (j9 - (1 : Int))) ∧ (IntKind.i64.wrap (j9 - (1 : Int))) < ((List.length aA : Nat) : Int)) <|
  some (.inl (List.set (List.set aA (Int.toNat j9) (List.getD aA (Int.toNat (IntKind.i64.wrap (j9 - (1 : Int)))) default)) (Int.toNat (IntKind.i64.wrap (j9 - (1 : Int)))) (List.getD aA (Int.toNat j9) default), IntKind.i64.wrap (j9 - (1 : Int)))))
  (some (.inr aA))

noncomputable def gS (cmp3 : aC → aC → Option Int) (aA : List aC) (a1 : Int) (b2 : Int) (i8 : Int) (j9 : Int) : Option ((List aC × Int) ⊕ ((List aC))) :=
  (lp (fun s => gQ cmp3 a1 b2 i8 s.1 s.2) (aA, j9)).bind (fun rr => eV cmp3 rr a1 b2 i8)

noncomputable def gT (cmp3 : aC → aC → Option Int) (a1 : Int) (b2 : Int) (aA : List aC) (i8 : Int) : Option ((List aC × Int) ⊕ ((List aC))) :=
  cond (decide (i8 < b2))
  (gS cmp3 aA a1 b2 i8 i8)
  (some (.inr aA))

noncomputable def gU (cmp3 : aC → aC → Option Int) (aA : List aC) (a1 : Int) (b2 : Int) (i8 : Int) : Option (List aC) :=
  (lp (fun s => gT cmp3 a1 b2 s.1 s.2) (aA, i8)).bind (fun rr => some rr)

noncomputable def iI (aA : (List aC)) (a1 : Int) (b2 : Int) (cmp3 : aC → aC → Option Int) : Option (List aC) :=
  gU cmp3 aA a1 b2 (IntKind.i64.wrap (a1 + (1 : Int)))

noncomputable def gK (cmp4 : aC → aC → Option Int) (aA : List aC) (hi2 : Int) (aW : Int) (bS : Int) (dB : Int) : Option ((List aC × Int) ⊕ ((List aC) ⊕ (List aC))) :=
  aT (0 ≤ (IntKind.i64.wrap (aW + bS)) ∧ (IntKind.i64.wrap (aW + bS)) < ((List.length aA : Nat) : Int)) <|
  aT (0 ≤ (IntKind.i64.wrap (aW + dB)) ∧ (IntKind.i64.wrap (aW + dB)) < ((List.length aA : Nat) : Int)) <|
  (cmp4 (List.getD aA (Int.toNat (IntKind.i64.wrap (aW + bS))) default) (List.getD aA (Int.toNat (IntKind.i64.wrap (aW + dB))) default)).bind fun x4 =>
  cond (!(decide (x4 < (0 : Int))))
  (some (.inr (.inr aA)))
  (aT (0 ≤ (IntKind.i64.wrap (aW + dB)) ∧ (IntKind.i64.wrap (aW + dB)) < ((List.length aA : Nat) : Int)) <|
  aT (0 ≤ (IntKind.i64.wrap (aW + bS)) ∧ (IntKind.i64.wrap (aW + bS)) < ((List.length aA : Nat) : Int)) <|
  aT (0 ≤ (IntKind.i64.wrap (aW + bS)) ∧ (IntKind.i64.wrap (aW + bS)) < ((List.length aA : Nat) : Int)) <|
  aT (0 ≤ (IntKind.i64.wrap (aW + dB)) ∧ (IntKind.i64.wrap (aW + dB)) < ((List.length aA : Nat) : Int)) <|
  some (.inl (List.set (List.set aA (Int.toNat (IntKind.i64.wrap (aW + bS))) (List.getD aA (Int.toNat (IntKind.i64.wrap (aW + dB))) default)) (Int.toNat (IntKind.i64.wrap (aW + dB))) (List.getD aA (Int.toNat (IntKind.i64.wrap (aW + bS))) default), dB)))

noncomputable def kB (cmp4 : aC → aC → Option Int) (hi2 : Int) (aW : Int) (aA : List aC) (bS : Int) : Option ((List aC × Int) ⊕ ((List aC) ⊕ (List aC))) :=
  cond (decide (hi2 ≤ (IntKind.i64.wrap ((IntKind.i64.wrap ((2 : Int) * bS)) + (1 : Int)))))
  (some (.inr (.inl aA)))
  (aT ((((decide ((IntKind.i64.wrap ((IntKind.i64.wrap ((IntKind.i64.wrap ((2 : Int) * bS)) + (1 : Int))) + (1 : Int))) < hi2))) = true → 0 ≤ (IntKind.i64.wrap (aW + (IntKind.i64.wrap ((IntKind.i64.wrap ((2 : Int) * bS)) + (1 : Int))))) ∧ (IntKind.i64.wrap (aW + (IntKind.i64.wrap ((IntKind.i64.wrap ((2 : Int) * bS)) + (1 : Int))))) < ((List.length aA : Nat) : Int))) <|
  aT ((((decide ((IntKind.i64.wrap ((IntKind.i64.wrap ((IntKind.i64.wrap ((2 : Int) * bS)) + (1 : Int))) + (1 : Int))) < hi2))) = true → 0 ≤ (IntKind.i64.wrap ((IntKind.i64.wrap (aW + (IntKind.i64.wrap ((IntKind.i64.wrap ((2 : Int) * bS)) + (1 : Int))))) + (1 : Int))) ∧ (IntKind.i64.wrap ((IntKind.i64.wrap (aW + (IntKind.i64.wrap ((IntKind.i64.wrap ((2 : Int) * bS)) + (1 : Int))))) + (1 : Int))) < ((List.length aA : Nat) : Int))) <|
  (cX (decide ((IntKind.i64.wrap ((IntKind.i64.wrap ((IntKind.i64.wrap ((2 : Int) * bS)) + (1 : Int))) + (1 : Int))) < hi2)) (cmp4 (List.getD aA (Int.toNat (IntKind.i64.wrap (aW + (IntKind.i64.wrap ((IntKind.i64.wrap ((2 : Int) * bS)) + (1 : Int)))))) default) (List.getD aA (Int.toNat (IntKind.i64.wrap ((IntKind.i64.wrap (aW + (IntKind.i64.wrap ((IntKind.i64.wrap ((2 : Int) * bS)) + (1 : Int))))) + (1 : Int)))) default))).bind fun x14 =>
  cond ((decide ((IntKind.i64.wrap ((IntKind.i64.wrap ((IntKind.i64.wrap ((2 : Int) * bS)) + (1 : Int))) + (1 : Int))) < hi2)) && (decide (x14 < (0 : Int))))
  (gK cmp4 aA hi2 aW bS (IntKind.i64.wrap ((IntKind.i64.wrap ((IntKind.i64.wrap ((2 : Int) * bS)) + (1 : Int))) + (1 : Int))))
  (gK cmp4 aA hi2 aW bS (IntKind.i64.wrap ((IntKind.i64.wrap ((2 : Int) * bS)) + (1 : Int)))))

noncomputable def kA (cmp4 : aC → aC → Option Int) (aA : List aC) (hi2 : Int) (aW : Int) (bS : Int) : Option (List aC) :=
  (lp (fun s => kB cmp4 hi2 aW s.1 s.2) (aA, bS)).bind (Sum.elim (fun rr => some rr) (fun rr => some rr))

noncomputable def iB (aA : (List aC)) (lo1 : Int) (hi2 : Int) (aW : Int) (cmp4 : aC → aC → Option Int) : Option (List aC) :=
  kA cmp4 aA hi2 aW lo1

noncomputable def kF (cmp3 : aC → aC → Option Int) (bL : Int) (lo9 : Int) (aA : List aC) (i12 : Int) : Option ((List aC × Int) ⊕ ((List aC))) :=
  cond (decide ((0 : Int) ≤ i12))
  (aT (0 ≤ (IntKind.i64.wrap (bL + i12)) ∧ (IntKind.i64.wrap (bL + i12)) < ((List.length aA : Nat) : Int)) <|
  aT (0 ≤ bL ∧ bL < ((List.length aA : Nat) : Int)) <|
  aT (0 ≤ bL ∧ bL < ((List.length aA : Nat) : Int)) <|
  aT (0 ≤ (IntKind.i64.wrap (bL + i12)) ∧ (IntKind.i64.wrap (bL + i12)) < ((List.length aA : Nat) : Int)) <|
  (iB (List.set (List.set aA (Int.toNat bL) (List.getD aA (Int.toNat (IntKind.i64.wrap (bL + i12))) default)) (Int.toNat (IntKind.i64.wrap (bL + i12))) (List.getD aA (Int.toNat bL) default)) lo9 i12 bL cmp3).bind fun x6 =>
  some (.inl (x6, IntKind.i64.wrap (i12 - (1 : Int)))))
  (some (.inr aA))

noncomputable def kD (cmp3 : aC → aC → Option Int) (aA : List aC) (bL : Int) (lo9 : Int) (i12 : Int) : Option (List aC) :=
  (lp (fun s => kF cmp3 bL lo9 s.1 s.2) (aA, i12)).bind (fun rr => some rr)

noncomputable def gL (cmp3 : aC → aC → Option Int) (aA : List aC) (bL : Int) (lo9 : Int) (hi10 : Int) : Option (List aC) :=
  kD cmp3 aA bL lo9 (IntKind.i64.wrap (hi10 - (1 : Int)))

noncomputable def kE (cmp3 : aC → aC → Option Int) (bL : Int) (lo9 : Int) (hi10 : Int) (aA : List aC) (i11 : Int) : Option ((List aC × Int) ⊕ ((List aC))) :=
  cond (decide ((0 : Int) ≤ i11))
  ((iB aA i11 hi10 bL cmp3).bind fun x11 =>
  some (.inl (x11, IntKind.i64.wrap (i11 - (1 : Int)))))
  (some (.inr aA))

noncomputable def kC (cmp3 : aC → aC → Option Int) (aA : List aC) (bL : Int) (lo9 : Int) (hi10 : Int) (i11 : Int) : Option (List aC) :=
  (lp (fun s => kE cmp3 bL lo9 hi10 s.1 s.2) (aA, i11)).bind (fun rr => gL cmp3 rr bL lo9 hi10)

noncomputable def kL (aA : (List aC)) (a1 : Int) (b2 : Int) (cmp3 : aC → aC → Option Int) : Option (List aC) :=
  aT ((2 : Int) ≠ 0) <|
  kC cmp3 aA a1 (0 : Int) (IntKind.i64.wrap (b2 - a1)) (IntKind.i64.wrap (Int.tdiv (IntKind.i64.wrap ((IntKind.i64.wrap (b2 - a1)) - (1 : Int))) (2 : Int)))

noncomputable def mW (LA : Int) : Option Int :=
  (nO (IntKind.u64.wrap LA)).bind fun x1 =>
  aT (0 ≤ x1) <|
  some (IntKind.u64.wrap ((1 : Int) * 2 ^ (min (Int.toNat x1) 64)))

noncomputable def nH (r0 : Int) : Option (Int × Int) :=
  aT (0 ≤ (13 : Int)) <|
  aT (0 ≤ (7 : Int)) <|
  aT (0 ≤ (17 : Int)) <|
  some (bM .xor .u64 (bM .xor .u64 (bM .xor .u64 r0 (IntKind.u64.wrap (r0 * 2 ^ (min (Int.toNat (13 : Int)) 64)))) (Int.fdiv (bM .xor .u64 r0 (IntKind.u64.wrap (r0 * 2 ^ (min (Int.toNat (13 : Int)) 64)))) (2 ^ (min (Int.toNat (7 : Int)) 64)))) (IntKind.u64.wrap ((bM .xor .u64 (bM .xor .u64 r0 (IntKind.u64.wrap (r0 * 2 ^ (min (Int.toNat (13 : Int)) 64)))) (Int.fdiv (bM .xor .u64 r0 (IntKind.u64.wrap (r0 * 2 ^ (min (Int.toNat (13 : Int)) 64)))) (2 ^ (min (Int.toNat (7 : Int)) 64)))) * 2 ^ (min (Int.toNat (17 : Int)) 64))), bM .xor .u64 (bM .xor .u64 (bM .xor .u64 r0 (IntKind.u64.wrap (r0 * 2 ^ (min (Int.toNat (13 : Int)) 64)))) (Int.fdiv (bM .xor .u64 r0 (IntKind.u64.wrap (r0 * 2 ^ (min (Int.toNat (13 : Int)) 64)))) (2 ^ (min (Int.toNat (7 : Int)) 64)))) (IntKind.u64.wrap ((bM .xor .u64 (bM .xor .u64 r0 (IntKind.u64.wrap (r0 * 2 ^ (min (Int.toNat (13 : Int)) 64)))) (Int.fdiv (bM .xor .u64 r0 (IntKind.u64.wrap (r0 * 2 ^ (min (Int.toNat (13 : Int)) 64)))) (2 ^ (min (Int.toNat (7 : Int)) 64)))) * 2 ^ (min (Int.toNat (17 : Int)) 64))))

noncomputable def eU (cmp3 : aC → aC → Option Int) (aA : List aC) (a1 : Int) (iU : Int) (kU : Int) (eH : Int) (eT : Int) (gO : Int) : Option ((List aC × Int × Int) ⊕ ((List aC))) :=
  aT (0 ≤ (IntKind.i64.wrap (a1 + gO)) ∧ (IntKind.i64.wrap (a1 + gO)) < ((List.length aA : Nat) : Int)) <|
  aT (0 ≤ eT ∧ eT < ((List.length aA : Nat) : Int)) <|
  aT (0 ≤ eT ∧ eT < ((List.length aA : Nat) : Int)) <|
  aT (0 ≤ (IntKind.i64.wrap (a1 + gO)) ∧ (IntKind.i64.wrap (a1 + gO)) < ((List.length aA : Nat) : Int)) <|
  some (.inl (List.set (List.set aA (Int.toNat eT) (List.getD aA (Int.toNat (IntKind.i64.wrap (a1 + gO))) default)) (Int.toNat (IntKind.i64.wrap (a1 + gO))) (List.getD aA (Int.toNat eT) default), kU, IntKind.i64.wrap (eT + (1 : Int))))

noncomputable def gX (cmp3 : aC → aC → Option Int) (a1 : Int) (iU : Int) (eH : Int) (aA : List aC) (kU : Int) (eT : Int) : Option ((List aC × Int × Int) ⊕ ((List aC))) :=
  aT ((4 : Int) ≠ 0) <|
  cond (decide (eT ≤ (IntKind.i64.wrap ((IntKind.i64.wrap (a1 + (IntKind.i64.wrap ((IntKind.i64.wrap (Int.tdiv iU (4 : Int))) * (2 : Int))))) + (1 : Int)))))
  ((nH kU).bind fun x9 =>
  cond (decide (iU ≤ (IntKind.i64.wrap (bM .and .u64 x9.1 (IntKind.u64.wrap (eH - (1 : Int)))))))
  (eU cmp3 aA a1 iU x9.2 eH eT (IntKind.i64.wrap ((IntKind.i64.wrap (bM .and .u64 x9.1 (IntKind.u64.wrap (eH - (1 : Int))))) - iU)))
  (eU cmp3 aA a1 iU x9.2 eH eT (IntKind.i64.wrap (bM .and .u64 x9.1 (IntKind.u64.wrap (eH - (1 : Int)))))))
  (some (.inr aA))

noncomputable def gR (cmp3 : aC → aC → Option Int) (aA : List aC) (a1 : Int) (iU : Int) (kU : Int) (eH : Int) (eT : Int) : Option (List aC) :=
  (lp (fun s => gX cmp3 a1 iU eH s.1 s.2.1 s.2.2) (aA, kU, eT)).bind (fun rr => some rr)

noncomputable def iF (aA : (List aC)) (a1 : Int) (b2 : Int) (cmp3 : aC → aC → Option Int) : Option (List aC) :=
  cond (decide ((8 : Int) ≤ (IntKind.i64.wrap (b2 - a1))))
  ((mW (IntKind.i64.wrap (b2 - a1))).bind fun x3 =>
  aT ((4 : Int) ≠ 0) <|
  gR cmp3 aA a1 (IntKind.i64.wrap (b2 - a1)) (IntKind.u64.wrap (IntKind.i64.wrap (b2 - a1))) x3 (IntKind.i64.wrap ((IntKind.i64.wrap (a1 + (IntKind.i64.wrap ((IntKind.i64.wrap (Int.tdiv (IntKind.i64.wrap (b2 - a1)) (4 : Int))) * (2 : Int))))) - (1 : Int))))
  (some aA)

noncomputable def fK (aA : (List aC)) (a1 : Int) (b2 : Int) (qQ : Int) (cmp4 : aC → aC → Option Int) : Option ((Int × Int) × Int) :=
  aT (0 ≤ b2 ∧ b2 < ((List.length aA : Nat) : Int)) <|
  aT (0 ≤ a1 ∧ a1 < ((List.length aA : Nat) : Int)) <|
  (cmp4 (List.getD aA (Int.toNat b2) default) (List.getD aA (Int.toNat a1) default)).bind fun x3 =>
  cond (decide (x3 < (0 : Int)))
  (some ((b2, a1), IntKind.i64.wrap (qQ + (1 : Int))))
  (some ((a1, b2), qQ))

noncomputable def iS (aA : (List aC)) (a1 : Int) (b2 : Int) (c3 : Int) (AB : Int) (cmp5 : aC → aC → Option Int) : Option (Int × Int) :=
  (fK aA a1 b2 AB cmp5).bind fun x1 =>
  (fK aA x1.1.2 c3 x1.2 cmp5).bind fun x6 =>
  (fK aA x1.1.1 x6.1.1 x6.2 cmp5).bind fun x11 =>
  some (x11.1.2, x11.2)

noncomputable def dM (aA : (List aC)) (a1 : Int) (AL : Int) (cmp3 : aC → aC → Option Int) : Option (Int × Int) :=
  (iS aA (IntKind.i64.wrap (a1 - (1 : Int))) a1 (IntKind.i64.wrap (a1 + (1 : Int))) AL cmp3).bind fun x1 =>
  some (x1.1, x1.2)

noncomputable def fC (cmp3 : aC → aC → Option Int) (aA : List aC) (lV : Int) (j13 : Int) : Option (Int × Int) :=
  cond (decide (lV = (0 : Int)))
  (some (j13, (1 : Int)))
  (cond (decide (lV = (12 : Int)))
  (some (j13, (2 : Int)))
  (some (j13, (0 : Int))))

noncomputable def fD (cmp3 : aC → aC → Option Int) (aA : List aC) (lV : Int) (i12 : Int) (j13 : Int) (k14 : Int) : Option (Int × Int) :=
  (iS aA i12 j13 k14 lV cmp3).bind fun x8 =>
  fC cmp3 aA x8.2 x8.1

noncomputable def iW (aA : (List aC)) (a1 : Int) (b2 : Int) (cmp3 : aC → aC → Option Int) : Option (Int × Int) :=
  aT ((4 : Int) ≠ 0) <|
  aT ((4 : Int) ≠ 0) <|
  aT ((4 : Int) ≠ 0) <|
  cond (decide ((8 : Int) ≤ (IntKind.i64.wrap (b2 - a1))))
  (cond (decide ((50 : Int) ≤ (IntKind.i64.wrap (b2 - a1))))
  ((dM aA (IntKind.i64.wrap (a1 + (IntKind.i64.wrap ((IntKind.i64.wrap (Int.tdiv (IntKind.i64.wrap (b2 - a1)) (4 : Int))) * (1 : Int))))) 0 cmp3).bind fun x14 =>
  (dM aA (IntKind.i64.wrap (a1 + (IntKind.i64.wrap ((IntKind.i64.wrap (Int.tdiv (IntKind.i64.wrap (b2 - a1)) (4 : Int))) * (2 : Int))))) x14.2 cmp3).bind fun x19 =>
  (dM aA (IntKind.i64.wrap (a1 + (IntKind.i64.wrap ((IntKind.i64.wrap (Int.tdiv (IntKind.i64.wrap (b2 - a1)) (4 : Int))) * (3 : Int))))) x19.2 cmp3).bind fun x24 =>
  fD cmp3 aA x24.2 x14.1 x19.1 x24.1)
  (fD cmp3 aA 0 (IntKind.i64.wrap (a1 + (IntKind.i64.wrap ((IntKind.i64.wrap (Int.tdiv (IntKind.i64.wrap (b2 - a1)) (4 : Int))) * (1 : Int))))) (IntKind.i64.wrap (a1 + (IntKind.i64.wrap ((IntKind.i64.wrap (Int.tdiv (IntKind.i64.wrap (b2 - a1)) (4 : Int))) * (2 : Int))))) (IntKind.i64.wrap (a1 + (IntKind.i64.wrap ((IntKind.i64.wrap (Int.tdiv (IntKind.i64.wrap (b2 - a1)) (4 : Int))) * (3 : Int)))))))
  (fC cmp3 aA 0 (IntKind.i64.wrap (a1 + (IntKind.i64.wrap ((IntKind.i64.wrap (Int.tdiv (IntKind.i64.wrap (b2 - a1)) (4 : Int))) * (2 : Int))))))

noncomputable def iH (cmp3 : aC → aC → Option Int)  (aA : List aC) (i8 : Int) (j9 : Int) : Option ((List aC × Int × Int) ⊕ ((List aC))) :=
  cond (decide (i8 < j9))
  (aT (0 ≤ j9 ∧ j9 < ((List.length aA : Nat) : Int)) <|
  aT (0 ≤ i8 ∧ i8 < ((List.length aA : Nat) : Int)) <|
  aT (0 ≤ i8 ∧ i8 < ((List.length aA : Nat) : Int)) <|
  aT (0 ≤ j9 ∧ j9 < ((List.length aA : Nat) : Int)) <|
  some (.inl (List.set (List.set aA (Int.toNat i8) (List.getD aA (Int.toNat j9) default)) (Int.toNat j9) (List.getD aA (Int.toNat i8) default), IntKind.i64.wrap (i8 + (1 : Int)), IntKind.i64.wrap (j9 - (1 : Int)))))
  (some (.inr aA))

noncomputable def iJ (cmp3 : aC → aC → Option Int) (aA : List aC) (i8 : Int) (j9 : Int) : Option (List aC) :=
  (lp (fun s => iH cmp3 s.1 s.2.1 s.2.2) (aA, i8, j9)).bind (fun rr => some rr)

noncomputable def iO (aA : (List aC)) (a1 : Int) (b2 : Int) (cmp3 : aC → aC → Option Int) : Option (List aC) :=
  iJ cmp3 aA a1 (IntKind.i64.wrap (b2 - (1 : Int)))

noncomputable def dG (cmp3 : aC → aC → Option Int) (aA : List aC) : Option (Bool × List aC) :=
  some (false, aA)

noncomputable def cL (cmp3 : aC → aC → Option Int) (aA : List aC) (a1 : Int) (b2 : Int) (i9 : Int) (j10 : Int) : Option ((List aC × Int × Int) ⊕ ((List aC) ⊕ (Bool × (List aC)))) :=
  some (.inl (aA, i9, IntKind.i64.wrap (j10 + (1 : Int))))

noncomputable def eM (cmp3 : aC → aC → Option Int) (a1 : Int) (b2 : Int) (i9 : Int) (j10 : Int) (aA : List aC) (j12 : Int) : Option ((List aC × Int) ⊕ ((List aC))) :=
  cond (decide (j12 < b2))
  (aT (0 ≤ j12 ∧ j12 < ((List.length aA : Nat) : Int)) <|
  aT (0 ≤ (IntKind.i64.wrap (j12 - (1 : Int))) ∧ (IntKind.i64.wrap (j12 - (1 : Int))) < ((List.length aA : Nat) : Int)) <|
  (cmp3 (List.getD aA (Int.toNat j12) default) (List.getD aA (Int.toNat (IntKind.i64.wrap (j12 - (1 : Int)))) default)).bind fun x12 =>
  cond (!(decide (x12 < (0 : Int))))
  (some (.inr aA))
  (aT (0 ≤ (IntKind.i64.wrap (j12 - (1 : Int))) ∧ (IntKind.i64.wrap (j12 - (1 : Int))) < ((List.length aA : Nat) : Int)) <|
  aT (0 ≤ j12 ∧ j12 < ((List.length aA : Nat) : Int)) <|
  aT (0 ≤ j12 ∧ j12 < ((List.length aA : Nat) : Int)) <|
  aT (0 ≤ (IntKind.i64.wrap (j12 - (1 : Int))) ∧ (IntKind.i64.wrap (j12 - (1 : Int))) < ((List.length aA : Nat) : Int)) <|
  some (.inl (List.set (List.set aA (Int.toNat j12) (List.getD aA (Int.toNat (IntKind.i64.wrap (j12 - (1 : Int)))) default)) (Int.toNat (IntKind.i64.wrap (j12 - (1 : Int)))) (List.getD aA (Int.toNat j12) default), IntKind.i64.wrap (j12 + (1 : Int))))))
  (some (.inr aA))

noncomputable def eO (cmp3 : aC → aC → Option Int) (aA : List aC) (a1 : Int) (b2 : Int) (i9 : Int) (j10 : Int) (j12 : Int) : Option ((List aC × Int × Int) ⊕ ((List aC) ⊕ (Bool × (List aC)))) :=
  (lp (fun s => eM cmp3 a1 b2 i9 j10 s.1 s.2) (aA, j12)).bind (fun rr => cL cmp3 rr a1 b2 i9 j10)

noncomputable def cM (cmp3 : aC → aC → Option Int) (aA : List aC) (a1 : Int) (b2 : Int) (i9 : Int) (j10 : Int) : Option ((List aC × Int × Int) ⊕ ((List aC) ⊕ (Bool × (List aC)))) :=
  cond (decide ((2 : Int) ≤ (IntKind.i64.wrap (b2 - i9))))
  (eO cmp3 aA a1 b2 i9 j10 (IntKind.i64.wrap (i9 + (1 : Int))))
  (cL cmp3 aA a1 b2 i9 j10)

noncomputable def eN (cmp3 : aC → aC → Option Int) (a1 : Int) (b2 : Int) (i9 : Int) (j10 : Int) (aA : List aC) (j11 : Int) : Option ((List aC × Int) ⊕ ((List aC))) :=
  cond (decide ((1 : Int) ≤ j11))
  (aT (0 ≤ j11 ∧ j11 < ((List.length aA : Nat) : Int)) <|
  aT (0 ≤ (IntKind.i64.wrap (j11 - (1 : Int))) ∧ (IntKind.i64.wrap (j11 - (1 : Int))) < ((List.length aA : Nat) : Int)) <|
  (cmp3 (List.getD aA (Int.toNat j11) default) (List.getD aA (Int.toNat (IntKind.i64.wrap (j11 - (1 : Int)))) default)).bind fun x24 =>
  cond (!(decide (x24 < (0 : Int))))
  (some (.inr aA))
  (aT (0 ≤ (IntKind.i64.wrap (j11 - (1 : Int))) ∧ (IntKind.i64.wrap (j11 - (1 : Int))) < ((List.length aA : Nat) : Int)) <|
  aT (0 ≤ j11 ∧ j11 < ((List.length aA : Nat) : Int)) <|
  aT (0 ≤ j11 ∧ j11 < ((List.length aA : Nat) : Int)) <|
  aT (0 ≤ (IntKind.i64.wrap (j11 - (1 : Int))) ∧ (IntKind.i64.wrap (j11 - (1 : Int))) < ((List.length aA : Nat) : Int)) <|
  some (.inl (List.set (List.set aA (Int.toNat j11) (List.getD aA (Int.toNat (IntKind.i64.wrap (j11 - (1 : Int)))) default)) (Int.toNat (IntKind.i64.wrap (j11 - (1 : Int)))) (List.getD aA (Int.toNat j11) default), IntKind.i64.wrap (j11 - (1 : Int))))))
  (some (.inr aA))

noncomputable def eK (cmp3 : aC → aC → Option Int) (aA : List aC) (a1 : Int) (b2 : Int) (i9 : Int) (j10 : Int) (j11 : Int) : Option ((List aC × Int × Int) ⊕ ((List aC) ⊕ (Bool × (List aC)))) :=
  (lp (fun s => eN cmp3 a1 b2 i9 j10 s.1 s.2) (aA, j11)).bind (fun rr => cM cmp3 rr a1 b2 i9 j10)

noncomputable def dH (cmp3 : aC → aC → Option Int) (aA : List aC) (a1 : Int) (b2 : Int) (i9 : Int) (j10 : Int) : Option ((List aC × Int × Int) ⊕ ((List aC) ⊕ (Bool × (List aC)))) :=
  cond (decide (i9 = b2))
  (some (.inr (.inr (true, aA))))
  (cond (decide ((IntKind.i64.wrap (b2 - a1)) < (50 : Int)))
  (some (.inr (.inr (false, aA))))
  (aT (0 ≤ (IntKind.i64.wrap (i9 - (1 : Int))) ∧ (IntKind.i64.wrap (i9 - (1 : Int))) < ((List.length aA : Nat) : Int)) <|
  aT (0 ≤ i9 ∧ i9 < ((List.length aA : Nat) : Int)) <|
  aT (0 ≤ i9 ∧ i9 < ((List.length aA : Nat) : Int)) <|
  aT (0 ≤ (IntKind.i64.wrap (i9 - (1 : Int))) ∧ (IntKind.i64.wrap (i9 - (1 : Int))) < ((List.length aA : Nat) : Int)) <|
  cond (decide ((2 : Int) ≤ (IntKind.i64.wrap (i9 - a1))))
  (eK cmp3 (List.set (List.set aA (Int.toNat i9) (List.getD aA (Int.toNat (IntKind.i64.wrap (i9 - (1 : Int)))) default)) (Int.toNat (IntKind.i64.wrap (i9 - (1 : Int)))) (List.getD aA (Int.toNat i9) default)) a1 b2 i9 j10 (IntKind.i64.wrap (i9 - (1 : Int))))
  (cM cmp3 (List.set (List.set aA (Int.toNat i9) (List.getD aA (Int.toNat (IntKind.i64.wrap (i9 - (1 : Int)))) default)) (Int.toNat (IntKind.i64.wrap (i9 - (1 : Int)))) (List.getD aA (Int.toNat i9) default)) a1 b2 i9 j10)))

noncomputable def eS (cmp3 : aC → aC → Option Int) (a1 : Int) (b2 : Int) (j10 : Int) (aA : List aC) (i9 : Int) : Option ((List aC × Int) ⊕ ((List aC × Int))) :=
  aT ((((decide (i9 < b2))) = true → 0 ≤ i9 ∧ i9 < ((List.length aA : Nat) : Int))) <|
  aT ((((decide (i9 < b2))) = true → 0 ≤ (IntKind.i64.wrap (i9 - (1 : Int))) ∧ (IntKind.i64.wrap (i9 - (1 : Int))) < ((List.length aA : Nat) : Int))) <|
  (cX (decide (i9 < b2)) (cmp3 (List.getD aA (Int.toNat i9) default) (List.getD aA (Int.toNat (IntKind.i64.wrap (i9 - (1 : Int)))) default))).bind fun x34 =>
  cond ((decide (i9 < b2)) && (!(decide (x34 < (0 : Int)))))
  (some (.inl (aA, IntKind.i64.wrap (i9 + (1 : Int)))))
  (some (.inr (aA, i9)))

noncomputable def eR (cmp3 : aC → aC → Option Int) (aA : List aC) (a1 : Int) (b2 : Int) (i9 : Int) (j10 : Int) : Option ((List aC × Int × Int) ⊕ ((List aC) ⊕ (Bool × (List aC)))) :=
  (lp (fun s => eS cmp3 a1 b2 j10 s.1 s.2) (aA, i9)).bind (fun rr => dH cmp3 rr.1 a1 b2 rr.2 j10)

noncomputable def eJ (cmp3 : aC → aC → Option Int) (a1 : Int) (b2 : Int) (aA : List aC) (i9 : Int) (j10 : Int) : Option ((List aC × Int × Int) ⊕ ((List aC) ⊕ (Bool × (List aC)))) :=
  cond (decide (j10 < (5 : Int)))
  (eR cmp3 aA a1 b2 i9 j10)
  (some (.inr (.inl aA)))

noncomputable def eP (cmp3 : aC → aC → Option Int) (aA : List aC) (a1 : Int) (b2 : Int) (i9 : Int) (j10 : Int) : Option (Bool × List aC) :=
  (lp (fun s => eJ cmp3 a1 b2 s.1 s.2.1 s.2.2) (aA, i9, j10)).bind (Sum.elim (fun rr => dG cmp3 rr) (fun rr => some (rr.1, rr.2)))

noncomputable def eY (aA : (List aC)) (a1 : Int) (b2 : Int) (cmp3 : aC → aC → Option Int) : Option (Bool × List aC) :=
  eP cmp3 aA a1 b2 (IntKind.i64.wrap (a1 + (1 : Int))) (0 : Int)

noncomputable def eE (cmp4 : aC → aC → Option Int) (aA : List aC) (i11 : Int) : Option (Int × List aC) :=
  some (i11, aA)

noncomputable def eF (cmp4 : aC → aC → Option Int) (aA : List aC) (a1 : Int) (i11 : Int) (j12 : Int) : Option ((List aC × Int × Int) ⊕ ((List aC × Int))) :=
  cond (decide (j12 < i11))
  (some (.inr (aA, i11)))
  (aT (0 ≤ j12 ∧ j12 < ((List.length aA : Nat) : Int)) <|
  aT (0 ≤ i11 ∧ i11 < ((List.length aA : Nat) : Int)) <|
  aT (0 ≤ i11 ∧ i11 < ((List.length aA : Nat) : Int)) <|
  aT (0 ≤ j12 ∧ j12 < ((List.length aA : Nat) : Int)) <|
  some (.inl (List.set (List.set aA (Int.toNat i11) (List.getD aA (Int.toNat j12) default)) (Int.toNat j12) (List.getD aA (Int.toNat i11) default), IntKind.i64.wrap (i11 + (1 : Int)), IntKind.i64.wrap (j12 - (1 : Int)))))

noncomputable def gF (cmp4 : aC → aC → Option Int) (a1 : Int) (i11 : Int) (aA : List aC) (j12 : Int) : Option ((List aC × Int) ⊕ ((List aC × Int))) :=
  aT ((((decide (i11 ≤ j12))) = true → 0 ≤ a1 ∧ a1 < ((List.length aA : Nat) : Int))) <|
  aT ((((decide (i11 ≤ j12))) = true → 0 ≤ j12 ∧ j12 < ((List.length aA : Nat) : Int))) <|
  (cX (decide (i11 ≤ j12)) (cmp4 (List.getD aA (Int.toNat a1) default) (List.getD aA (Int.toNat j12) default))).bind fun x12 =>
  cond ((decide (i11 ≤ j12)) && (decide (x12 < (0 : Int))))
  (some (.inl (aA, IntKind.i64.wrap (j12 - (1 : Int)))))
  (some (.inr (aA, j12)))

noncomputable def gE (cmp4 : aC → aC → Option Int) (aA : List aC) (a1 : Int) (i11 : Int) (j12 : Int) : Option ((List aC × Int × Int) ⊕ ((List aC × Int))) :=
  (lp (fun s => gF cmp4 a1 i11 s.1 s.2) (aA, j12)).bind (fun rr => eF cmp4 rr.1 a1 i11 rr.2)

noncomputable def eD (cmp4 : aC → aC → Option Int) (aA : List aC) (a1 : Int) (i11 : Int) (j12 : Int) : Option ((List aC × Int × Int) ⊕ ((List aC × Int))) :=
  gE cmp4 aA a1 i11 j12

noncomputable def fZ (cmp4 : aC → aC → Option Int) (a1 : Int) (j12 : Int) (aA : List aC) (i11 : Int) : Option ((List aC × Int) ⊕ ((List aC × Int))) :=
  aT ((((decide (i11 ≤ j12))) = true → 0 ≤ a1 ∧ a1 < ((List.length aA : Nat) : Int))) <|
  aT ((((decide (i11 ≤ j12))) = true → 0 ≤ i11 ∧ i11 < ((List.length aA : Nat) : Int))) <|
  (cX (decide (i11 ≤ j12)) (cmp4 (List.getD aA (Int.toNat a1) default) (List.getD aA (Int.toNat i11) default))).bind fun x18 =>
  cond ((decide (i11 ≤ j12)) && (!(decide (x18 < (0 : Int)))))
  (some (.inl (aA, IntKind.i64.wrap (i11 + (1 : Int)))))
  (some (.inr (aA, i11)))

noncomputable def gH (cmp4 : aC → aC → Option Int) (aA : List aC) (a1 : Int) (i11 : Int) (j12 : Int) : Option ((List aC × Int × Int) ⊕ ((List aC × Int))) :=
  (lp (fun s => fZ cmp4 a1 j12 s.1 s.2) (aA, i11)).bind (fun rr => eD cmp4 rr.1 a1 rr.2 j12)

noncomputable def fY (cmp4 : aC → aC → Option Int) (a1 : Int) (aA : List aC) (i11 : Int) (j12 : Int) : Option ((List aC × Int × Int) ⊕ ((List aC × Int))) :=
  gH cmp4 aA a1 i11 j12

noncomputable def gG (cmp4 : aC → aC → Option Int) (aA : List aC) (a1 : Int) (i11 : Int) (j12 : Int) : Option (Int × List aC) :=
  (lp (fun s => fY cmp4 a1 s.1 s.2.1 s.2.2) (aA, i11, j12)).bind (fun rr => eE cmp4 rr.1 rr.2)

noncomputable def gY (aA : (List aC)) (a1 : Int) (b2 : Int) (bY : Int) (cmp4 : aC → aC → Option Int) : Option (Int × List aC) :=
  aT (0 ≤ bY ∧ bY < ((List.length aA : Nat) : Int)) <|
  aT (0 ≤ a1 ∧ a1 < ((List.length aA : Nat) : Int)) <|
  aT (0 ≤ a1 ∧ a1 < ((List.length aA : Nat) : Int)) <|
  aT (0 ≤ bY ∧ bY < ((List.length aA : Nat) : Int)) <|
  gG cmp4 (List.set (List.set aA (Int.toNat a1) (List.getD aA (Int.toNat bY) default)) (Int.toNat bY) (List.getD aA (Int.toNat a1) default)) a1 (IntKind.i64.wrap (a1 + (1 : Int))) (IntKind.i64.wrap (b2 - (1 : Int)))

noncomputable def fQ (cmp4 : aC → aC → Option Int) (aA : List aC) (a1 : Int) (j13 : Int) : Option ((Int × Bool) × List aC) :=
  aT (0 ≤ a1 ∧ a1 < ((List.length aA : Nat) : Int)) <|
  aT (0 ≤ j13 ∧ j13 < ((List.length aA : Nat) : Int)) <|
  aT (0 ≤ j13 ∧ j13 < ((List.length aA : Nat) : Int)) <|
  aT (0 ≤ a1 ∧ a1 < ((List.length aA : Nat) : Int)) <|
  some ((j13, false), (List.set (List.set aA (Int.toNat j13) (List.getD aA (Int.toNat a1) default)) (Int.toNat a1) (List.getD aA (Int.toNat j13) default)))

noncomputable def fU (cmp4 : aC → aC → Option Int) (aA : List aC) (a1 : Int) (i12 : Int) (j13 : Int) : Option ((List aC × Int × Int) ⊕ ((List aC × Int))) :=
  cond (decide (j13 < i12))
  (some (.inr (aA, j13)))
  (aT (0 ≤ j13 ∧ j13 < ((List.length aA : Nat) : Int)) <|
  aT (0 ≤ i12 ∧ i12 < ((List.length aA : Nat) : Int)) <|
  aT (0 ≤ i12 ∧ i12 < ((List.length aA : Nat) : Int)) <|
  aT (0 ≤ j13 ∧ j13 < ((List.length aA : Nat) : Int)) <|
  some (.inl (List.set (List.set aA (Int.toNat i12) (List.getD aA (Int.toNat j13) default)) (Int.toNat j13) (List.getD aA (Int.toNat i12) default), IntKind.i64.wrap (i12 + (1 : Int)), IntKind.i64.wrap (j13 - (1 : Int)))))

noncomputable def jJ (cmp4 : aC → aC → Option Int) (a1 : Int) (i12 : Int) (aA : List aC) (j13 : Int) : Option ((List aC × Int) ⊕ ((List aC × Int))) :=
  aT ((((decide (i12 ≤ j13))) = true → 0 ≤ j13 ∧ j13 < ((List.length aA : Nat) : Int))) <|
  aT ((((decide (i12 ≤ j13))) = true → 0 ≤ a1 ∧ a1 < ((List.length aA : Nat) : Int))) <|
  (cX (decide (i12 ≤ j13)) (cmp4 (List.getD aA (Int.toNat j13) default) (List.getD aA (Int.toNat a1) default))).bind fun x25 =>
  cond ((decide (i12 ≤ j13)) && (!(decide (x25 < (0 : Int)))))
  (some (.inl (aA, IntKind.i64.wrap (j13 - (1 : Int)))))
  (some (.inr (aA, j13)))

noncomputable def jD (cmp4 : aC → aC → Option Int) (aA : List aC) (a1 : Int) (i12 : Int) (j13 : Int) : Option ((List aC × Int × Int) ⊕ ((List aC × Int))) :=
  (lp (fun s => jJ cmp4 a1 i12 s.1 s.2) (aA, j13)).bind (fun rr => fU cmp4 rr.1 a1 i12 rr.2)

noncomputable def fP (cmp4 : aC → aC → Option Int) (aA : List aC) (a1 : Int) (i12 : Int) (j13 : Int) : Option ((List aC × Int × Int) ⊕ ((List aC × Int))) :=
  jD cmp4 aA a1 i12 j13

noncomputable def jG (cmp4 : aC → aC → Option Int) (a1 : Int) (j13 : Int) (aA : List aC) (i12 : Int) : Option ((List aC × Int) ⊕ ((List aC × Int))) :=
  aT ((((decide (i12 ≤ j13))) = true → 0 ≤ i12 ∧ i12 < ((List.length aA : Nat) : Int))) <|
  aT ((((decide (i12 ≤ j13))) = true → 0 ≤ a1 ∧ a1 < ((List.length aA : Nat) : Int))) <|
  (cX (decide (i12 ≤ j13)) (cmp4 (List.getD aA (Int.toNat i12) default) (List.getD aA (Int.toNat a1) default))).bind fun x31 =>
  cond ((decide (i12 ≤ j13)) && (decide (x31 < (0 : Int))))
  (some (.inl (aA, IntKind.i64.wrap (i12 + (1 : Int)))))
  (some (.inr (aA, i12)))

noncomputable def jH (cmp4 : aC → aC → Option Int) (aA : List aC) (a1 : Int) (i12 : Int) (j13 : Int) : Option ((List aC × Int × Int) ⊕ ((List aC × Int))) :=
  (lp (fun s => jG cmp4 a1 j13 s.1 s.2) (aA, i12)).bind (fun rr => fP cmp4 rr.1 a1 rr.2 j13)

noncomputable def jK (cmp4 : aC → aC → Option Int) (a1 : Int) (aA : List aC) (i12 : Int) (j13 : Int) : Option ((List aC × Int × Int) ⊕ ((List aC × Int))) :=
  jH cmp4 aA a1 i12 j13

noncomputable def jO (cmp4 : aC → aC → Option Int) (aA : List aC) (a1 : Int) (i12 : Int) (j13 : Int) : Option ((Int × Bool) × List aC) :=
  (lp (fun s => jK cmp4 a1 s.1 s.2.1 s.2.2) (aA, i12, j13)).bind (fun rr => fQ cmp4 rr.1 a1 rr.2)

noncomputable def fR (cmp4 : aC → aC → Option Int) (aA : List aC) (a1 : Int) (i12 : Int) (j13 : Int) : Option ((Int × Bool) × List aC) :=
  cond (decide (j13 < i12))
  (aT (0 ≤ a1 ∧ a1 < ((List.length aA : Nat) : Int)) <|
  aT (0 ≤ j13 ∧ j13 < ((List.length aA : Nat) : Int)) <|
  aT (0 ≤ j13 ∧ j13 < ((List.length aA : Nat) : Int)) <|
  aT (0 ≤ a1 ∧ a1 < ((List.length aA : Nat) : Int)) <|
  some ((j13, true), (List.set (List.set aA (Int.toNat j13) (List.getD aA (Int.toNat a1) default)) (Int.toNat a1) (List.getD aA (Int.toNat j13) default))))
  (aT (0 ≤ j13 ∧ j13 < ((List.length aA : Nat) : Int)) <|
  aT (0 ≤ i12 ∧ i12 < ((List.length aA : Nat) : Int)) <|
  aT (0 ≤ i12 ∧ i12 < ((List.length aA : Nat) : Int)) <|
  aT (0 ≤ j13 ∧ j13 < ((List.length aA : Nat) : Int)) <|
  jO cmp4 (List.set (List.set aA (Int.toNat i12) (List.getD aA (Int.toNat j13) default)) (Int.toNat j13) (List.getD aA (Int.toNat i12) default)) a1 (IntKind.i64.wrap (i12 + (1 : Int))) (IntKind.i64.wrap (j13 - (1 : Int))))

noncomputable def jI (cmp4 : aC → aC → Option Int) (a1 : Int) (i12 : Int) (aA : List aC) (j13 : Int) : Option ((List aC × Int) ⊕ ((List aC × Int))) :=
  aT ((((decide (i12 ≤ j13))) = true → 0 ≤ j13 ∧ j13 < ((List.length aA : Nat) : Int))) <|
  aT ((((decide (i12 ≤ j13))) = true → 0 ≤ a1 ∧ a1 < ((List.length aA : Nat) : Int))) <|
  (cX (decide (i12 ≤ j13)) (cmp4 (List.getD aA (Int.toNat j13) default) (List.getD aA (Int.toNat a1) default))).bind fun x37 =>
  cond ((decide (i12 ≤ j13)) && (!(decide (x37 < (0 : Int)))))
  (some (.inl (aA, IntKind.i64.wrap (j13 - (1 : Int)))))
  (some (.inr (aA, j13)))

noncomputable def jC (cmp4 : aC → aC → Option Int) (aA : List aC) (a1 : Int) (i12 : Int) (j13 : Int) : Option ((Int × Bool) × List aC) :=
  (lp (fun s => jI cmp4 a1 i12 s.1 s.2) (aA, j13)).bind (fun rr => fR cmp4 rr.1 a1 i12 rr.2)

noncomputable def fS (cmp4 : aC → aC → Option Int) (aA : List aC) (a1 : Int) (i12 : Int) (j13 : Int) : Option ((Int × Bool) × List aC) :=
  jC cmp4 aA a1 i12 j13

noncomputable def iV (cmp4 : aC → aC → Option Int) (a1 : Int) (j13 : Int) (aA : List aC) (i12 : Int) : Option ((List aC × Int) ⊕ ((List aC × Int))) :=
  aT ((((decide (i12 ≤ j13))) = true → 0 ≤ i12 ∧ i12 < ((List.length aA : Nat) : Int))) <|
  aT ((((decide (i12 ≤ j13))) = true → 0 ≤ a1 ∧ a1 < ((List.length aA : Nat) : Int))) <|
  (cX (decide (i12 ≤ j13)) (cmp4 (List.getD aA (Int.toNat i12) default) (List.getD aA (Int.toNat a1) default))).bind fun x43 =>
  cond ((decide (i12 ≤ j13)) && (decide (x43 < (0 : Int))))
  (some (.inl (aA, IntKind.i64.wrap (i12 + (1 : Int)))))
  (some (.inr (aA, i12)))

noncomputable def iX (cmp4 : aC → aC → Option Int) (aA : List aC) (a1 : Int) (i12 : Int) (j13 : Int) : Option ((Int × Bool) × List aC) :=
  (lp (fun s => iV cmp4 a1 j13 s.1 s.2) (aA, i12)).bind (fun rr => fS cmp4 rr.1 a1 rr.2 j13)

noncomputable def jZ (aA : (List aC)) (a1 : Int) (b2 : Int) (bY : Int) (cmp4 : aC → aC → Option Int) : Option ((Int × Bool) × List aC) :=
  aT (0 ≤ bY ∧ bY < ((List.length aA : Nat) : Int)) <|
  aT (0 ≤ a1 ∧ a1 < ((List.length aA : Nat) : Int)) <|
  aT (0 ≤ a1 ∧ a1 < ((List.length aA : Nat) : Int)) <|
  aT (0 ≤ bY ∧ bY < ((List.length aA : Nat) : Int)) <|
  iX cmp4 (List.set (List.set aA (Int.toNat a1) (List.getD aA (Int.toNat bY) default)) (Int.toNat bY) (List.getD aA (Int.toNat a1) default)) a1 (IntKind.i64.wrap (a1 + (1 : Int))) (IntKind.i64.wrap (b2 - (1 : Int)))

noncomputable def iA (cmp4 : aC → aC → Option Int) (rec : (List aC) → Int → Int → Int → Option (List aC)) (aA : List aC) (a1 : Int) (b2 : Int) (bJ : Int) (bH : Bool) (bA : Bool) (cY : Int) (fF : Int) : Option ((List aC × Int × Int × Int × Bool × Bool) ⊕ ((List aC))) :=
  aT ((((decide ((0 : Int) < a1))) = true → 0 ≤ (IntKind.i64.wrap (a1 - (1 : Int))) ∧ (IntKind.i64.wrap (a1 - (1 : Int))) < ((List.length aA : Nat) : Int))) <|
  aT ((((decide ((0 : Int) < a1))) = true → 0 ≤ fF ∧ fF < ((List.length aA : Nat) : Int))) <|
  (cX (decide ((0 : Int) < a1)) (cmp4 (List.getD aA (Int.toNat (IntKind.i64.wrap (a1 - (1 : Int)))) default) (List.getD aA (Int.toNat fF) default))).bind fun x16 =>
  cond ((decide ((0 : Int) < a1)) && (!(decide (x16 < (0 : Int)))))
  ((gY aA a1 b2 fF cmp4).bind fun x20 =>
  some (.inl (x20.2, x20.1, b2, bJ, bH, bA)))
  ((jZ aA a1 b2 fF cmp4).bind fun x23 =>
  aT ((8 : Int) ≠ 0) <|
  cond (decide ((IntKind.i64.wrap (x23.1.1 - a1)) < (IntKind.i64.wrap (b2 - x23.1.1))))
  ((rec x23.2 a1 x23.1.1 bJ).bind fun x28 =>
  some (.inl (x28, IntKind.i64.wrap (x23.1.1 + (1 : Int)), b2, bJ, decide ((IntKind.i64.wrap (Int.tdiv cY (8 : Int))) ≤ (IntKind.i64.wrap (x23.1.1 - a1))), x23.1.2)))
  ((rec x23.2 (IntKind.i64.wrap (x23.1.1 + (1 : Int))) b2 bJ).bind fun x31 =>
  some (.inl (x31, a1, x23.1.1, bJ, decide ((IntKind.i64.wrap (Int.tdiv cY (8 : Int))) ≤ (IntKind.i64.wrap (b2 - x23.1.1))), x23.1.2))))

noncomputable def iE (cmp4 : aC → aC → Option Int) (rec : (List aC) → Int → Int → Int → Option (List aC)) (aA : List aC) (a1 : Int) (b2 : Int) (bJ : Int) (bH : Bool) (bA : Bool) (cY : Int) (fF : Int) (CK : Int) : Option ((List aC × Int × Int × Int × Bool × Bool) ⊕ ((List aC))) :=
  cond ((bH && bA) && (decide (CK = (1 : Int))))
  ((eY aA a1 b2 cmp4).bind fun x35 =>
  cond x35.1
  (some (.inr x35.2))
  (iA cmp4 rec x35.2 a1 b2 bJ bH bA cY fF))
  (iA cmp4 rec aA a1 b2 bJ bH bA cY fF)

noncomputable def hY (cmp4 : aC → aC → Option Int) (rec : (List aC) → Int → Int → Int → Option (List aC)) (aA : List aC) (a1 : Int) (b2 : Int) (bJ : Int) (bH : Bool) (bA : Bool) (cY : Int) : Option ((List aC × Int × Int × Int × Bool × Bool) ⊕ ((List aC))) :=
  (iW aA a1 b2 cmp4).bind fun x9 =>
  cond (decide (x9.2 = (2 : Int)))
  ((iO aA a1 b2 cmp4).bind fun x40 =>
  iE cmp4 rec x40 a1 b2 bJ bH bA cY (IntKind.i64.wrap ((IntKind.i64.wrap (b2 - (1 : Int))) - (IntKind.i64.wrap (x9.1 - a1)))) (1 : Int))
  (iE cmp4 rec aA a1 b2 bJ bH bA cY x9.1 x9.2)

noncomputable def kO (cmp4 : aC → aC → Option Int) (rec : (List aC) → Int → Int → Int → Option (List aC))  (aA : List aC) (a1 : Int) (b2 : Int) (bJ : Int) (bH : Bool) (bA : Bool) : Option ((List aC × Int × Int × Int × Bool × Bool) ⊕ ((List aC))) :=
  cond (decide ((IntKind.i64.wrap (b2 - a1)) ≤ (12 : Int)))
  ((iI aA a1 b2 cmp4).bind fun x2 =>
  some (.inr x2))
  (cond (decide (bJ = (0 : Int)))
  ((kL aA a1 b2 cmp4).bind fun x6 =>
  some (.inr x6))
  (cond (!bH)
  ((iF aA a1 b2 cmp4).bind fun x44 =>
  hY cmp4 rec x44 a1 b2 (IntKind.i64.wrap (bJ - (1 : Int))) bH bA (IntKind.i64.wrap (b2 - a1)))
  (hY cmp4 rec aA a1 b2 bJ bH bA (IntKind.i64.wrap (b2 - a1)))))

noncomputable def kR (cmp4 : aC → aC → Option Int) (rec : (List aC) → Int → Int → Int → Option (List aC)) (aA : List aC) (a1 : Int) (b2 : Int) (bJ : Int) (bH : Bool) (bA : Bool) : Option (List aC) :=
  (lp (fun s => kO cmp4 rec s.1 s.2.1 s.2.2.1 s.2.2.2.1 s.2.2.2.2.1 s.2.2.2.2.2) (aA, a1, b2, bJ, bH, bA)).bind (fun rr => some rr)

noncomputable def jA (cmp4 : aC → aC → Option Int) (rec : (List aC) → Int → Int → Int → Option (List aC)) (aA : (List aC)) (a1 : Int) (b2 : Int) (bJ : Int) : Option (List aC) :=
  kR cmp4 rec aA a1 b2 bJ true true

noncomputable def iC (cmp4 : aC → aC → Option Int) : Nat → (List aC) → Int → Int → Int → Option (List aC)
  | 0 => fun _ _ _ _ => none
  | k + 1 => jA cmp4 (iC cmp4 k)

noncomputable def pT (aA : (List aC)) (a1 : Int) (b2 : Int) (bJ : Int) (cmp4 : aC → aC → Option Int) : Option (List aC) := aAE (fun k => iC cmp4 k aA a1 b2 bJ)

noncomputable def fT (x0 : (List aC)) (cmp1 : aC → aC → Option Int) : Option (List aC) :=
  (nO (IntKind.u64.wrap ((List.length x0 : Nat) : Int))).bind fun x1 =>
  (pT x0 (0 : Int) ((List.length x0 : Nat) : Int) x1 cmp1).bind fun x4 =>
  some x4

noncomputable def pH (x0 : aC) (y1 : aC) : Option Int :=
  (tI x0.row y1.row).bind fun x1 =>
  some x1

noncomputable def DZ (l0 : List aI) : Option (List aI) :=
  some l0

noncomputable def sE (r1 : (List aE)) (t9 : (List aD)) (t10 : Int) (l0 : List aI) (t11 : Int) : Option ((List aI × Int) ⊕ ((List aI))) :=
  cond (decide (t11 < t10))
  (aT (0 ≤ t11 ∧ t11 < ((List.length t9 : Nat) : Int)) <|
  (yH r1).bind fun x7 =>
  aT ((List.length l0 + List.length ([aI.mk x7 ((List.getD t9 (Int.toNat t11) default).At) ((List.getD t9 (Int.toNat t11) default).Net)])) * 40 ≤ 140737488355328 ∧ List.length l0 + List.length ([aI.mk x7 ((List.getD t9 (Int.toNat t11) default).At) ((List.getD t9 (Int.toNat t11) default).Net)]) ≤ 9223372036854775807) <|
  some (.inl (l0 ++ ([aI.mk x7 ((List.getD t9 (Int.toNat t11) default).At) ((List.getD t9 (Int.toNat t11) default).Net)]), IntKind.i64.wrap (t11 + (1 : Int)))))
  (some (.inr l0))

noncomputable def DY (l0 : List aI) (r1 : (List aE)) (t9 : (List aD)) (t10 : Int) (t11 : Int) : Option (List aI) :=
  (lp (fun s => sE r1 t9 t10 s.1 s.2) (l0, t11)).bind (fun rr => DZ rr)

noncomputable def CC (l0 : (List aI)) (r1 : (List aE)) (f2 : (List aD)) : Option (List aI) :=
  DY l0 r1 f2 ((List.length f2 : Nat) : Int) (0 : Int)

noncomputable def xH (r0 : (List aE)) (f1 : (List aD)) : Option (List aI) :=
  (tQ r0).bind fun x1 =>
  (cX (!(!x1)) (pS f1)).bind fun x4 =>
  cond ((!x1) || (!x4))
  (some ([]))
  ((CC [] r0 f1).bind fun x8 =>
  some x8)

noncomputable def AH (rows : List aC) (n : Int) (out : List aI) (i : Int) : Option ((List aI × Int) ⊕ List aI) :=
  cond (decide (i < n))
  (aT (0 ≤ i ∧ i < (lN rows)) <|
  (xH (gD rows i).row (gD rows i).jumps).bind fun x =>
  aT ((List.length out + List.length x) * 40 ≤ 140737488355328 ∧ List.length out + List.length x ≤ 9223372036854775807) <|
  some (.inl (out ++ x, wR (i + (1 : Int)))))
  (some (.inr out))

noncomputable def KU (rows : List aC) : Option (List aI) :=
  (fT rows (fun x y => pH x y)).bind fun rows =>
  lp (fun s => AH rows (lN rows) s.1 s.2) (([] : List aI), (0 : Int))

noncomputable def sB (s : List aC) (p : ByteArray × aC) : Option (List aC) :=
  aT ((List.length s + List.length ([p.2])) * 48 ≤ 140737488355328 ∧ List.length s + List.length ([p.2]) ≤ 9223372036854775807) <|
  some (s ++ [p.2])

noncomputable def sD (b : bU) : Option (List aI) :=
  aT (0 ≤ (lN b.cells) ∧ (48 : Int) * (lN b.cells) ≤ 281474976710656 ∧ (lN b.cells) ≤ 9223372036854775807) <|
  uW b.cells (fun q => (mU sB ([] : List aC) q).bind KU)

noncomputable def vP  : Option Bool :=
  some true

noncomputable def tB (a0 : (List aE)) (b1 : (List aE)) (i5 : Int) : Option ((Int) ⊕ (Unit ⊕ Bool)) :=
  cond (decide (i5 < ((List.length a0 : Nat) : Int)))
  (aT (0 ≤ i5 ∧ i5 < ((List.length a0 : Nat) : Int)) <|
  aT (0 ≤ i5 ∧ i5 < ((List.length b1 : Nat) : Int)) <|
  cond (!((decide (((List.getD a0 (Int.toNat i5) default).Kind) = ((List.getD b1 (Int.toNat i5) default).Kind))) && ((decide (((List.getD a0 (Int.toNat i5) default).Num) = ((List.getD b1 (Int.toNat i5) default).Num))) && ((sA ((List.getD a0 (Int.toNat i5) default).Text) ((List.getD b1 (Int.toNat i5) default).Text)) && true))))
  (some (.inr (.inr false)))
  (some (.inl (IntKind.i64.wrap (i5 + (1 : Int))))))
  (some (.inr (.inl ())))

noncomputable def AQ (a0 : (List aE)) (b1 : (List aE)) (i5 : Int) : Option Bool :=
  (lp (fun s => tB a0 b1 s) i5).bind (Sum.elim (fun rr => vP ) (fun rr => some rr))

noncomputable def xX (a0 : (List aE)) (b1 : (List aE)) : Option Bool :=
  cond (!decide (((List.length a0 : Nat) : Int) = ((List.length b1 : Nat) : Int)))
  (some false)
  (AQ a0 b1 (0 : Int))

noncomputable def vN  : Option Bool :=
  some true

noncomputable def tF (a0 : (List aI)) (b1 : (List aI)) (i5 : Int) : Option ((Int) ⊕ (Unit ⊕ Bool)) :=
  cond (decide (i5 < ((List.length a0 : Nat) : Int)))
  (aT (0 ≤ i5 ∧ i5 < ((List.length a0 : Nat) : Int)) <|
  aT (0 ≤ i5 ∧ i5 < ((List.length b1 : Nat) : Int)) <|
  aT ((((!(!decide (((List.getD a0 (Int.toNat i5) default).At) = ((List.getD b1 (Int.toNat i5) default).At))))) = true → 0 ≤ i5 ∧ i5 < ((List.length a0 : Nat) : Int))) <|
  aT ((((!(!decide (((List.getD a0 (Int.toNat i5) default).At) = ((List.getD b1 (Int.toNat i5) default).At))))) = true → 0 ≤ i5 ∧ i5 < ((List.length b1 : Nat) : Int))) <|
  aT ((((!((!decide (((List.getD a0 (Int.toNat i5) default).At) = ((List.getD b1 (Int.toNat i5) default).At))) || (!decide (((List.getD a0 (Int.toNat i5) default).Net) = ((List.getD b1 (Int.toNat i5) default).Net)))))) = true → 0 ≤ i5 ∧ i5 < ((List.length a0 : Nat) : Int))) <|
  aT ((((!((!decide (((List.getD a0 (Int.toNat i5) default).At) = ((List.getD b1 (Int.toNat i5) default).At))) || (!decide (((List.getD a0 (Int.toNat i5) default).Net) = ((List.getD b1 (Int.toNat i5) default).Net)))))) = true → 0 ≤ i5 ∧ i5 < ((List.length b1 : Nat) : Int))) <|
  (cX (!((!decide (((List.getD a0 (Int.toNat i5) default).At) = ((List.getD b1 (Int.toNat i5) default).At))) || (!decide (((List.getD a0 (Int.toNat i5) default).Net) = ((List.getD b1 (Int.toNat i5) default).Net))))) (xX ((List.getD a0 (Int.toNat i5) default).Row) ((List.getD b1 (Int.toNat i5) default).Row))).bind fun x9 =>
  cond (((!decide (((List.getD a0 (Int.toNat i5) default).At) = ((List.getD b1 (Int.toNat i5) default).At))) || (!decide (((List.getD a0 (Int.toNat i5) default).Net) = ((List.getD b1 (Int.toNat i5) default).Net)))) || (!x9))
  (some (.inr (.inr false)))
  (some (.inl (IntKind.i64.wrap (i5 + (1 : Int))))))
  (some (.inr (.inl ())))

noncomputable def AU (a0 : (List aI)) (b1 : (List aI)) (i5 : Int) : Option Bool :=
  (lp (fun s => tF a0 b1 s) i5).bind (Sum.elim (fun rr => vN ) (fun rr => some rr))

noncomputable def sL (a0 : (List aI)) (b1 : (List aI)) : Option Bool :=
  cond (!decide (((List.length a0 : Nat) : Int) = ((List.length b1 : Nat) : Int)))
  (some false)
  (AU a0 b1 (0 : Int))

noncomputable def uN  : Option Bool :=
  (BM).bind fun x1 =>
  (sG x1 ([aI.mk ([aE.mk (1 : Int) (1 : Int) ByteArray.empty]) (2 : Int) (1 : Int), aI.mk ([aE.mk (1 : Int) (1 : Int) ByteArray.empty]) (9 : Int) (-1 : Int)])).bind fun x9 =>
  (oG x9.2 (5 : Int)).bind fun x15 =>
  (sG x15.2 ([aI.mk ([aE.mk (1 : Int) (1 : Int) ByteArray.empty]) (4 : Int) (1 : Int)])).bind fun x21 =>
  (cond (((decide (x9.1 = (0 : Int))) && (decide (x15.1 = (0 : Int)))) && (decide (x21.1 = (16 : Int)))) (FV x21.2) (some (0 : Int))).bind fun x27 =>
  (cond ((((decide (x9.1 = (0 : Int))) && (decide (x15.1 = (0 : Int)))) && (decide (x21.1 = (16 : Int)))) && (decide (x27 = (5 : Int)))) (AI x21.2) (some (0 : Int))).bind fun x33 =>
  (cond (((((decide (x9.1 = (0 : Int))) && (decide (x15.1 = (0 : Int)))) && (decide (x21.1 = (16 : Int)))) && (decide (x27 = (5 : Int)))) && (decide (x33 = (1 : Int)))) (sD x21.2) (some ([]))).bind fun x39 =>
  (cX (((((decide (x9.1 = (0 : Int))) && (decide (x15.1 = (0 : Int)))) && (decide (x21.1 = (16 : Int)))) && (decide (x27 = (5 : Int)))) && (decide (x33 = (1 : Int)))) (sL x39 ([aI.mk ([aE.mk (1 : Int) (1 : Int) ByteArray.empty]) (-1 : Int) (1 : Int), aI.mk ([aE.mk (1 : Int) (1 : Int) ByteArray.empty]) (9 : Int) (-1 : Int)]))).bind fun x45 =>
  some ((((((decide (x9.1 = (0 : Int))) && (decide (x15.1 = (0 : Int)))) && (decide (x21.1 = (16 : Int)))) && (decide (x27 = (5 : Int)))) && (decide (x33 = (1 : Int)))) && x45)

noncomputable def sQ (b5 : bU) (was6 : (List aI)) (oF : List aI) : Option Bool :=
  (uN ).bind fun x44 =>
  (cond x44 (sG b5 oF) (some ((0 : Int), b5))).bind fun x47 =>
  (cond (x44 && (decide (x47.1 = (0 : Int)))) (sD x47.2) (some ([]))).bind fun x53 =>
  (cX (x44 && (decide (x47.1 = (0 : Int)))) (sL x53 was6)).bind fun x59 =>
  some ((x44 && (decide (x47.1 = (0 : Int)))) && x59)

noncomputable def qS (fE : (List aI)) (b5 : bU) (was6 : (List aI)) (oF : List aI) (i9 : Int) : Option ((List aI × Int) ⊕ ((List aI))) :=
  cond (decide (i9 < ((List.length fE : Nat) : Int)))
  (aT (0 ≤ i9 ∧ i9 < ((List.length fE : Nat) : Int)) <|
  aT (0 ≤ i9 ∧ i9 < ((List.length fE : Nat) : Int)) <|
  aT (0 ≤ i9 ∧ i9 < ((List.length fE : Nat) : Int)) <|
  aT ((List.length oF + List.length ([aI.mk ((List.getD fE (Int.toNat i9) default).Row) ((List.getD fE (Int.toNat i9) default).At) (IntKind.i64.wrap (0 - ((List.getD fE (Int.toNat i9) default).Net)))])) * 40 ≤ 140737488355328 ∧ List.length oF + List.length ([aI.mk ((List.getD fE (Int.toNat i9) default).Row) ((List.getD fE (Int.toNat i9) default).At) (IntKind.i64.wrap (0 - ((List.getD fE (Int.toNat i9) default).Net)))]) ≤ 9223372036854775807) <|
  some (.inl (oF ++ ([aI.mk ((List.getD fE (Int.toNat i9) default).Row) ((List.getD fE (Int.toNat i9) default).At) (IntKind.i64.wrap (0 - ((List.getD fE (Int.toNat i9) default).Net)))]), IntKind.i64.wrap (i9 + (1 : Int)))))
  (some (.inr oF))

noncomputable def vI (fE : (List aI)) (b5 : bU) (was6 : (List aI)) (oF : List aI) (i9 : Int) : Option Bool :=
  (lp (fun s => qS fE b5 was6 s.1 s.2) (oF, i9)).bind (fun rr => sQ b5 was6 rr)

noncomputable def wX (NB : (List aI)) (fE : (List aI)) : Option Bool :=
  (BM).bind fun x1 =>
  (sG x1 NB).bind fun x9 =>
  (sD x9.2).bind fun x15 =>
  (sG x9.2 fE).bind fun x21 =>
  cond (!decide (x21.1 = (0 : Int)))
  ((uN ).bind fun x28 =>
  (cond x28 (sD x21.2) (some ([]))).bind fun x31 =>
  (cX x28 (sL x31 x15)).bind fun x37 =>
  some (x28 && x37))
  (vI fE x21.2 x15 ([] : List aI) (0 : Int))

end Go.Abs
namespace Go.Abs
open Go Go.RowKit
def HF (x : aE) : Prop := uM x.Kind ∧ uM x.Num ∧ (fun s => s.size ≤ maxLen) x.Text ∧ True

def sC (x : aI) : Prop := (fun l => (∀ a ∈ l, HF a) ∧ l.length * 32 ≤ 140737488351232) x.Row ∧ uM x.At ∧ uM x.Net ∧ True

end Go.Abs
namespace Go.Abs
open Go Go.RowKit Go.Proofs
noncomputable def tt : TT := ⟨aB8 Try.prog, aAR Try.prog⟩

theorem aF : iG Try.prog tt := iG.of Try.prog

theorem WR (r : bU) (h0 : BM = some r) : wV Try.prog 6 [] [] [] (fun x M L => ∃ lo lm, x = .lp lo 0 0 ∧ M = [fJ lm r] ∧ L = [pM lo lm r]) := by
  intro F H0 hO
  obtain ⟨Fh, Fe, Fg⟩ := F
  refine dP Try.func6 ?_
  unfold BM at h0
  obtain rfl := oI h0
  refine aY aF 1 [] [] ?_
  refine aP ?_
  refine aU aF 4 ?_
  refine aBs (β := aC) aB (t := 40) hO ?_
  intro lm H hO
  refine bQ 2 ?_
  refine qT 3 (.agg [.mp lm, eI 0, eI (-1)]) (by kernel_rfl) (by kernel_rfl) hO ?_
  intro lo H hO
  refine bG ?_
  refine bC [(0, (.lp lo 0 0))] ?_
  refine bR ?_
  exact aK (MN (M := [fJ lm ⟨[], 0, -1⟩]) hO ⟨lo, lm, rfl, rfl, rfl⟩)

theorem QK (l0 : (List aI)) (r : (List aI)) (h0 : wG l0 = some r) : dK Try.prog 31 [(eL aO l0)] (.fn (.func 47) [] [(.rp (eL aO r))]) := by
  intro H0
  refine dP Try.func31 ?_
  have hO := aN.start H0
  unfold wG at h0
  refine aP ?_
  refine aU aF 2 ?_
  refine xG 1 (eL aO l0) ?_
  refine bG ?_
  refine bC [(1, (.rp (eL aO l0)))] ?_
  refine cJ aF 2 [(2, (.fn (.func 47) [] [(.rp (eL aO l0))]))] ?_
  refine bR ?_
  obtain rfl := oI h0
  exact aK (nF (x := (.fn (.func 47) [] [(.rp (eL aO l0))])) (by kernel_rfl) (aQ.refl _) ⟨rfl, hO.out⟩)

theorem BF (s10 : (List aE)) (s21 : (List aE)) (r : Bool) (h0 : mZ s10 s21 = some r) : dK Try.prog 68 [(eL aM s10), (eL aM s21)] (aG r) := by
  intro H0
  refine dP Try.func68 ?_
  have hO := aN.start H0
  unfold mZ at h0
  refine aY aF 1 [] [] ?_
  refine aP ?_
  refine aY aF 5 [] [(10, (aG (!decide ((lN s10) = (lN s21)))))] ?_
  refine bW h0 (fun h0 => ?_) (fun h0 => ?_)
  · refine cJ aF 1 [(4, (aG false))] ?_
    refine bR ?_
    obtain rfl := oI h0
    exact aK (aV (Q_r hO))
  refine bT ?_
  refine bC [(0, (eL aM s10)), (1, (eL aM s21))] ?_
  refine lT (fun T H => Has T [] ∧ aN ⟨H0, [], []⟩ H [] ∧ kM  = some r) ?_ ?_
  · clear hO h0
    rintro T H ⟨hT, hO, h0⟩
    refine bO hT ?_
    clear hT
    unfold kM at h0
    refine cJ aF 1 [(4, (aG true))] ?_
    refine bR ?_
    obtain rfl := oI h0
    exact aK (Q_r hO)
  refine aY aF 3 [] [(12, (eI (lN s10))), (13, (eI (0 : Int)))] ?_
  refine cH 0 ?_
  refine mD [(0, (eL aM s10)), (1, (eL aM s21)), (12, (eI (lN s10))), (13, (eI (0 : Int)))] ?_
  refine kZ (fun T H => ∃ t12 : Int, ∃ t13 : Int, Has T [(0, (eL aM s10)), (1, (eL aM s21)), (12, (eI t12)), (13, (eI t13))] ∧ aN ⟨H0, [], []⟩ H [] ∧ mV s10 s21 t12 t13 = some r) ?_ ⟨(lN s10), (0 : Int), bF, hO, h0⟩
  clear hO h0
  rintro T H ⟨t12, t13, hT, hO, h0⟩
  refine bO hT ?_
  clear hT
  unfold mV at h0
  obtain ⟨rr0, hl0, h0⟩ := aZ h0
  refine mQ (fun (s : Int) T H => Has T [(0, (eL aM s10)), (1, (eL aM s21)), (12, (eI t12)), (13, (eI s))] ∧ aN ⟨H0, [], []⟩ H []) hl0 ⟨bF, hO⟩ ?_
  clear hO
  rintro k0 s out1 T H ⟨hT, hO⟩ h1 ho0
  obtain ⟨t13, rfl⟩ : ∃ x, x = s := ⟨_, rfl⟩
  replace h1 : iD s10 s21 t12 t13 = some out1 := h1
  refine bO hT ?_
  clear hT
  unfold iD at h1
  refine aY aF 1 [] [(14, (aG (decide (t13 < t12))))] ?_
  refine aP ?_
  refine bW h1 (fun h1 => ?_) (fun h1 => ?_)
  · refine bT ?_
    refine bC [(0, (eL aM s10)), (1, (eL aM s21)), (12, (eI t12)), (13, (eI t13))] ?_
    refine aP ?_
    refine cH 1 ?_
    refine aY aF 2 [] [(5, (eI t13))] ?_
    refine aP ?_
    refine jS (iZ [19, 23]) aF 9 ?_
    obtain ⟨c3, h1⟩ := bB h1
    obtain ⟨c4, h1⟩ := bB h1
    refine MH (Ds := [0 ≤ t13 ∧ t13 < (lN s10), 0 ≤ t13 ∧ t13 < (lN s21)]) (by kernel_rfl) ⟨c3, c4, trivial⟩ ?_
    refine cQ [5] [(24, (aG (!((decide (((gD s10 t13).Kind) = ((gD s21 t13).Kind))) && ((decide (((gD s10 t13).Num) = ((gD s21 t13).Num))) && ((sA ((gD s10 t13).Text) ((gD s21 t13).Text)) && true))))))] ?_
    refine bW h1 (fun h1 => ?_) (fun h1 => ?_)
    · refine cJ aF 1 [(4, (aG false))] ?_
      refine bR ?_
      obtain rfl := oI h1
      obtain rfl : _ = rr0 := ho0
      replace h0 : some false = some r := h0
      obtain rfl := oI h0
      exact aK (bV (aV (aV (bV (aV (Q_r hO))))))
    refine bT ?_
    refine fG [(0, (eL aM s10)), (1, (eL aM s21)), (12, (eI t12)), (13, (eI t13))] ?_
    refine aK (bD (aJ (?_)))
    refine aU aF 2 ?_
    refine bG ?_
    exact aK (aJ (⟨rfl, _, (oI h1).symm, bF, hO⟩))
  refine lM 0 ?_
  obtain rfl := oI h1
  obtain rfl : _ = rr0 := ho0
  replace h0 : kM  = some r := h0
  exact aK (aX (aX (cC (aJ (⟨rfl, bF, hO, h0⟩)))))

theorem aCF (a0 : (List aE)) (b1 : (List aE)) (r : Bool) (h0 : CH a0 b1 = some r) : dK Try.prog 48 [(eL aM a0), (eL aM b1)] (aG r) := by
  intro H0
  refine dP Try.func48 ?_
  have hO := aN.start H0
  unfold CH at h0
  refine aY aF 1 [] [] ?_
  refine aP ?_
  refine aU aF 4 ?_
  refine bQ 2 ?_
  obtain ⟨x1, hx2, h0⟩ := aZ h0
  refine iY (BF a0 b1 _ hx2) hO ?_
  intro H hO
  refine bG ?_
  refine bC [(4, (aG x1))] ?_
  refine bR ?_
  obtain rfl := oI h0
  exact aK (Q_r hO)

theorem TS (r0 : (List aE)) (r : (List aE)) (h0 : yH r0 = some r) : dK Try.prog 49 [(eL aM r0)] (eL aM r) := by
  intro H0
  refine dP Try.func49 ?_
  have hO := aN.start H0
  unfold yH at h0
  refine aY aF 1 [] [] ?_
  refine aP ?_
  refine aU aF 6 ?_
  refine bQ 2 ?_
  obtain ⟨c1, h0⟩ := bB h0
  refine aBE 3 32 (lN r0) (by kernel_rfl) (by kernel_rfl) c1 hO ?_
  intro lo2 H hO
  refine bQ 4 ?_
  obtain ⟨c4, h0⟩ := bB h0
  refine FH aM ([] : List aE) r0 0 lo2 3 32 (eL aM r0) (fun lo3 => [(lo3, 3, List.map aM (([] : List aE) ++ r0))]) hO (DM (fun _ => by kernel_rfl)) c4 ?_
  intro lo3 H hO
  refine bG ?_
  refine bC [(2, (.msl 3 lo3 0 (List.length (([] : List aE) ++ r0))))] ?_
  refine bR ?_
  refine fG [(2, (.msl 3 lo3 0 (List.length (([] : List aE) ++ r0))))] ?_
  refine tK (en := aM) (([] : List aE) ++ r0) 0 0 2 3 lo3 (List.length (([] : List aE) ++ r0)) hO (by kernel_rfl) (by kernel_rfl) (by kernel_rfl) (L' := []) (by kernel_rfl) ?_
  intro H5 hO
  obtain rfl := oI h0
  exact aK (Q_r hO)

theorem JG {σ : Type} (I : σ → Gs → Prop) (yield0_b : Nat) (kN : σ → (List aE) → (List aD) → Option (σ × Bool)) (yield0_h : ∀ st a0 a1 st2 r, kN st a0 a1 = some (st2, r) → GC Try.prog (yv yield0_b) I st [(eL aM a0), (eL aL a1)] st2 (aG r)) (t1 : (List aI)) (sg0 : σ) (r : σ) (h0 : rG kN t1 sg0 = some r) : vH Try.prog 47 I sg0 [(yv yield0_b), (.rp (eL aO t1))] r (.tup []) := by
  intro H0 G0 hI hg
  refine dP Try.func47 ?_
  obtain ⟨G, hO, hI⟩ : ∃ G, aN ⟨H0, List.map (fun p : Nat × dS => p.1) G0, G⟩ H0 [] ∧ I sg0 G := ⟨G0, aN.LN hg, hI⟩
  clear hg
  unfold rG at h0
  refine aY aF 1 [] [(3, (eI (0 : Int)))] ?_
  refine cH 0 ?_
  refine mD [(0, (yv yield0_b)), (1, (.rp (eL aO t1))), (3, (eI (0 : Int)))] ?_
  refine kZ (fun T H => ∃ sg : σ, ∃ i3 : Int, ∃ G : Gs, Has T [(0, (yv yield0_b)), (1, (.rp (eL aO t1))), (3, (eI i3))] ∧ aN ⟨H0, List.map (fun p : Nat × dS => p.1) G0, G⟩ H [] ∧ I sg G ∧ vA kN sg t1 i3 = some r) ?_ ⟨sg0, (0 : Int), G, bF, hO, hI, h0⟩
  clear hO hI h0
  rintro T H ⟨sg, i3, G, hT, hO, hI, h0⟩
  refine bO hT ?_
  clear hT
  unfold vA at h0
  obtain ⟨rr0, hl0, h0⟩ := aZ h0
  refine mQ (fun (s : σ × Int) T H => ∃ G : Gs, Has T [(0, (yv yield0_b)), (1, (.rp (eL aO t1))), (3, (eI s.2))] ∧ aN ⟨H0, List.map (fun p : Nat × dS => p.1) G0, G⟩ H [] ∧ I s.1 G) hl0 ⟨G, bF, hO, hI⟩ ?_
  clear hO hI
  rintro k0 s out1 T H ⟨G, hT, hO, hI⟩ h1 ho0
  obtain ⟨sg, i3⟩ := s
  replace h1 : mC kN t1 sg i3 = some out1 := h1
  try dsimp only at hT
  refine bO hT ?_
  clear hT
  unfold mC at h1
  refine aP ?_
  refine aY aF 4 [] [(9, (aG (decide (i3 < (lN t1)))))] ?_
  refine bW h1 (fun h1 => ?_) (fun h1 => ?_)
  · refine bT ?_
    refine bC [(0, (yv yield0_b)), (1, (.rp (eL aO t1))), (3, (eI i3))] ?_
    refine cH 1 ?_
    refine aP ?_
    refine aU aF 6 ?_
    obtain ⟨c2, h1⟩ := bB h1
    refine sW [0 ≤ i3 ∧ i3 < (lN t1)] ⟨c2, trivial⟩ ?_
    refine cQ [] [(4, (eL aM ((gD t1 i3).Row)))] ?_
    refine aP ?_
    refine aU aF 2 ?_
    refine wN [] 2 ?_
    refine bG ?_
    refine cQ [] [(5, (.sl true 0 (fun _ => .bad)))] ?_
    refine lT (fun T H => ∃ sg : σ, ∃ i3 : Int, ∃ r4 : (List aE), ∃ f5 : List aD, ∃ lo3 : Nat, ∃ G : Gs, Has T [(0, (yv yield0_b)), (1, (.rp (eL aO t1))), (3, (eI i3)), (4, (eL aM r4)), (5, (.msl 2 lo3 0 (List.length f5)))] ∧ aN ⟨H0, List.map (fun p : Nat × dS => p.1) G0, G⟩ H [(lo3, 2, List.map aL f5)] ∧ I sg G ∧ sN kN sg t1 i3 r4 f5 = some out1) ?_ ?_
    · clear hO hI h1
      rintro T H ⟨sg, i3, r4, f5, lo3, G, hT, hO, hI, h1⟩
      refine bO hT ?_
      clear hT
      unfold sN at h1
      refine aP ?_
      refine aU aF 6 ?_
      refine JP (e := aL) f5 0 5 2 lo3 (List.length f5) [] (by kernel_rfl) hO (by kernel_rfl) (by kernel_rfl) (by kernel_rfl) (by kernel_rfl) ?_
      intro H hO
      refine bQ 2 ?_
      obtain ⟨x7, hx8, h1⟩ := aZ h1
      refine iY (TS r4 _ hx8) hO ?_
      intro H hO
      refine bQ 4 ?_
      obtain ⟨x10, hx11, h1⟩ := aZ h1
      refine PT (I := I) (yv yield0_b) [(eL aM x7), (eL aL f5)] (aG x10.2) (by kernel_rfl) (by kernel_rfl) (yield0_h _ x7 f5 x10.1 x10.2 hx11) hO hI ?_
      intro G H hO hI
      refine bG ?_
      refine cQ [4, 5] [(50, (aG (!x10.2)))] ?_
      refine bW h1 (fun h1 => ?_) (fun h1 => ?_)
      · refine bR ?_
        obtain rfl := oI h1
        obtain rfl : _ = rr0 := ho0
        replace h0 : some x10.1 = some r := h0
        obtain rfl := oI h0
        exact aK (bV (aV (bV (nF (x := (.tup [])) (by kernel_rfl) (aQ.refl _) ⟨rfl, G, hI, hO.HD⟩))))
      refine bT ?_
      exact aK (bD (aJ (⟨rfl, _, (oI h1).symm, _, bF, hO, hI⟩)))
    refine cH 2 ?_
    refine mD [(0, (yv yield0_b)), (1, (.rp (eL aO t1))), (3, (eI i3)), (4, (eL aM ((gD t1 i3).Row))), (5, (.sl true 0 (fun _ => .bad)))] ?_
    refine SP (el := (fun _ => .bad)) 4 5 2 hO (by kernel_rfl) ?_
    intro lo24 H25 hO
    refine kZ (fun T H => ∃ sg : σ, ∃ i3 : Int, ∃ r4 : (List aE), ∃ f5 : List aD, ∃ lo14 : Nat, ∃ G : Gs, Has T [(0, (yv yield0_b)), (1, (.rp (eL aO t1))), (3, (eI i3)), (4, (eL aM r4)), (5, (.msl 2 lo14 0 (List.length f5)))] ∧ aN ⟨H0, List.map (fun p : Nat × dS => p.1) G0, G⟩ H [(lo14, 2, List.map aL f5)] ∧ I sg G ∧ vE kN sg t1 i3 r4 f5 = some out1) ?_ ⟨sg, i3, (gD t1 i3).Row, ([] : List aD), lo24, G, bF, hO, hI, h1⟩
    clear hO hI h1
    rintro T H ⟨sg, i3, r4, f5, lo14, G, hT, hO, hI, h1⟩
    refine bO hT ?_
    clear hT
    unfold vE at h1
    obtain ⟨rr1, hl1, h1⟩ := aZ h1
    refine mQ (fun (s : σ × Int × List aD) T H => ∃ lo14 : Nat, ∃ G : Gs, Has T [(0, (yv yield0_b)), (1, (.rp (eL aO t1))), (3, (eI s.2.1)), (4, (eL aM r4)), (5, (.msl 2 lo14 0 (List.length s.2.2)))] ∧ aN ⟨H0, List.map (fun p : Nat × dS => p.1) G0, G⟩ H [(lo14, 2, List.map aL s.2.2)] ∧ I s.1 G) hl1 ⟨lo14, G, bF, hO, hI⟩ ?_
    clear hO hI
    rintro k1 s out2 T H ⟨lo14, G, hT, hO, hI⟩ h2 ho1
    obtain ⟨sg, i3, f5⟩ := s
    replace h2 : mY kN t1 r4 sg i3 f5 = some out2 := h2
    try dsimp only at hT
    refine bO hT ?_
    clear hT
    unfold mY at h2
    refine aP ?_
    refine aP ?_
    refine aU aF 13 ?_
    obtain ⟨c15, h2⟩ := bB h2
    refine AV 11 [(((decide (i3 < (lN t1)))) = true → 0 ≤ i3 ∧ i3 < (lN t1))] ⟨c15, trivial⟩ ?_
    obtain ⟨x16, hx17, h2⟩ := aZ h2
    refine tC [(20, true)] 48 [(eL aM ((gD t1 i3).Row)), (eL aM r4)] (aG x16) (decide (i3 < (lN t1))) (by kernel_rfl) (by kernel_rfl) (by kernel_rfl) (fun hb18 => (aCF ((gD t1 i3).Row) r4 _ (pE hx17 hb18))) hO ?_
    intro H hO
    refine bG ?_
    refine cQ [] [(28, (aG ((decide (i3 < (lN t1))) && x16)))] ?_
    refine bW h2 (fun h2 => ?_) (fun h2 => ?_)
    · refine bT ?_
      refine bC [(0, (yv yield0_b)), (1, (.rp (eL aO t1))), (3, (eI i3)), (4, (eL aM r4)), (5, (.msl 2 lo14 0 (List.length f5)))] ?_
      refine aP ?_
      refine cH 3 ?_
      refine jS (iZ [32, 36, 37, 41, 43]) aF 15 ?_
      obtain ⟨c20, h2⟩ := bB h2
      obtain ⟨c21, h2⟩ := bB h2
      refine cP 12 [0 ≤ i3 ∧ i3 < (lN t1), 0 ≤ i3 ∧ i3 < (lN t1)] ⟨c20, c21, trivial⟩ ?_
      refine XP (xs := [(aL (aD.mk ((gD t1 i3).At) ((gD t1 i3).Net)))]) (k := 2) (by kernel_rfl) (by kernel_rfl) ?_
      obtain ⟨c23, h2⟩ := bB h2
      refine UO (e := aL) f5 ([aD.mk ((gD t1 i3).At) ((gD t1 i3).Net)]) 0 lo14 2 16 (dR [(aL (aD.mk ((gD t1 i3).At) ((gD t1 i3).Net)))]) (fun lo22 => [(lo22, 2, List.map aL (f5 ++ ([aD.mk ((gD t1 i3).At) ((gD t1 i3).Net)])))]) (by kernel_rfl) (by kernel_rfl) hO (by kernel_rfl) (by kernel_rfl) c23 (fun _ => by kernel_rfl) ?_
      intro lo22 H hO
      refine nX ?_
      refine fG [(0, (yv yield0_b)), (1, (.rp (eL aO t1))), (3, (eI i3)), (4, (eL aM r4)), (5, (.msl 2 lo22 0 (List.length (f5 ++ ([aD.mk ((gD t1 i3).At) ((gD t1 i3).Net)])))))] ?_
      refine aK (bD (aJ (?_)))
      refine aU aF 3 ?_
      refine bG ?_
      exact aK (aJ (⟨rfl, _, (oI h2).symm, _, _, bF, hO, hI⟩))
    refine lM 2 ?_
    obtain rfl := oI h2
    obtain rfl : _ = rr1 := ho1
    replace h1 : sN kN sg t1 i3 r4 f5 = some out1 := h1
    exact aK (aX (aX (cC (aJ (⟨rfl, _, _, _, _, _, _, bF, hO, hI, h1⟩)))))
  refine lM 0 ?_
  obtain rfl := oI h1
  obtain rfl : _ = rr0 := ho0
  replace h0 : some sg = some r := h0
  obtain rfl := oI h0
  exact aK (aX (aX (cC (FQ (x := (.tup [])) (by kernel_rfl) (aQ.refl _) ⟨rfl, G, hI, hO.HD⟩))))

theorem xN (s0 : (List aE)) (f1_f : Nat) (f1_a f1_c : List V) (f1 : aE → Option Bool) (f1_h : ∀ a0 r, f1 a0 = some r → dK Try.prog f1_f (f1_a ++ [(aM a0)] ++ f1_c) (aG r)) (r : Int) (h0 : mA s0 f1 = some r) : dK Try.prog 40 [(eL aM s0), (.fn (.func f1_f) f1_a f1_c)] (eI r) := by
  intro H0
  refine dP Try.func40 ?_
  have hO := aN.start H0
  unfold mA at h0
  refine aY aF 1 [] [] ?_
  refine lT (fun T H => Has T [] ∧ aN ⟨H0, [], []⟩ H [] ∧ iP f1  = some r) ?_ ?_
  · clear hO h0
    rintro T H ⟨hT, hO, h0⟩
    refine bO hT ?_
    clear hT
    unfold iP at h0
    refine cJ aF 1 [(4, (eI (-1 : Int)))] ?_
    refine bR ?_
    obtain rfl := oI h0
    exact aK (Q_r hO)
  refine aY aF 3 [] [(7, (eI (lN s0))), (8, (eI (0 : Int)))] ?_
  refine cH 0 ?_
  refine mD [(0, (eL aM s0)), (1, (.fn (.func f1_f) f1_a f1_c)), (7, (eI (lN s0))), (8, (eI (0 : Int)))] ?_
  refine kZ (fun T H => ∃ t7 : Int, ∃ t8 : Int, Has T [(0, (eL aM s0)), (1, (.fn (.func f1_f) f1_a f1_c)), (7, (eI t7)), (8, (eI t8))] ∧ aN ⟨H0, [], []⟩ H [] ∧ lR f1 s0 t7 t8 = some r) ?_ ⟨(lN s0), (0 : Int), bF, hO, h0⟩
  clear hO h0
  rintro T H ⟨t7, t8, hT, hO, h0⟩
  refine bO hT ?_
  clear hT
  unfold lR at h0
  obtain ⟨rr0, hl0, h0⟩ := aZ h0
  refine mQ (fun (s : Int) T H => Has T [(0, (eL aM s0)), (1, (.fn (.func f1_f) f1_a f1_c)), (7, (eI t7)), (8, (eI s))] ∧ aN ⟨H0, [], []⟩ H []) hl0 ⟨bF, hO⟩ ?_
  clear hO
  rintro k0 s out1 T H ⟨hT, hO⟩ h1 ho0
  obtain ⟨t8, rfl⟩ : ∃ x, x = s := ⟨_, rfl⟩
  replace h1 : lS f1 s0 t7 t8 = some out1 := h1
  refine bO hT ?_
  clear hT
  unfold lS at h1
  refine aY aF 1 [] [(9, (aG (decide (t8 < t7))))] ?_
  refine aP ?_
  refine bW h1 (fun h1 => ?_) (fun h1 => ?_)
  · refine bT ?_
    refine bC [(0, (eL aM s0)), (1, (.fn (.func f1_f) f1_a f1_c)), (7, (eI t7)), (8, (eI t8))] ?_
    refine aP ?_
    refine cH 1 ?_
    refine aY aF 2 [] [(5, (eI t8))] ?_
    refine aP ?_
    refine aU aF 6 ?_
    obtain ⟨c2, h1⟩ := bB h1
    refine AV 5 [0 ≤ t8 ∧ t8 < (lN s0)] ⟨c2, trivial⟩ ?_
    obtain ⟨x3, hx4, h1⟩ := aZ h1
    refine iY (f1_h (gD s0 t8) _ hx4) hO ?_
    intro H hO
    refine eW ?_
    refine cQ [] [(16, (aG x3))] ?_
    refine bW h1 (fun h1 => ?_) (fun h1 => ?_)
    · refine cJ aF 2 [(4, (eI t8))] ?_
      refine bR ?_
      obtain rfl := oI h1
      obtain rfl : _ = rr0 := ho0
      replace h0 : some t8 = some r := h0
      obtain rfl := oI h0
      exact aK (bV (aV (aV (bV (aV (Q_r hO))))))
    refine bT ?_
    refine fG [(0, (eL aM s0)), (1, (.fn (.func f1_f) f1_a f1_c)), (7, (eI t7)), (8, (eI t8))] ?_
    refine aK (bD (aJ (?_)))
    refine aU aF 2 ?_
    refine bG ?_
    exact aK (aJ (⟨rfl, _, (oI h1).symm, bF, hO⟩))
  refine lM 0 ?_
  obtain rfl := oI h1
  obtain rfl : _ = rr0 := ho0
  replace h0 : iP f1  = some r := h0
  exact aK (aX (aX (cC (aJ (⟨rfl, bF, hO, h0⟩)))))

theorem vY (s0 : (List aE)) (f1_f : Nat) (f1_a f1_c : List V) (f1 : aE → Option Bool) (f1_h : ∀ a0 r, f1 a0 = some r → dK Try.prog f1_f (f1_a ++ [(aM a0)] ++ f1_c) (aG r)) (r : Bool) (h0 : gW s0 f1 = some r) : dK Try.prog 61 [(eL aM s0), (.fn (.func f1_f) f1_a f1_c)] (aG r) := by
  intro H0
  refine dP Try.func61 ?_
  have hO := aN.start H0
  unfold gW at h0
  refine aY aF 1 [] [] ?_
  refine aP ?_
  refine aU aF 5 ?_
  refine bQ 2 ?_
  obtain ⟨x1, hx2, h0⟩ := aZ h0
  refine iY (xN s0 f1_f f1_a f1_c f1 f1_h _ hx2) hO ?_
  intro H hO
  refine bG ?_
  refine bC [(4, (aG (decide ((0 : Int) ≤ x1))))] ?_
  refine bR ?_
  obtain rfl := oI h0
  exact aK (Q_r hO)

theorem yG (v0 : aE) (r : (bI × Bool)) (h0 : oY v0 = some r) : dK Try.prog 65 [(aM v0)] (.tup [(bE r.1), (aG r.2)]) := by
  intro H0
  refine dP Try.func65 ?_
  have hO := aN.start H0
  unfold oY at h0
  refine aP ?_
  refine aU aF 3 ?_
  refine xG 3 (aM v0) ?_
  refine bG ?_
  refine bC [(1, (.rp (aM v0)))] ?_
  refine aP ?_
  refine cH 0 ?_
  refine aY aF 9 [] [(4, (aG ((decide (v0.Kind = (1 : Int))) && (sA v0.Text (⟨#[]⟩ : ByteArray)))))] ?_
  refine bW h0 (fun h0 => ?_) (fun h0 => ?_)
  · refine cJ aF 5 [(2, (bE (bI.k_number v0.Num))), (3, (aG true))] ?_
    refine bR ?_
    obtain rfl := oI h0
    exact aK (bV (aV (Q_r hO)))
  refine aY aF 15 [4] [(16, (aG (((decide (v0.Kind = (2 : Int))) && (decide (v0.Num = (0 : Int)))) && (decide (((ByteArray.size v0.Text : Nat) : Int) ≤ (64 : Int))))))] ?_
  refine bW h0 (fun h0 => ?_) (fun h0 => ?_)
  · refine cJ aF 5 [(2, (bE (bI.k_words v0.Text))), (3, (aG true))] ?_
    refine bR ?_
    obtain rfl := oI h0
    exact aK (bV (aV (Q_r hO)))
  refine bT ?_
  refine fG [] ?_
  refine aK (bD (aJ (?_)))
  refine cJ aF 2 [(2, (bE bI.none_)), (3, (aG false))] ?_
  refine bR ?_
  obtain rfl := oI h0
  exact aK (Q_r hO)

theorem aBj (v0 : aE) (r : Bool) (h0 : zY v0 = some r) : dK Try.prog 63 [(aM v0)] (aG r) := by
  intro H0
  refine dP Try.func63 ?_
  have hO := aN.start H0
  unfold zY at h0
  refine aP ?_
  refine aU aF 2 ?_
  refine xG 3 (aM v0) ?_
  refine bG ?_
  refine bC [(1, (.rp (aM v0)))] ?_
  refine aP ?_
  refine aU aF 7 ?_
  refine bQ 1 ?_
  obtain ⟨⟨x1_0, x1_1⟩, hx2, h0⟩ := aZ h0
  refine iY (yG v0 _ hx2) hO ?_
  intro H hO
  rcases x1_0 with _ | y4 | y5
  · replace h0 : (some x1_1) = some r := h0
    refine bG ?_
    refine bC [(4, (aG x1_1))] ?_
    refine cJ aF 2 [(2, (aG x1_1))] ?_
    refine bR ?_
    obtain rfl := oI h0
    exact aK (Q_r hO)
  · replace h0 : (some x1_1) = some r := h0
    refine bG ?_
    refine bC [(4, (aG x1_1))] ?_
    refine cJ aF 2 [(2, (aG x1_1))] ?_
    refine bR ?_
    obtain rfl := oI h0
    exact aK (Q_r hO)
  · replace h0 : (some x1_1) = some r := h0
    refine bG ?_
    refine bC [(4, (aG x1_1))] ?_
    refine cJ aF 2 [(2, (aG x1_1))] ?_
    refine bR ?_
    obtain rfl := oI h0
    exact aK (Q_r hO)

theorem aA0 (v0 : aE) (r : Bool) (h0 : AM v0 = some r) : dK Try.prog 62 [(aM v0)] (aG r) := by
  intro H0
  refine dP Try.func62 ?_
  have hO := aN.start H0
  unfold AM at h0
  refine aP ?_
  refine aU aF 2 ?_
  refine xG 3 (aM v0) ?_
  refine bG ?_
  refine bC [(1, (.rp (aM v0)))] ?_
  refine aP ?_
  refine aU aF 4 ?_
  refine bQ 1 ?_
  obtain ⟨x1, hx2, h0⟩ := aZ h0
  refine iY (aBj v0 _ hx2) hO ?_
  intro H hO
  refine bG ?_
  refine bC [(2, (aG (!x1)))] ?_
  refine bR ?_
  obtain rfl := oI h0
  exact aK (Q_r hO)

theorem ES (r0 : (List aE)) (r : Bool) (h0 : tQ r0 = some r) : dK Try.prog 39 [(eL aM r0)] (aG r) := by
  intro H0
  refine dP Try.func39 ?_
  have hO := aN.start H0
  unfold tQ at h0
  refine aY aF 1 [] [] ?_
  refine aP ?_
  refine aY aF 3 [] [(5, (aG (decide ((8 : Int) < (lN r0)))))] ?_
  refine bW h0 (fun h0 => ?_) (fun h0 => ?_)
  · refine cJ aF 1 [(2, (aG false))] ?_
    refine bR ?_
    obtain rfl := oI h0
    exact aK (aV (Q_r hO))
  refine bT ?_
  refine bC [(0, (eL aM r0))] ?_
  refine aP ?_
  refine aU aF 4 ?_
  refine bQ 1 ?_
  obtain ⟨x2, hx3, h0⟩ := aZ h0
  refine iY (vY r0 62 [] [] (fun y0 => AM y0) (fun y0 r h => aA0 y0 r h) _ hx3) hO ?_
  intro H hO
  refine bG ?_
  refine bC [(2, (aG (!x2)))] ?_
  refine bR ?_
  obtain rfl := oI h0
  exact aK (Q_r hO)

theorem SY (t0 : (List aE)) (r : (Int × (List aE))) (h0 : wT t0 = some r) : LZ Try.prog 41 [(.rp (eL aM t0))] (fun lo => (.fn (.func 42) [] [(.lp lo 0 0), (.rp (eL aM r.2))])) 1 [(eI r.1)] := by
  intro H0
  refine dP Try.func41 ?_
  have hO := aN.start H0
  unfold wT at h0
  refine aY aF 1 [] [] ?_
  refine aP ?_
  refine aU aF 2 ?_
  refine qT 1 (eI 0) (by kernel_rfl) (by kernel_rfl) hO ?_
  intro lo1 H hO
  refine pI 0 lo1 1 0 (eI 0) (eI (-1 : Int)) [(eI 0)] [(lo1, 1, [(eI (-1 : Int))])] hO rfl (by kernel_rfl) ?_
  intro H hO
  refine eW ?_
  refine cQ [] [(2, (.lp lo1 0 0))] ?_
  refine aY aF 2 [0] [(1, (.fn (.func 42) [] [(.lp lo1 0 0), (.rp (eL aM t0))]))] ?_
  refine bR ?_
  obtain rfl := oI h0
  exact aK (nF (x := (.fn (.func 42) [] [(.lp lo1 0 0), (.rp (eL aM t0))])) (by kernel_rfl) (aQ.refl _) ⟨lo1, rfl, hO⟩)

theorem wJ {σ : Type} (I : σ → Gs → Prop) (s0 : (List aE)) (f1_v : V) (f1 : σ → aE → Option (σ × Bool)) (f1_h : ∀ st a0 st2 r, f1 st a0 = some (st2, r) → GC Try.prog f1_v I st [(aM a0)] st2 (aG r)) (sg0 : σ) (r : (σ × Int)) (h0 : lI s0 f1 sg0 = some r) : vH Try.prog 40 I sg0 [(eL aM s0), f1_v] r.1 (eI r.2) := by
  intro H0 G0 hI hg
  refine dP Try.func40 ?_
  obtain ⟨G, hO, hI⟩ : ∃ G, aN ⟨H0, List.map (fun p : Nat × dS => p.1) G0, G⟩ H0 [] ∧ I sg0 G := ⟨G0, aN.LN hg, hI⟩
  clear hg
  unfold lI at h0
  refine aY aF 1 [] [] ?_
  refine lT (fun T H => ∃ sg : σ, ∃ G : Gs, Has T [] ∧ aN ⟨H0, List.map (fun p : Nat × dS => p.1) G0, G⟩ H [] ∧ I sg G ∧ gV f1 sg = some r) ?_ ?_
  · clear hO hI h0
    rintro T H ⟨sg, G, hT, hO, hI, h0⟩
    refine bO hT ?_
    clear hT
    unfold gV at h0
    refine cJ aF 1 [(4, (eI (-1 : Int)))] ?_
    refine bR ?_
    obtain rfl := oI h0
    exact aK (nF (x := (eI (-1 : Int))) (by kernel_rfl) (aQ.refl _) ⟨rfl, G, hI, hO.HD⟩)
  refine aY aF 3 [] [(7, (eI (lN s0))), (8, (eI (0 : Int)))] ?_
  refine cH 0 ?_
  refine mD [(0, (eL aM s0)), (1, f1_v), (7, (eI (lN s0))), (8, (eI (0 : Int)))] ?_
  refine kZ (fun T H => ∃ sg : σ, ∃ t7 : Int, ∃ t8 : Int, ∃ G : Gs, Has T [(0, (eL aM s0)), (1, f1_v), (7, (eI t7)), (8, (eI t8))] ∧ aN ⟨H0, List.map (fun p : Nat × dS => p.1) G0, G⟩ H [] ∧ I sg G ∧ lA f1 sg s0 t7 t8 = some r) ?_ ⟨sg0, (lN s0), (0 : Int), G, bF, hO, hI, h0⟩
  clear hO hI h0
  rintro T H ⟨sg, t7, t8, G, hT, hO, hI, h0⟩
  refine bO hT ?_
  clear hT
  unfold lA at h0
  obtain ⟨rr0, hl0, h0⟩ := aZ h0
  refine mQ (fun (s : σ × Int) T H => ∃ G : Gs, Has T [(0, (eL aM s0)), (1, f1_v), (7, (eI t7)), (8, (eI s.2))] ∧ aN ⟨H0, List.map (fun p : Nat × dS => p.1) G0, G⟩ H [] ∧ I s.1 G) hl0 ⟨G, bF, hO, hI⟩ ?_
  clear hO hI
  rintro k0 s out1 T H ⟨G, hT, hO, hI⟩ h1 ho0
  obtain ⟨sg, t8⟩ := s
  replace h1 : cK f1 s0 t7 sg t8 = some out1 := h1
  try dsimp only at hT
  refine bO hT ?_
  clear hT
  unfold cK at h1
  refine aY aF 1 [] [(9, (aG (decide (t8 < t7))))] ?_
  refine aP ?_
  refine bW h1 (fun h1 => ?_) (fun h1 => ?_)
  · refine bT ?_
    refine bC [(0, (eL aM s0)), (1, f1_v), (7, (eI t7)), (8, (eI t8))] ?_
    refine aP ?_
    refine cH 1 ?_
    refine aY aF 2 [] [(5, (eI t8))] ?_
    refine aP ?_
    refine aU aF 6 ?_
    obtain ⟨c2, h1⟩ := bB h1
    refine AV 5 [0 ≤ t8 ∧ t8 < (lN s0)] ⟨c2, trivial⟩ ?_
    obtain ⟨x3, hx4, h1⟩ := aZ h1
    refine PT (I := I) f1_v [(aM (gD s0 t8))] (aG x3.2) (by kernel_rfl) (by kernel_rfl) (f1_h _ (gD s0 t8) x3.1 x3.2 hx4) hO hI ?_
    intro G H hO hI
    refine eW ?_
    refine cQ [] [(16, (aG x3.2))] ?_
    refine bW h1 (fun h1 => ?_) (fun h1 => ?_)
    · refine cJ aF 2 [(4, (eI t8))] ?_
      refine bR ?_
      obtain rfl := oI h1
      obtain rfl : _ = rr0 := ho0
      replace h0 : some (x3.1, t8) = some r := h0
      obtain rfl := oI h0
      exact aK (bV (aV (aV (bV (aV (nF (x := (eI t8)) (by kernel_rfl) (aQ.refl _) ⟨rfl, G, hI, hO.HD⟩))))))
    refine bT ?_
    refine fG [(0, (eL aM s0)), (1, f1_v), (7, (eI t7)), (8, (eI t8))] ?_
    refine aK (bD (aJ (?_)))
    refine aU aF 2 ?_
    refine bG ?_
    exact aK (aJ (⟨rfl, _, (oI h1).symm, _, bF, hO, hI⟩))
  refine lM 0 ?_
  obtain rfl := oI h1
  obtain rfl : _ = rr0 := ho0
  replace h0 : gV f1 sg = some r := h0
  exact aK (aX (aX (cC (aJ (⟨rfl, _, _, bF, hO, hI, h0⟩)))))

theorem PZ (v0 : aE) (lo1p : Nat) (t1 : Int) (t2 : (List aE)) (r : (Bool × Int)) (h0 : nJ v0 t1 t2 = some r) : rU Try.prog 42 lo1p 1 [(eI t1)] [(eI r.2)] [(aM v0), (.lp lo1p 0 0), (.rp (eL aM t2))] (aG r.1) := by
  intro H0 hl0
  refine dP Try.func42 ?_
  have hO := aN.uP hl0
  clear hl0
  unfold nJ at h0
  refine aP ?_
  refine aU aF 2 ?_
  refine xG 3 (aM v0) ?_
  refine bG ?_
  refine cQ [0] [(3, (.rp (aM v0)))] ?_
  refine aP ?_
  refine aU aF 3 ?_
  refine oH 0 lo1p 1 0 (eI t1) (eI t1) [(eI t1)] hO rfl ?_
  refine bQ 2 ?_
  refine pI 0 lo1p 1 0 (eI t1) (eI (wR (t1 + (1 : Int)))) [(eI t1)] [(lo1p, 1, [(eI (wR (t1 + (1 : Int))))])] hO rfl (by kernel_rfl) ?_
  intro H hO
  refine eW ?_
  refine cQ [] [] ?_
  refine aP ?_
  refine jS (iZ [7, 8, 11]) aF 7 ?_
  refine qD 2 ?_
  refine jP 0 lo1p 1 0 (eI (wR (t1 + (1 : Int)))) (eI (wR (t1 + (1 : Int)))) [(eI (wR (t1 + (1 : Int))))] hO rfl ?_
  obtain ⟨c1, h0⟩ := bB h0
  refine MH (Ds := [0 ≤ (wR (t1 + (1 : Int))) ∧ (wR (t1 + (1 : Int))) < (lN t2)]) (by kernel_rfl) ⟨c1, trivial⟩ ?_
  refine bC [(1, (.lp lo1p 0 0)), (4, (aG (!((decide (v0.Kind = ((gD t2 (wR (t1 + (1 : Int)))).Kind))) && ((decide (v0.Num = ((gD t2 (wR (t1 + (1 : Int)))).Num))) && ((sA v0.Text ((gD t2 (wR (t1 + (1 : Int)))).Text)) && true))))))] ?_
  refine bR ?_
  obtain rfl := oI h0
  exact aK (nF (x := (aG (!((decide (v0.Kind = ((gD t2 (wR (t1 + (1 : Int)))).Kind))) && ((decide (v0.Num = ((gD t2 (wR (t1 + (1 : Int)))).Num))) && ((sA v0.Text ((gD t2 (wR (t1 + (1 : Int)))).Text)) && true)))))) (by kernel_rfl) (aQ.refl _) ⟨rfl, hO.ext, hO.at 0 (by kernel_rfl), rfl⟩)

theorem JJ (x0 : Int) (r : Bool) (h0 : pK x0 = some r) : dK Try.prog 64 [(eI x0)] (aG r) := by
  intro H0
  refine dP Try.func64 ?_
  have hO := aN.start H0
  unfold pK at h0
  refine aY aF 1 [] [] ?_
  refine cJ aF 4 [(2, (aG (!decide (x0 = x0))))] ?_
  refine bR ?_
  obtain rfl := oI h0
  exact aK (Q_r hO)

theorem QB (x0 : Int) (y1 : Int) (r : Int) (h0 : rO x0 y1 = some r) : dK Try.prog 43 [(eI x0), (eI y1)] (eI r) := by
  intro H0
  refine dP Try.func43 ?_
  have hO := aN.start H0
  unfold rO at h0
  refine aY aF 1 [] [] ?_
  refine aP ?_
  refine aU aF 3 ?_
  refine bQ 1 ?_
  obtain ⟨x1, hx2, h0⟩ := aZ h0
  refine iY (JJ x0 _ hx2) hO ?_
  intro H hO
  refine bG ?_
  refine cQ [] [(5, (aG x1))] ?_
  refine aP ?_
  refine aU aF 3 ?_
  refine bQ 1 ?_
  obtain ⟨x4, hx5, h0⟩ := aZ h0
  refine iY (JJ y1 _ hx5) hO ?_
  intro H hO
  refine bG ?_
  refine cQ [] [(6, (aG x4))] ?_
  refine aP ?_
  refine aY aF 1 [5] [(11, (aG x1))] ?_
  refine bW h0 (fun h0 => ?_) (fun h0 => ?_)
  · refine aP ?_
    refine cJ aF 1 [(12, (aG x4))] ?_
    refine bW h0 (fun h0 => ?_) (fun h0 => ?_)
    · refine cJ aF 1 [(4, (eI (0 : Int)))] ?_
      refine bR ?_
      obtain rfl := oI h0
      exact aK (aV (aV (Q_r hO)))
    refine bT ?_
    refine bC [] ?_
    refine cJ aF 1 [(4, (eI (-1 : Int)))] ?_
    refine bR ?_
    obtain rfl := oI h0
    exact aK (aV (Q_r hO))
  refine bT ?_
  refine bC [(0, (eI x0)), (1, (eI y1)), (6, (aG x4))] ?_
  refine aP ?_
  refine aY aF 1 [6] [(13, (aG x4))] ?_
  refine bW h0 (fun h0 => ?_) (fun h0 => ?_)
  · refine cJ aF 1 [(4, (eI (1 : Int)))] ?_
    refine bR ?_
    obtain rfl := oI h0
    exact aK (aV (Q_r hO))
  refine bT ?_
  refine bC [(0, (eI x0)), (1, (eI y1))] ?_
  refine aP ?_
  refine aY aF 3 [] [(16, (aG (decide (x0 < y1))))] ?_
  refine bW h0 (fun h0 => ?_) (fun h0 => ?_)
  · refine cJ aF 1 [(4, (eI (-1 : Int)))] ?_
    refine bR ?_
    obtain rfl := oI h0
    exact aK (aV (Q_r hO))
  refine bT ?_
  refine bC [(0, (eI x0)), (1, (eI y1))] ?_
  refine aP ?_
  refine cJ aF 3 [(19, (aG (decide (y1 < x0))))] ?_
  refine bW h0 (fun h0 => ?_) (fun h0 => ?_)
  · refine cJ aF 1 [(4, (eI (1 : Int)))] ?_
    refine bR ?_
    obtain rfl := oI h0
    exact aK (aV (Q_r hO))
  refine bT ?_
  refine bC [] ?_
  refine cJ aF 1 [(4, (eI (0 : Int)))] ?_
  refine bR ?_
  obtain rfl := oI h0
  exact aK (Q_r hO)

theorem xW (x0 : Int) (r : Bool) (h0 : oJ x0 = some r) : dK Try.prog 74 [(eI x0)] (aG r) := by
  intro H0
  refine dP Try.func74 ?_
  have hO := aN.start H0
  unfold oJ at h0
  refine aY aF 1 [] [] ?_
  refine cJ aF 4 [(2, (aG (!decide (x0 = x0))))] ?_
  refine bR ?_
  obtain rfl := oI h0
  exact aK (Q_r hO)

theorem FO (x0 : Int) (y1 : Int) (r : Int) (h0 : jR x0 y1 = some r) : dK Try.prog 66 [(eI x0), (eI y1)] (eI r) := by
  intro H0
  refine dP Try.func66 ?_
  have hO := aN.start H0
  unfold jR at h0
  refine aY aF 1 [] [] ?_
  refine aP ?_
  refine aU aF 3 ?_
  refine bQ 1 ?_
  obtain ⟨x1, hx2, h0⟩ := aZ h0
  refine iY (xW x0 _ hx2) hO ?_
  intro H hO
  refine bG ?_
  refine cQ [] [(5, (aG x1))] ?_
  refine aP ?_
  refine aU aF 3 ?_
  refine bQ 1 ?_
  obtain ⟨x4, hx5, h0⟩ := aZ h0
  refine iY (xW y1 _ hx5) hO ?_
  intro H hO
  refine bG ?_
  refine cQ [] [(6, (aG x4))] ?_
  refine aP ?_
  refine aY aF 1 [5] [(11, (aG x1))] ?_
  refine bW h0 (fun h0 => ?_) (fun h0 => ?_)
  · refine aP ?_
    refine cJ aF 1 [(12, (aG x4))] ?_
    refine bW h0 (fun h0 => ?_) (fun h0 => ?_)
    · refine cJ aF 1 [(4, (eI (0 : Int)))] ?_
      refine bR ?_
      obtain rfl := oI h0
      exact aK (aV (aV (Q_r hO)))
    refine bT ?_
    refine bC [] ?_
    refine cJ aF 1 [(4, (eI (-1 : Int)))] ?_
    refine bR ?_
    obtain rfl := oI h0
    exact aK (aV (Q_r hO))
  refine bT ?_
  refine bC [(0, (eI x0)), (1, (eI y1)), (6, (aG x4))] ?_
  refine aP ?_
  refine aY aF 1 [6] [(13, (aG x4))] ?_
  refine bW h0 (fun h0 => ?_) (fun h0 => ?_)
  · refine cJ aF 1 [(4, (eI (1 : Int)))] ?_
    refine bR ?_
    obtain rfl := oI h0
    exact aK (aV (Q_r hO))
  refine bT ?_
  refine bC [(0, (eI x0)), (1, (eI y1))] ?_
  refine aP ?_
  refine aY aF 3 [] [(16, (aG (decide (x0 < y1))))] ?_
  refine bW h0 (fun h0 => ?_) (fun h0 => ?_)
  · refine cJ aF 1 [(4, (eI (-1 : Int)))] ?_
    refine bR ?_
    obtain rfl := oI h0
    exact aK (aV (Q_r hO))
  refine bT ?_
  refine bC [(0, (eI x0)), (1, (eI y1))] ?_
  refine aP ?_
  refine cJ aF 3 [(19, (aG (decide (y1 < x0))))] ?_
  refine bW h0 (fun h0 => ?_) (fun h0 => ?_)
  · refine cJ aF 1 [(4, (eI (1 : Int)))] ?_
    refine bR ?_
    obtain rfl := oI h0
    exact aK (aV (Q_r hO))
  refine bT ?_
  refine bC [] ?_
  refine cJ aF 1 [(4, (eI (0 : Int)))] ?_
  refine bR ?_
  obtain rfl := oI h0
  exact aK (Q_r hO)

theorem BD (a0 : ByteArray) (b1 : ByteArray) (r : Int) (h0 : mX a0 b1 = some r) : dK Try.prog 75 [(pZ a0), (pZ b1)] (eI r) := by
  intro H0
  refine dP Try.func75 ?_
  have hO := aN.start H0
  unfold mX at h0
  refine aY aF 1 [] [] ?_
  refine aP ?_
  refine aU aF 4 ?_
  refine bQ 2 ?_
  refine aGm 77 [(pZ a0), (pZ b1)] (eI (VM a0 b1)) (by kernel_rfl) (by kernel_rfl) (aEZ Try.func77 (by kernel_rfl) (by kernel_rfl) (by kernel_rfl) (by kernel_rfl) a0 b1) hO ?_
  intro H hO
  refine bG ?_
  refine bC [(4, (eI (VM a0 b1)))] ?_
  refine bR ?_
  obtain rfl := oI h0
  exact aK (Q_r hO)

theorem QE (a0 : ByteArray) (b1 : ByteArray) (r : Int) (h0 : qL a0 b1 = some r) : dK Try.prog 67 [(pZ a0), (pZ b1)] (eI r) := by
  intro H0
  refine dP Try.func67 ?_
  have hO := aN.start H0
  unfold qL at h0
  refine aY aF 1 [] [] ?_
  refine aP ?_
  refine aU aF 4 ?_
  refine bQ 2 ?_
  obtain ⟨x1, hx2, h0⟩ := aZ h0
  refine iY (BD a0 b1 _ hx2) hO ?_
  intro H hO
  refine bG ?_
  refine bC [(4, (eI x1))] ?_
  refine bR ?_
  obtain rfl := oI h0
  exact aK (Q_r hO)

theorem SO (a0 : aE) (b1 : aE) (r : Int) (h0 : tM a0 b1 = some r) : dK Try.prog 44 [(aM a0), (aM b1)] (eI r) := by
  intro H0
  refine dP Try.func44 ?_
  have hO := aN.start H0
  unfold tM at h0
  refine aP ?_
  refine aU aF 3 ?_
  refine xG 3 (aM a0) ?_
  refine xG 3 (aM b1) ?_
  refine bG ?_
  refine bC [(2, (.rp (aM a0))), (3, (.rp (aM b1)))] ?_
  refine aP ?_
  refine aU aF 7 ?_
  refine bQ 1 ?_
  obtain ⟨⟨x1_0, x1_1⟩, hx2, h0⟩ := aZ h0
  refine iY (yG a0 _ hx2) hO ?_
  intro H hO
  rcases x1_0 with _ | y4 | y5
  · replace h0 : ((oY b1).bind fun (x6_0, x6_1) => match x6_0 with | .none_ => (cond ((!x1_1) || (!x6_1)) (some (0 : Int)) (none)) | .k_number y9 => (cond ((!x1_1) || (!x6_1)) (some (0 : Int)) (some (1 : Int))) | .k_words y10 => (cond ((!x1_1) || (!x6_1)) (some (0 : Int)) (none))) = some r := h0
    refine bG ?_
    refine cQ [2] [(5, (bE bI.none_)), (6, (aG x1_1))] ?_
    refine aP ?_
    refine aU aF 7 ?_
    refine bQ 1 ?_
    obtain ⟨⟨x6_0, x6_1⟩, hx7, h0⟩ := aZ h0
    refine iY (yG b1 _ hx7) hO ?_
    intro H hO
    rcases x6_0 with _ | y9 | y10
    · replace h0 : (cond ((!x1_1) || (!x6_1)) (some (0 : Int)) (none)) = some r := h0
      refine bG ?_
      refine cQ [3] [(7, (bE bI.none_)), (8, (aG x6_1))] ?_
      refine aP ?_
      refine aY aF 6 [6, 8] [(28, (aG ((!x1_1) || (!x6_1))))] ?_
      refine bW h0 (fun h0 => ?_) (fun h0 => ?_)
      · refine cJ aF 1 [(4, (eI (0 : Int)))] ?_
        refine bR ?_
        obtain rfl := oI h0
        exact aK (aV (Q_r hO))
      refine bT ?_
      refine bC [(5, (bE bI.none_)), (7, (bE bI.none_))] ?_
      refine aY aF 7 [] [(9, (eI 0)), (10, (aG false))] ?_
      refine aY aF 7 [] [(11, (eI 0)), (12, (aG false))] ?_
      refine aP ?_
      refine cH 0 ?_
      refine aY aF 5 [] [(39, (aG false))] ?_
      refine nW (false) (fun hc12 => ?_) (fun hc12 => ?_)
      · cases hc12
      · refine aY aF 2 [9, 10, 11, 39] [(47, (aG false))] ?_
        refine nW (false) (fun hc13 => ?_) (fun hc13 => ?_)
        · cases hc13
        · refine cJ aF 2 [(5, (bE bI.none_)), (7, (bE bI.none_)), (49, (aG false))] ?_
          refine nW (false) (fun hc14 => ?_) (fun hc14 => ?_)
          · cases hc14
          · refine bT ?_
            refine fG [(5, (bE bI.none_)), (7, (bE bI.none_))] ?_
            refine aK (bD (aJ (?_)))
            refine aP ?_
            refine jS (iZ []) aF 6 ?_
            cases h0
    · replace h0 : (cond ((!x1_1) || (!x6_1)) (some (0 : Int)) (some (1 : Int))) = some r := h0
      refine bG ?_
      refine cQ [3] [(7, (bE (bI.k_number y9))), (8, (aG x6_1))] ?_
      refine aP ?_
      refine aY aF 6 [6, 8] [(28, (aG ((!x1_1) || (!x6_1))))] ?_
      refine bW h0 (fun h0 => ?_) (fun h0 => ?_)
      · refine cJ aF 1 [(4, (eI (0 : Int)))] ?_
        refine bR ?_
        obtain rfl := oI h0
        exact aK (aV (Q_r hO))
      refine bT ?_
      refine bC [(5, (bE bI.none_)), (7, (bE (bI.k_number y9)))] ?_
      refine aY aF 7 [] [(9, (eI 0)), (10, (aG false))] ?_
      refine aY aF 7 [] [(11, (eI y9)), (12, (aG true))] ?_
      refine aP ?_
      refine cH 0 ?_
      refine aY aF 5 [] [(39, (aG false))] ?_
      refine nW (false) (fun hc16 => ?_) (fun hc16 => ?_)
      · cases hc16
      · refine aY aF 2 [9, 10, 11, 39] [(47, (aG false))] ?_
        refine nW (false) (fun hc17 => ?_) (fun hc17 => ?_)
        · cases hc17
        · refine cJ aF 2 [(5, (bE bI.none_)), (7, (bE (bI.k_number y9))), (49, (aG true))] ?_
          refine nW (true) (fun hc18 => ?_) (fun hc18 => ?_)
          · refine cJ aF 1 [(4, (eI (1 : Int)))] ?_
            refine bR ?_
            obtain rfl := oI h0
            exact aK (bV (aV (Q_r hO)))
          · cases hc18
    · replace h0 : (cond ((!x1_1) || (!x6_1)) (some (0 : Int)) (none)) = some r := h0
      refine bG ?_
      refine cQ [3] [(7, (bE (bI.k_words y10))), (8, (aG x6_1))] ?_
      refine aP ?_
      refine aY aF 6 [6, 8] [(28, (aG ((!x1_1) || (!x6_1))))] ?_
      refine bW h0 (fun h0 => ?_) (fun h0 => ?_)
      · refine cJ aF 1 [(4, (eI (0 : Int)))] ?_
        refine bR ?_
        obtain rfl := oI h0
        exact aK (aV (Q_r hO))
      refine bT ?_
      refine bC [(5, (bE bI.none_)), (7, (bE (bI.k_words y10)))] ?_
      refine aY aF 7 [] [(9, (eI 0)), (10, (aG false))] ?_
      refine aY aF 7 [] [(11, (eI 0)), (12, (aG false))] ?_
      refine aP ?_
      refine cH 0 ?_
      refine aY aF 5 [] [(39, (aG false))] ?_
      refine nW (false) (fun hc20 => ?_) (fun hc20 => ?_)
      · cases hc20
      · refine aY aF 2 [9, 10, 11, 39] [(47, (aG false))] ?_
        refine nW (false) (fun hc21 => ?_) (fun hc21 => ?_)
        · cases hc21
        · refine cJ aF 2 [(5, (bE bI.none_)), (7, (bE (bI.k_words y10))), (49, (aG false))] ?_
          refine nW (false) (fun hc22 => ?_) (fun hc22 => ?_)
          · cases hc22
          · refine bT ?_
            refine fG [(5, (bE bI.none_)), (7, (bE (bI.k_words y10)))] ?_
            refine aK (bD (aJ (?_)))
            refine aP ?_
            refine jS (iZ []) aF 6 ?_
            cases h0
  · replace h0 : ((oY b1).bind fun (x23_0, x23_1) => match x23_0 with | .none_ => (cond ((!x1_1) || (!x23_1)) (some (0 : Int)) (some (-1 : Int))) | .k_number y26 => (cond ((!x1_1) || (!x23_1)) (some (0 : Int)) ((jR y4 y26).bind fun x33 => some x33)) | .k_words y27 => (cond ((!x1_1) || (!x23_1)) (some (0 : Int)) (some (-1 : Int)))) = some r := h0
    refine bG ?_
    refine cQ [2] [(5, (bE (bI.k_number y4))), (6, (aG x1_1))] ?_
    refine aP ?_
    refine aU aF 7 ?_
    refine bQ 1 ?_
    obtain ⟨⟨x23_0, x23_1⟩, hx24, h0⟩ := aZ h0
    refine iY (yG b1 _ hx24) hO ?_
    intro H hO
    rcases x23_0 with _ | y26 | y27
    · replace h0 : (cond ((!x1_1) || (!x23_1)) (some (0 : Int)) (some (-1 : Int))) = some r := h0
      refine bG ?_
      refine cQ [3] [(7, (bE bI.none_)), (8, (aG x23_1))] ?_
      refine aP ?_
      refine aY aF 6 [6, 8] [(28, (aG ((!x1_1) || (!x23_1))))] ?_
      refine bW h0 (fun h0 => ?_) (fun h0 => ?_)
      · refine cJ aF 1 [(4, (eI (0 : Int)))] ?_
        refine bR ?_
        obtain rfl := oI h0
        exact aK (aV (Q_r hO))
      refine bT ?_
      refine bC [(5, (bE (bI.k_number y4))), (7, (bE bI.none_))] ?_
      refine aY aF 7 [] [(9, (eI y4)), (10, (aG true))] ?_
      refine aY aF 7 [] [(11, (eI 0)), (12, (aG false))] ?_
      refine aP ?_
      refine cH 0 ?_
      refine aY aF 5 [] [(39, (aG false))] ?_
      refine nW (false) (fun hc29 => ?_) (fun hc29 => ?_)
      · cases hc29
      · refine aY aF 2 [9, 10, 11, 39] [(47, (aG true))] ?_
        refine nW (true) (fun hc30 => ?_) (fun hc30 => ?_)
        · refine cJ aF 1 [(4, (eI (-1 : Int)))] ?_
          refine bR ?_
          obtain rfl := oI h0
          exact aK (bV (aV (Q_r hO)))
        · cases hc30
    · replace h0 : (cond ((!x1_1) || (!x23_1)) (some (0 : Int)) ((jR y4 y26).bind fun x33 => some x33)) = some r := h0
      refine bG ?_
      refine cQ [3] [(7, (bE (bI.k_number y26))), (8, (aG x23_1))] ?_
      refine aP ?_
      refine aY aF 6 [6, 8] [(28, (aG ((!x1_1) || (!x23_1))))] ?_
      refine bW h0 (fun h0 => ?_) (fun h0 => ?_)
      · refine cJ aF 1 [(4, (eI (0 : Int)))] ?_
        refine bR ?_
        obtain rfl := oI h0
        exact aK (aV (Q_r hO))
      refine bT ?_
      refine bC [(5, (bE (bI.k_number y4))), (7, (bE (bI.k_number y26)))] ?_
      refine aY aF 7 [] [(9, (eI y4)), (10, (aG true))] ?_
      refine aY aF 7 [] [(11, (eI y26)), (12, (aG true))] ?_
      refine aP ?_
      refine cH 0 ?_
      refine aY aF 5 [] [(39, (aG true))] ?_
      refine nW (true) (fun hc32 => ?_) (fun hc32 => ?_)
      · refine aP ?_
        refine aU aF 4 ?_
        refine bQ 2 ?_
        obtain ⟨x33, hx34, h0⟩ := aZ h0
        refine iY (FO y4 y26 _ hx34) hO ?_
        intro H hO
        refine bG ?_
        refine bC [(4, (eI x33))] ?_
        refine bR ?_
        obtain rfl := oI h0
        exact aK (bV (aV (Q_r hO)))
      · cases hc32
    · replace h0 : (cond ((!x1_1) || (!x23_1)) (some (0 : Int)) (some (-1 : Int))) = some r := h0
      refine bG ?_
      refine cQ [3] [(7, (bE (bI.k_words y27))), (8, (aG x23_1))] ?_
      refine aP ?_
      refine aY aF 6 [6, 8] [(28, (aG ((!x1_1) || (!x23_1))))] ?_
      refine bW h0 (fun h0 => ?_) (fun h0 => ?_)
      · refine cJ aF 1 [(4, (eI (0 : Int)))] ?_
        refine bR ?_
        obtain rfl := oI h0
        exact aK (aV (Q_r hO))
      refine bT ?_
      refine bC [(5, (bE (bI.k_number y4))), (7, (bE (bI.k_words y27)))] ?_
      refine aY aF 7 [] [(9, (eI y4)), (10, (aG true))] ?_
      refine aY aF 7 [] [(11, (eI 0)), (12, (aG false))] ?_
      refine aP ?_
      refine cH 0 ?_
      refine aY aF 5 [] [(39, (aG false))] ?_
      refine nW (false) (fun hc37 => ?_) (fun hc37 => ?_)
      · cases hc37
      · refine aY aF 2 [9, 10, 11, 39] [(47, (aG true))] ?_
        refine nW (true) (fun hc38 => ?_) (fun hc38 => ?_)
        · refine cJ aF 1 [(4, (eI (-1 : Int)))] ?_
          refine bR ?_
          obtain rfl := oI h0
          exact aK (bV (aV (Q_r hO)))
        · cases hc38
  · replace h0 : ((oY b1).bind fun (x39_0, x39_1) => match x39_0 with | .none_ => (cond ((!x1_1) || (!x39_1)) (some (0 : Int)) (none)) | .k_number y42 => (cond ((!x1_1) || (!x39_1)) (some (0 : Int)) (some (1 : Int))) | .k_words y43 => (cond ((!x1_1) || (!x39_1)) (some (0 : Int)) ((qL y5 y43).bind fun x56 => some x56))) = some r := h0
    refine bG ?_
    refine cQ [2] [(5, (bE (bI.k_words y5))), (6, (aG x1_1))] ?_
    refine aP ?_
    refine aU aF 7 ?_
    refine bQ 1 ?_
    obtain ⟨⟨x39_0, x39_1⟩, hx40, h0⟩ := aZ h0
    refine iY (yG b1 _ hx40) hO ?_
    intro H hO
    rcases x39_0 with _ | y42 | y43
    · replace h0 : (cond ((!x1_1) || (!x39_1)) (some (0 : Int)) (none)) = some r := h0
      refine bG ?_
      refine cQ [3] [(7, (bE bI.none_)), (8, (aG x39_1))] ?_
      refine aP ?_
      refine aY aF 6 [6, 8] [(28, (aG ((!x1_1) || (!x39_1))))] ?_
      refine bW h0 (fun h0 => ?_) (fun h0 => ?_)
      · refine cJ aF 1 [(4, (eI (0 : Int)))] ?_
        refine bR ?_
        obtain rfl := oI h0
        exact aK (aV (Q_r hO))
      refine bT ?_
      refine bC [(5, (bE (bI.k_words y5))), (7, (bE bI.none_))] ?_
      refine aY aF 7 [] [(9, (eI 0)), (10, (aG false))] ?_
      refine aY aF 7 [] [(11, (eI 0)), (12, (aG false))] ?_
      refine aP ?_
      refine cH 0 ?_
      refine aY aF 5 [] [(39, (aG false))] ?_
      refine nW (false) (fun hc45 => ?_) (fun hc45 => ?_)
      · cases hc45
      · refine aY aF 2 [9, 10, 11, 39] [(47, (aG false))] ?_
        refine nW (false) (fun hc46 => ?_) (fun hc46 => ?_)
        · cases hc46
        · refine cJ aF 2 [(5, (bE (bI.k_words y5))), (7, (bE bI.none_)), (49, (aG false))] ?_
          refine nW (false) (fun hc47 => ?_) (fun hc47 => ?_)
          · cases hc47
          · refine bT ?_
            refine fG [(5, (bE (bI.k_words y5))), (7, (bE bI.none_))] ?_
            refine aK (bD (aJ (?_)))
            refine aP ?_
            refine jS (iZ []) aF 6 ?_
            cases h0
    · replace h0 : (cond ((!x1_1) || (!x39_1)) (some (0 : Int)) (some (1 : Int))) = some r := h0
      refine bG ?_
      refine cQ [3] [(7, (bE (bI.k_number y42))), (8, (aG x39_1))] ?_
      refine aP ?_
      refine aY aF 6 [6, 8] [(28, (aG ((!x1_1) || (!x39_1))))] ?_
      refine bW h0 (fun h0 => ?_) (fun h0 => ?_)
      · refine cJ aF 1 [(4, (eI (0 : Int)))] ?_
        refine bR ?_
        obtain rfl := oI h0
        exact aK (aV (Q_r hO))
      refine bT ?_
      refine bC [(5, (bE (bI.k_words y5))), (7, (bE (bI.k_number y42)))] ?_
      refine aY aF 7 [] [(9, (eI 0)), (10, (aG false))] ?_
      refine aY aF 7 [] [(11, (eI y42)), (12, (aG true))] ?_
      refine aP ?_
      refine cH 0 ?_
      refine aY aF 5 [] [(39, (aG false))] ?_
      refine nW (false) (fun hc49 => ?_) (fun hc49 => ?_)
      · cases hc49
      · refine aY aF 2 [9, 10, 11, 39] [(47, (aG false))] ?_
        refine nW (false) (fun hc50 => ?_) (fun hc50 => ?_)
        · cases hc50
        · refine cJ aF 2 [(5, (bE (bI.k_words y5))), (7, (bE (bI.k_number y42))), (49, (aG true))] ?_
          refine nW (true) (fun hc51 => ?_) (fun hc51 => ?_)
          · refine cJ aF 1 [(4, (eI (1 : Int)))] ?_
            refine bR ?_
            obtain rfl := oI h0
            exact aK (bV (aV (Q_r hO)))
          · cases hc51
    · replace h0 : (cond ((!x1_1) || (!x39_1)) (some (0 : Int)) ((qL y5 y43).bind fun x56 => some x56)) = some r := h0
      refine bG ?_
      refine cQ [3] [(7, (bE (bI.k_words y43))), (8, (aG x39_1))] ?_
      refine aP ?_
      refine aY aF 6 [6, 8] [(28, (aG ((!x1_1) || (!x39_1))))] ?_
      refine bW h0 (fun h0 => ?_) (fun h0 => ?_)
      · refine cJ aF 1 [(4, (eI (0 : Int)))] ?_
        refine bR ?_
        obtain rfl := oI h0
        exact aK (aV (Q_r hO))
      refine bT ?_
      refine bC [(5, (bE (bI.k_words y5))), (7, (bE (bI.k_words y43)))] ?_
      refine aY aF 7 [] [(9, (eI 0)), (10, (aG false))] ?_
      refine aY aF 7 [] [(11, (eI 0)), (12, (aG false))] ?_
      refine aP ?_
      refine cH 0 ?_
      refine aY aF 5 [] [(39, (aG false))] ?_
      refine nW (false) (fun hc53 => ?_) (fun hc53 => ?_)
      · cases hc53
      · refine aY aF 2 [9, 10, 11, 39] [(47, (aG false))] ?_
        refine nW (false) (fun hc54 => ?_) (fun hc54 => ?_)
        · cases hc54
        · refine cJ aF 2 [(5, (bE (bI.k_words y5))), (7, (bE (bI.k_words y43))), (49, (aG false))] ?_
          refine nW (false) (fun hc55 => ?_) (fun hc55 => ?_)
          · cases hc55
          · refine bT ?_
            refine fG [(5, (bE (bI.k_words y5))), (7, (bE (bI.k_words y43)))] ?_
            refine aK (bD (aJ (?_)))
            refine aP ?_
            refine jS (iZ []) aF 6 ?_
            refine qD 4 ?_
            obtain ⟨x56, hx57, h0⟩ := aZ h0
            refine NK (QE y5 y43 _ hx57) hO ?_
            intro H hO
            refine nX ?_
            refine bC [(4, (eI x56))] ?_
            refine bR ?_
            obtain rfl := oI h0
            exact aK (Q_r hO)

theorem MY (a0 : (List aE)) (b1 : (List aE)) (r : Int) (h0 : tI a0 b1 = some r) : dK Try.prog 25 [(eL aM a0), (eL aM b1)] (eI r) := by
  intro H0
  refine dP Try.func25 ?_
  have hO := aN.start H0
  unfold tI at h0
  refine aP ?_
  refine aU aF 2 ?_
  refine xG 1 (eL aM b1) ?_
  refine bG ?_
  refine cQ [1] [(3, (.rp (eL aM b1)))] ?_
  refine aP ?_
  refine aP ?_
  refine aU aF 8 ?_
  refine bQ 1 ?_
  obtain ⟨x1, hx2, h0⟩ := aZ h0
  refine iY (ES a0 _ hx2) hO ?_
  intro H hO
  refine bQ 5 ?_
  obtain ⟨x4, hx5, h0⟩ := aZ h0
  refine tC [(10, false)] 39 [(eL aM b1)] (aG x4) (!(!x1)) (by kernel_rfl) (by kernel_rfl) (by kernel_rfl) (fun hb6 => (ES b1 _ (pE hx5 hb6))) hO ?_
  intro H hO
  refine bG ?_
  refine cQ [] [(14, (aG ((!x1) || (!x4))))] ?_
  refine bW h0 (fun h0 => ?_) (fun h0 => ?_)
  · refine cJ aF 1 [(4, (eI (0 : Int)))] ?_
    refine bR ?_
    obtain rfl := oI h0
    exact aK (aV (Q_r hO))
  refine bT ?_
  refine bC [(0, (eL aM a0)), (3, (.rp (eL aM b1)))] ?_
  refine aY aF 6 [] [(5, (eI (if (lN b1) < (lN a0) then (lN b1) else (lN a0))))] ?_
  refine aP ?_
  refine jS (iZ []) aF 7 ?_
  obtain ⟨c8, h0⟩ := bB h0
  refine cP 4 [0 ≤ (if (lN b1) < (lN a0) then (lN b1) else (lN a0)) ∧ (if (lN b1) < (lN a0) then (lN b1) else (lN a0)) ≤ (lN a0)] ⟨c8, trivial⟩ ?_
  obtain ⟨x9, hx10, h0⟩ := aZ h0
  refine aGg (L' := fun lo11 => [(lo11, 1, [(eI x9.1)])]) 1 [(eI x9.1)] 41 [(.rp (eL aM b1))] (fun lo11 => (.fn (.func 42) [] [(.lp lo11 0 0), (.rp (eL aM x9.2))])) (by kernel_rfl) (by kernel_rfl) (SY b1 _ hx10) hO (fun _ => by kernel_rfl) ?_
  intro lo11 H hO
  obtain ⟨x12, hx13, h0⟩ := aZ h0
  refine aF2 (fun st G' => G' = up [(lo11, 1, [(eI st)])] ++ []) [(lo11, 1, [(eI x12.1)])] x9.1 x12.1 40 [(.sl false (Int.toNat (if (lN b1) < (lN a0) then (lN b1) else (lN a0))) (fun i => aM (List.getD a0 i default))), (.fn (.func 42) [] [(.lp lo11 0 0), (.rp (eL aM x9.2))])] (eI x12.2) (by kernel_rfl) (by kernel_rfl) (vH.sub (as0' := [(eL aM (List.take (Int.toNat (if (lN b1) < (lN a0) then (lN b1) else (lN a0))) a0)), (.fn (.func 42) [] [(.lp lo11 0 0), (.rp (eL aM x9.2))])]) (wJ _ (List.take (Int.toNat (if (lN b1) < (lN a0) then (lN b1) else (lN a0))) a0) (.fn (.func 42) [] [(.lp lo11 0 0), (.rp (eL aM x9.2))]) (fun st y0 => (nJ y0 st x9.2).bind fun o => some (o.2, o.1)) (fun st y0 st2 rr hr => (PZ y0 lo11 st x9.2 _ (aHs hr)).toV (ys := []) (zs := [(aM y0)]) (cs := [(.lp lo11 0 0), (.rp (eL aM x9.2))]) (fun Gx hG => ⟨up [], up [] ++ [], hG, rfl⟩)) _ _ hx13) ⟨aFD (Int.toNat_le.2 (And.right c8)), aQ.refl _, trivial⟩) hO rfl (fun _ h => h) ?_
  intro H hO
  refine nX ?_
  replace hO := hO.pick (L' := []) [] (by decide) (by kernel_rfl)
  refine cQ [5] [(6, (eI x12.2))] ?_
  refine aP ?_
  refine aY aF 2 [] [(27, (aG (decide (x12.2 < (0 : Int)))))] ?_
  refine bW h0 (fun h0 => ?_) (fun h0 => ?_)
  · refine aP ?_
    refine aU aF 6 ?_
    refine bQ 4 ?_
    obtain ⟨x15, hx16, h0⟩ := aZ h0
    refine iY (QB (lN a0) (lN b1) _ hx16) hO ?_
    intro H hO
    refine bG ?_
    refine bC [(4, (eI x15))] ?_
    refine bR ?_
    obtain rfl := oI h0
    exact aK (aV (Q_r hO))
  refine bT ?_
  refine bC [(0, (eL aM a0)), (3, (.rp (eL aM b1))), (6, (eI x12.2))] ?_
  refine aP ?_
  refine jS (iZ [36, 37, 40, 41]) aF 10 ?_
  obtain ⟨c18, h0⟩ := bB h0
  obtain ⟨c19, h0⟩ := bB h0
  refine cP 8 [0 ≤ x12.2 ∧ x12.2 < (lN a0), 0 ≤ x12.2 ∧ x12.2 < (lN b1)] ⟨c18, c19, trivial⟩ ?_
  obtain ⟨x20, hx21, h0⟩ := aZ h0
  refine NK (SO (gD a0 x12.2) (gD b1 x12.2) _ hx21) hO ?_
  intro H hO
  refine nX ?_
  refine bC [(4, (eI x20))] ?_
  refine bR ?_
  obtain rfl := oI h0
  exact aK (Q_r hO)

theorem aBt (l0 : (List aI)) (holds1_f : Nat) (holds1_a holds1_c : List V) (xY : (List aD) → Option Bool) (holds1_h : ∀ a0 r, xY a0 = some r → dK Try.prog holds1_f (holds1_a ++ [(eL aL a0)] ++ holds1_c) (aG r)) (r : Bool) (h0 : zX l0 xY = some r) : dK Try.prog 27 [(eL aO l0), (.fn (.func holds1_f) holds1_a holds1_c)] (aG r) := by
  intro H0
  refine UQ aF Try.func27 (by kernel_rfl) (by kernel_rfl) (by kernel_rfl) ?_
  have hO := aN.start H0
  unfold zX at h0
  refine aP ?_
  refine aU aF 2 ?_
  refine xG 1 (.fn (.func holds1_f) holds1_a holds1_c) ?_
  refine qT 1 (aG false) (by kernel_rfl) (by kernel_rfl) hO ?_
  intro lo1 H hO
  refine eW ?_
  refine cQ [1] [(3, (.rp (.fn (.func holds1_f) holds1_a holds1_c))), (4, (.lp lo1 0 0))] ?_
  refine aP ?_
  refine aY aF 3 [] [(11, (aG (decide ((4096 : Int) < (lN l0)))))] ?_
  refine bW h0 (fun h0 => ?_) (fun h0 => ?_)
  · refine aP ?_
    refine aU aF 1 ?_
    refine pI 0 lo1 1 0 (aG false) (aG false) [(aG false)] [(lo1, 1, [(aG false)])] hO rfl (by kernel_rfl) ?_
    intro H hO
    refine eW ?_
    refine bC [(4, (.lp lo1 0 0))] ?_
    refine bR ?_
    obtain rfl := oI h0
    exact aK (aV (QM0 (.inr rfl) (rs := [.cell 4 4]) (xs := [(aG false)]) (x := (aG false)) (by kernel_rfl) (yD (lo := lo1) (k := 1) (y := (aG false)) (x := (aG false)) 0 hO (by kernel_rfl) (by kernel_rfl) (by kernel_rfl) (by kernel_rfl) vT) (by kernel_rfl) ⟨rfl, hO.out⟩))
  refine bT ?_
  refine bC [(0, (eL aO l0)), (3, (.rp (.fn (.func holds1_f) holds1_a holds1_c))), (4, (.lp lo1 0 0))] ?_
  refine aP ?_
  refine aU aF 1 ?_
  refine xK 1 (.sl true 0 (fun _ => .bad)) (eL aM ([])) (by kernel_rfl) (by kernel_rfl) (by kernel_rfl) (lU) (by kernel_rfl) (by kernel_rfl) hO ?_
  intro lo3 H hO
  refine eW ?_
  refine cQ [] [(5, (.lp lo3 0 0))] ?_
  refine aP ?_
  refine aU aF 2 ?_
  refine qT 1 (aG false) (by kernel_rfl) (by kernel_rfl) hO ?_
  intro lo4 H hO
  refine pI 2 lo4 1 0 (aG false) (aG false) [(aG false)] [(lo1, 1, [(aG false)]), (lo3, 1, [(eL aM ([]))]), (lo4, 1, [(aG false)])] hO rfl (by kernel_rfl) ?_
  intro H hO
  refine eW ?_
  refine cQ [] [(6, (.lp lo4 0 0))] ?_
  refine aP ?_
  refine aP ?_
  refine aU aF 2 ?_
  refine bQ 1 ?_
  obtain ⟨x5, hx6, h0⟩ := aZ h0
  refine iY (QK l0 _ hx6) hO ?_
  intro H hO
  refine eW ?_
  refine cQ [0] [(13, (.fn (.func 47) [] [(.rp (eL aO x5))]))] ?_
  refine cH 0 ?_
  refine mD [(3, (.rp (.fn (.func holds1_f) holds1_a holds1_c))), (4, (.lp lo1 0 0)), (5, (.lp lo3 0 0)), (6, (.lp lo4 0 0)), (13, (.fn (.func 47) [] [(.rp (eL aO x5))]))] ?_
  refine kZ (fun T H => ∃ t4 : Bool, ∃ rZ : (List aE), ∃ nR : Bool, ∃ yK : (List aI), Has T [(3, (.rp (.fn (.func holds1_f) holds1_a holds1_c))), (4, (.lp lo1 0 0)), (5, (.lp lo3 0 0)), (6, (.lp lo4 0 0)), (13, (.fn (.func 47) [] [(.rp (eL aO yK))]))] ∧ aN ⟨H0, [], []⟩ H [(lo1, 1, [(aG t4)]), (lo3, 1, [(eL aM rZ)]), (lo4, 1, [(aG nR)])] ∧ CE xY t4 rZ nR yK = some r) ?_ ⟨false, [], false, x5, bF, hO, h0⟩
  clear hO h0
  rintro T H ⟨t4, rZ, nR, yK, hT, hO, h0⟩
  refine bO (l := [(3, (.rp (.fn (.func holds1_f) holds1_a holds1_c))), (4, (.lp lo1 0 0)), (5, (.lp lo3 0 0)), (6, (.lp lo4 0 0)), (13, (.fn (.func 47) [] [(.rp (eL aO yK))]))]) hT ?_
  clear hT
  unfold CE at h0
  obtain ⟨o0, hl0, h0⟩ := aZ h0
  refine RX (fid := 47) (ys := []) (cs := [(.rp (eL aO yK))]) #[14, 15] (fun (A : JN) (b lL : Nat) (st : (Bool × (List aE) × Bool) ⊕ (Bool × (List aE) × Bool)) (G' : Gs) => Sum.elim (fun (s : Bool × (List aE) × Bool) => G' = (lL, .raw (pP b A .ready none)) :: (up [(lo1, 1, [(aG s.1)]), (lo3, 1, [(eL aM s.2.1)]), (lo4, 1, [(aG s.2.2)])] ++ [])) (fun (s : Bool × (List aE) × Bool) => G' = (lL, .raw (pP b A .done (some .ret))) :: (up [(lo1, 1, [(aG s.1)]), (lo3, 1, [(eL aM s.2.1)]), (lo4, 1, [(aG s.2.2)])] ++ [])) st) (.inl (t4, rZ, nR)) o0 (.tup []) (by kernel_rfl) (by kernel_rfl) (by kernel_rfl) hO (fun _ _ => rfl) ?_ ?_
  · intro b lL
    clear hO h0
    refine JG _ b (fun st t14 t15 => rnd (fun (s : Bool × (List aE) × Bool) => sJ xY yK s.1 s.2.1 s.2.2 t14 t15) st) ?_ yK _ _ hl0
    intro st t14 t15 out1 rr hr
    obtain ⟨s, rfl, h1, rfl⟩ := aEr hr
    clear hr
    intro Hr Gr hi hg
    obtain ⟨t4, rZ, nR⟩ := s
    dsimp only [Sum.elim_inl] at hi
    obtain rfl := hi
    replace h1 : sJ xY yK t4 rZ nR t14 t15 = some out1 := h1
    unfold sJ at h1
    obtain ⟨E1, hE, hO⟩ := KW hg
    refine KP (RL (hO.gm 0 _ rfl).2 (by kernel_rfl) (by kernel_rfl) ?_)
    refine mD [(3, (.rp (.fn (.func holds1_f) holds1_a holds1_c))), (4, (.lp lo1 0 0)), (5, (.lp lo3 0 0)), (6, (.lp lo4 0 0)), (13, (.fn (.func 47) [] [(.rp (eL aO yK))])), (14, (eL aM t14)), (15, (eL aL t15))] ?_
    refine aY aF 1 [13, 14] [(7, (eL aM t14))] ?_
    refine aU aF 1 ?_
    refine bG ?_
    refine fG [(3, (.rp (.fn (.func holds1_f) holds1_a holds1_c))), (4, (.lp lo1 0 0)), (5, (.lp lo3 0 0)), (6, (.lp lo4 0 0)), (7, (eL aM t14)), (8, (eL aL t15))] ?_
    refine aK (⟨rfl, rfl, (hO.gm 0 _ rfl).2, ?_⟩)
    intro o1 ho1
    replace hO := hO.uY o1
    refine cH 1 ?_
    refine aP ?_
    refine aP ?_
    refine aU aF 18 ?_
    refine bQ 1 ?_
    obtain ⟨x7, hx8, h1⟩ := aZ h1
    refine iY (ES t14 _ hx8) hO ?_
    intro H hO
    refine bQ 4 ?_
    refine GF [(19, false)] 2 lo4 1 0 (aG nR) (aG nR) [(aG nR)] (by kernel_rfl) (by kernel_rfl) hO (by kernel_rfl) (!(!x7)) (by kernel_rfl) (fun hb10 => rfl) ?_
    refine bQ 6 ?_
    refine GF [(21, true), (19, false)] 1 lo3 1 0 (eL aM rZ) (eL aM rZ) [(eL aM rZ)] (by kernel_rfl) (by kernel_rfl) hO (by kernel_rfl) (nR && (!(!x7))) (by kernel_rfl) (fun hb11 => rfl) ?_
    refine bQ 8 ?_
    obtain ⟨x12, hx13, h1⟩ := aZ h1
    refine tC [(21, true), (19, false)] 25 [(eL aM rZ), (eL aM t14)] (eI x12) (nR && (!(!x7))) (by kernel_rfl) (by kernel_rfl) (by kernel_rfl) (fun hb14 => (MY rZ t14 _ (pE hx13 hb14))) hO ?_
    intro H hO
    refine bQ 15 ?_
    obtain ⟨x15, hx16, h1⟩ := aZ h1
    refine tC [(28, false)] holds1_f (holds1_a ++ [(eL aL t15)] ++ holds1_c) (aG x15) (!((!x7) || (nR && (decide ((0 : Int) ≤ x12))))) (by kernel_rfl) (by kernel_rfl) (by kernel_rfl) (fun hb17 => (holds1_h t15 _ (pE hx16 hb17))) hO ?_
    intro H hO
    refine bG ?_
    refine cQ [3, 8] [(33, (aG (((!x7) || (nR && (decide ((0 : Int) ≤ x12)))) || (!x15))))] ?_
    refine bW h1 (fun h1 => ?_) (fun h1 => ?_)
    · refine aP ?_
      refine aU aF 1 ?_
      refine pI 0 lo1 1 0 (aG t4) (aG false) [(aG t4)] [(lo1, 1, [(aG false)]), (lo3, 1, [(eL aM rZ)]), (lo4, 1, [(aG nR)])] hO rfl (by kernel_rfl) ?_
      intro H hO
      refine eW ?_
      refine cQ [7, 33] [] ?_
      refine bR ?_
      refine fG [(4, (.lp lo1 0 0)), (5, (.lp lo3 0 0)), (6, (.lp lo4 0 0))] ?_
      obtain rfl := oI h1
      exact aK (aV (bV (⟨(qN hO hE ho1 .dead).1, rfl, _, rfl, (qN hO hE ho1 _).2⟩)))
    refine bT ?_
    refine bC [(4, (.lp lo1 0 0)), (5, (.lp lo3 0 0)), (6, (.lp lo4 0 0)), (7, (eL aM t14))] ?_
    refine aU aF 3 ?_
    refine bQ 1 ?_
    refine pI 1 lo3 1 0 (eL aM rZ) (eL aM t14) [(eL aM rZ)] [(lo1, 1, [(aG t4)]), (lo3, 1, [(eL aM t14)]), (lo4, 1, [(aG nR)])] hO rfl (by kernel_rfl) ?_
    intro H hO
    refine pI 2 lo4 1 0 (aG nR) (aG true) [(aG nR)] [(lo1, 1, [(aG t4)]), (lo3, 1, [(eL aM t14)]), (lo4, 1, [(aG true)])] hO rfl (by kernel_rfl) ?_
    intro H hO
    refine eW ?_
    refine fG [(4, (.lp lo1 0 0)), (5, (.lp lo3 0 0)), (6, (.lp lo4 0 0))] ?_
    obtain rfl := oI h1
    exact aK (bD (⟨(qN hO hE ho1 .dead).1, rfl, _, rfl, (qN hO hE ho1 _).2⟩))
  · intro b lD19 lL H' G' hi hO
    rcases o0 with s | s
    · dsimp only [Sum.elim_inl] at hi
      obtain rfl := hi
      replace h0 : (some true) = some r := h0
      obtain ⟨hlL, hO⟩ := yF hO
      refine ⟨_, _, hlL, (by intro e; cases e), ?_⟩
      refine fG [(4, (.lp lo1 0 0))] ?_
      replace hO := hO.pick (L' := [(lo1, 1, [(aG s.1)])]) [0] (by decide) (by kernel_rfl)
      refine aK (bD (aJ (?_)))
      refine aP ?_
      refine aU aF 1 ?_
      refine pI 0 lo1 1 0 (aG s.1) (aG true) [(aG s.1)] [(lo1, 1, [(aG true)])] hO rfl (by kernel_rfl) ?_
      intro H hO
      refine eW ?_
      refine bC [(4, (.lp lo1 0 0))] ?_
      refine bR ?_
      obtain rfl := oI h0
      have hD := (hO.gm 0 _ rfl).2
      replace hO := (hO.uY .dead).rX
      exact aK (QM1 (.inr rfl) hD (rs := [.cell 4 4]) (xs := [(aG true)]) (x := (aG true)) (by kernel_rfl) (yD (lo := lo1) (k := 1) (y := (aG true)) (x := (aG true)) 0 hO (by kernel_rfl) (by kernel_rfl) (by kernel_rfl) (by kernel_rfl) vT) (by kernel_rfl) ⟨rfl, hO.out⟩)
    · dsimp only [Sum.elim_inr] at hi
      obtain rfl := hi
      replace h0 : (some s.1) = some r := h0
      obtain ⟨hlL, hO⟩ := yF hO
      refine ⟨_, _, hlL, (by intro e; cases e), ?_⟩
      refine bR ?_
      replace hO := hO.pick (L' := [(lo1, 1, [(aG s.1)])]) [0] (by decide) (by kernel_rfl)
      obtain rfl := oI h0
      have hD := (hO.gm 0 _ rfl).2
      replace hO := (hO.uY .dead).rX
      exact aK (bV (aV (QM1 (.inr rfl) hD (rs := [.cell 4 4]) (xs := [(aG s.1)]) (x := (aG s.1)) (by kernel_rfl) (yD (lo := lo1) (k := 1) (y := (aG s.1)) (x := (aG s.1)) 0 hO (by kernel_rfl) (by kernel_rfl) (by kernel_rfl) (by kernel_rfl) vT) (by kernel_rfl) ⟨rfl, hO.out⟩)))

theorem aBe (n0 : Int) (r : Bool) (h0 : DS n0 = some r) : dK Try.prog 46 [(eI n0)] (aG r) := by
  intro H0
  refine dP Try.func46 ?_
  have hO := aN.start H0
  unfold DS at h0
  refine aY aF 1 [] [] ?_
  refine cJ aF 7 [(2, (aG ((decide (n0 ≤ (1048576 : Int))) && (decide ((-1048576 : Int) ≤ n0)))))] ?_
  refine bR ?_
  obtain rfl := oI h0
  exact aK (Q_r hO)

theorem uX (f0 : (List aD)) (r : Bool) (h0 : pS f0 = some r) : dK Try.prog 28 [(eL aL f0)] (aG r) := by
  intro H0
  refine dP Try.func28 ?_
  have hO := aN.start H0
  unfold pS at h0
  refine aY aF 1 [] [] ?_
  refine aP ?_
  refine aY aF 3 [] [(8, (aG (decide ((1024 : Int) < (lN f0)))))] ?_
  refine bW h0 (fun h0 => ?_) (fun h0 => ?_)
  · refine cJ aF 1 [(2, (aG false))] ?_
    refine bR ?_
    obtain rfl := oI h0
    exact aK (aV (Q_r hO))
  refine bT ?_
  refine bC [(0, (eL aL f0))] ?_
  refine aY aF 1 [] [(3, (eI (-2 : Int)))] ?_
  refine lT (fun T H => Has T [] ∧ aN ⟨H0, [], []⟩ H [] ∧ AD  = some r) ?_ ?_
  · clear hO h0
    rintro T H ⟨hT, hO, h0⟩
    refine bO hT ?_
    clear hT
    unfold AD at h0
    refine cJ aF 1 [(2, (aG true))] ?_
    refine bR ?_
    obtain rfl := oI h0
    exact aK (Q_r hO)
  refine aY aF 3 [0] [(9, (eL aL f0)), (10, (eI (lN f0))), (11, (eI (0 : Int)))] ?_
  refine cH 0 ?_
  refine mD [(3, (eI (-2 : Int))), (9, (eL aL f0)), (10, (eI (lN f0))), (11, (eI (0 : Int)))] ?_
  refine kZ (fun T H => ∃ uE : Int, ∃ t9 : (List aD), ∃ t10 : Int, ∃ t11 : Int, Has T [(3, (eI uE)), (9, (eL aL t9)), (10, (eI t10)), (11, (eI t11))] ∧ aN ⟨H0, [], []⟩ H [] ∧ DU uE t9 t10 t11 = some r) ?_ ⟨(-2 : Int), f0, (lN f0), (0 : Int), bF, hO, h0⟩
  clear hO h0
  rintro T H ⟨uE, t9, t10, t11, hT, hO, h0⟩
  refine bO hT ?_
  clear hT
  unfold DU at h0
  obtain ⟨rr0, hl0, h0⟩ := aZ h0
  refine mQ (fun (s : Int × Int) T H => Has T [(3, (eI s.1)), (9, (eL aL t9)), (10, (eI t10)), (11, (eI s.2))] ∧ aN ⟨H0, [], []⟩ H []) hl0 ⟨bF, hO⟩ ?_
  clear hO
  rintro k0 s out1 T H ⟨hT, hO⟩ h1 ho0
  obtain ⟨uE, t11⟩ := s
  replace h1 : qF t9 t10 uE t11 = some out1 := h1
  try dsimp only at hT
  refine bO hT ?_
  clear hT
  unfold qF at h1
  refine aY aF 1 [] [(12, (aG (decide (t11 < t10))))] ?_
  refine aP ?_
  refine bW h1 (fun h1 => ?_) (fun h1 => ?_)
  · refine bT ?_
    refine bC [(3, (eI uE)), (9, (eL aL t9)), (10, (eI t10)), (11, (eI t11))] ?_
    refine aP ?_
    refine cH 1 ?_
    refine aP ?_
    refine aU aF 4 ?_
    obtain ⟨c3, h1⟩ := bB h1
    refine AV 2 [0 ≤ t11 ∧ t11 < (lN t9)] ⟨c3, trivial⟩ ?_
    refine qT 2 (aL (aD.mk 0 0)) (by kernel_rfl) (by kernel_rfl) hO ?_
    intro lo4 H hO
    refine pI 0 lo4 2 0 (aL (aD.mk 0 0)) (aL (gD t9 t11)) [(aL (aD.mk 0 0))] [(lo4, 2, [(aL (gD t9 t11))])] hO rfl (by kernel_rfl) ?_
    intro H hO
    refine eW ?_
    refine cQ [] [(5, (.lp lo4 0 0))] ?_
    refine aP ?_
    refine aP ?_
    refine aU aF 20 ?_
    refine bQ 1 ?_
    refine oH 0 lo4 2 0 (aL (gD t9 t11)) (eI ((gD t9 t11).At)) [(aL (gD t9 t11))] hO rfl ?_
    refine bQ 6 ?_
    refine GF [(19, false)] 0 lo4 2 0 (aL (gD t9 t11)) (eI ((gD t9 t11).At)) [(aL (gD t9 t11))] (by kernel_rfl) (by kernel_rfl) hO (by kernel_rfl) (!(decide (((gD t9 t11).At) ≤ uE))) (by kernel_rfl) (fun hb5 => rfl) ?_
    refine bQ 11 ?_
    refine GF [(24, false)] 0 lo4 2 0 (aL (gD t9 t11)) (eI ((gD t9 t11).Net)) [(aL (gD t9 t11))] (by kernel_rfl) (by kernel_rfl) hO (by kernel_rfl) (!((decide (((gD t9 t11).At) ≤ uE)) || (decide ((1125899906842624 : Int) ≤ ((gD t9 t11).At))))) (by kernel_rfl) (fun hb6 => rfl) ?_
    refine bQ 16 ?_
    refine GF [(29, false)] 0 lo4 2 0 (aL (gD t9 t11)) (eI ((gD t9 t11).Net)) [(aL (gD t9 t11))] (by kernel_rfl) (by kernel_rfl) hO (by kernel_rfl) (!(((decide (((gD t9 t11).At) ≤ uE)) || (decide ((1125899906842624 : Int) ≤ ((gD t9 t11).At)))) || (decide (((gD t9 t11).Net) = (0 : Int))))) (by kernel_rfl) (fun hb7 => rfl) ?_
    obtain ⟨x8, hx9, h1⟩ := aZ h1
    refine tC [(29, false)] 46 [(eI ((gD t9 t11).Net))] (aG x8) (!(((decide (((gD t9 t11).At) ≤ uE)) || (decide ((1125899906842624 : Int) ≤ ((gD t9 t11).At)))) || (decide (((gD t9 t11).Net) = (0 : Int))))) (by kernel_rfl) (by kernel_rfl) (by kernel_rfl) (fun hb10 => (aBe ((gD t9 t11).Net) _ (pE hx9 hb10))) hO ?_
    intro H hO
    refine bG ?_
    refine cQ [3] [(34, (aG ((((decide (((gD t9 t11).At) ≤ uE)) || (decide ((1125899906842624 : Int) ≤ ((gD t9 t11).At)))) || (decide (((gD t9 t11).Net) = (0 : Int)))) || (!x8))))] ?_
    refine bW h1 (fun h1 => ?_) (fun h1 => ?_)
    · refine aP ?_
      refine aU aF 1 ?_
      refine bG ?_
      refine fG [(2, (aG false))] ?_
      replace hO := hO.pick (L' := []) [] (by decide) (by kernel_rfl)
      refine aK (aJ (?_))
      refine bR ?_
      obtain rfl := oI h1
      obtain rfl : _ = rr0 := ho0
      replace h0 : some false = some r := h0
      obtain rfl := oI h0
      exact aK (aV (bV (aV (aV (bV (aV (Q_r hO)))))))
    refine bT ?_
    refine bC [(5, (.lp lo4 0 0)), (9, (eL aL t9)), (10, (eI t10)), (11, (eI t11))] ?_
    refine aU aF 3 ?_
    refine bQ 1 ?_
    refine oH 0 lo4 2 0 (aL (gD t9 t11)) (eI ((gD t9 t11).At)) [(aL (gD t9 t11))] hO rfl ?_
    refine bG ?_
    refine fG [(3, (eI ((gD t9 t11).At))), (9, (eL aL t9)), (10, (eI t10)), (11, (eI t11))] ?_
    replace hO := hO.pick (L' := []) [] (by decide) (by kernel_rfl)
    refine aK (bD (aJ (?_)))
    refine aU aF 2 ?_
    refine bG ?_
    exact aK (aJ (⟨rfl, _, (oI h1).symm, bF, hO⟩))
  refine lM 0 ?_
  obtain rfl := oI h1
  obtain rfl : _ = rr0 := ho0
  replace h0 : AD  = some r := h0
  exact aK (aX (aX (cC (aJ (⟨rfl, bF, hO, h0⟩)))))

theorem TJ (l0 : (List aI)) (r : Bool) (h0 : yI l0 = some r) : dK Try.prog 13 [(eL aO l0)] (aG r) := by
  intro H0
  refine dP Try.func13 ?_
  have hO := aN.start H0
  unfold yI at h0
  refine aY aF 1 [] [] ?_
  refine aP ?_
  refine aU aF 3 ?_
  refine bQ 1 ?_
  obtain ⟨x1, hx2, h0⟩ := aZ h0
  refine iY (aBt l0 28 [] [] (fun y0 => pS y0) (fun y0 r h => uX y0 r h) _ hx2) hO ?_
  intro H hO
  refine bG ?_
  refine bC [(2, (aG x1))] ?_
  refine bR ?_
  obtain rfl := oI h0
  exact aK (Q_r hO)

theorem QA {σ : Type} (I : σ → Gs → Prop) (yield0_b : Nat) (kN : σ → (List aE) → (List aD) → Option (σ × Bool)) (yield0_h : ∀ st a0 a1 st2 r, kN st a0 a1 = some (st2, r) → GC Try.prog (yv yield0_b) I st [(eL aM a0), (eL aL a1)] st2 (aG r)) (t1 : (List aI)) (sg0 : σ) (r : σ) (h0 : rJ kN t1 sg0 = some r) : vH Try.prog 30 I sg0 [(yv yield0_b), (.rp (eL aO t1))] r (.tup []) := by
  intro H0 G0 hI hg
  refine UQ aF Try.func30 (by kernel_rfl) (by kernel_rfl) (by kernel_rfl) ?_
  obtain ⟨G, hO, hI⟩ : ∃ G, aN ⟨H0, List.map (fun p : Nat × dS => p.1) G0, G⟩ H0 [] ∧ I sg0 G := ⟨G0, aN.LN hg, hI⟩
  clear hg
  unfold rJ at h0
  refine aP ?_
  refine aU aF 1 ?_
  refine xG 1 (yv yield0_b) ?_
  refine eW ?_
  refine cQ [0] [(2, (.rp (yv yield0_b)))] ?_
  refine aP ?_
  refine aP ?_
  refine aU aF 3 ?_
  refine bQ 1 ?_
  obtain ⟨x1, hx2, h0⟩ := aZ h0
  refine iY (TJ t1 _ hx2) hO ?_
  intro H hO
  refine bG ?_
  refine cQ [] [(7, (aG (!x1)))] ?_
  refine bW h0 (fun h0 => ?_) (fun h0 => ?_)
  · refine bR ?_
    obtain rfl := oI h0
    exact aK (aV (QM0 (.inr rfl) (rs := []) (xs := []) (x := (.tup [])) (by kernel_rfl) vT (by kernel_rfl) ⟨rfl, G, hI, hO.HD⟩))
  refine bT ?_
  refine bC [(1, (.rp (eL aO t1))), (2, (.rp (yv yield0_b)))] ?_
  refine aP ?_
  refine aU aF 2 ?_
  refine bQ 1 ?_
  obtain ⟨x5, hx6, h0⟩ := aZ h0
  refine iY (QK t1 _ hx6) hO ?_
  intro H hO
  refine eW ?_
  refine cQ [1] [(9, (.fn (.func 47) [] [(.rp (eL aO x5))]))] ?_
  refine cH 0 ?_
  refine mD [(2, (.rp (yv yield0_b))), (9, (.fn (.func 47) [] [(.rp (eL aO x5))]))] ?_
  refine kZ (fun T H => ∃ sg : σ, ∃ t9c0 : (List aI), ∃ G : Gs, Has T [(2, (.rp (yv yield0_b))), (9, (.fn (.func 47) [] [(.rp (eL aO t9c0))]))] ∧ aN ⟨H0, List.map (fun p : Nat × dS => p.1) G0, G⟩ H [] ∧ I sg G ∧ tP kN sg t9c0 = some r) ?_ ⟨sg0, x5, G, bF, hO, hI, h0⟩
  clear hO hI h0
  rintro T H ⟨sg, t9c0, G, hT, hO, hI, h0⟩
  refine bO (l := [(2, (.rp (yv yield0_b))), (9, (.fn (.func 47) [] [(.rp (eL aO t9c0))]))]) hT ?_
  clear hT
  unfold tP at h0
  obtain ⟨o0, hl0, h0⟩ := aZ h0
  refine RX (fid := 47) (ys := []) (cs := [(.rp (eL aO t9c0))]) #[10, 11] (fun (A : JN) (b lL : Nat) (st : (σ) ⊕ (σ)) (G' : Gs) => Sum.elim (fun (s : σ) => ∃ G : Gs, I s G ∧ G' = (lL, .raw (pP b A .ready none)) :: (up [] ++ G)) (fun (s : σ) => ∃ G : Gs, I s G ∧ G' = (lL, .raw (pP b A .done (some .ret))) :: (up [] ++ G)) st) (.inl sg) o0 (.tup []) (by kernel_rfl) (by kernel_rfl) (by kernel_rfl) hO (fun _ _ => ⟨G, hI, rfl⟩) ?_ ?_
  · intro b lL
    clear hO hI h0
    refine JG _ b (fun st t10 t11 => rnd (fun (s : σ) => oK kN t9c0 s t10 t11) st) ?_ t9c0 _ _ hl0
    intro st t10 t11 out1 rr hr
    obtain ⟨s, rfl, h1, rfl⟩ := aEr hr
    clear hr
    intro Hr Gr hi hg
    obtain ⟨sg, rfl⟩ : ∃ x, x = s := ⟨_, rfl⟩
    dsimp only [Sum.elim_inl] at hi
    obtain ⟨G, hI, rfl⟩ := hi
    replace h1 : oK kN t9c0 sg t10 t11 = some out1 := h1
    unfold oK at h1
    obtain ⟨E1, hE, hO⟩ := KW hg
    refine KP (RL (hO.gm 0 _ rfl).2 (by kernel_rfl) (by kernel_rfl) ?_)
    refine mD [(2, (.rp (yv yield0_b))), (9, (.fn (.func 47) [] [(.rp (eL aO t9c0))])), (10, (eL aM t10)), (11, (eL aL t11))] ?_
    refine aY aF 1 [9, 10] [(3, (eL aM t10))] ?_
    refine aU aF 1 ?_
    refine bG ?_
    refine fG [(2, (.rp (yv yield0_b))), (3, (eL aM t10)), (4, (eL aL t11))] ?_
    refine aK (⟨rfl, rfl, (hO.gm 0 _ rfl).2, ?_⟩)
    intro o1 ho1
    replace hO := hO.uY o1
    refine cH 1 ?_
    refine aP ?_
    refine aU aF 5 ?_
    refine bQ 3 ?_
    obtain ⟨x7, hx8, h1⟩ := aZ h1
    refine aFa (I := I) (yv yield0_b) [(eL aM t10), (eL aL t11)] (aG x7.2) (by kernel_rfl) (by kernel_rfl) (yield0_h _ t10 t11 x7.1 x7.2 hx8) hO hI ?_
    intro G H hO hI
    refine bG ?_
    refine bC [(16, (aG (!x7.2)))] ?_
    refine bW h1 (fun h1 => ?_) (fun h1 => ?_)
    · refine bR ?_
      refine fG [] ?_
      obtain rfl := oI h1
      exact aK (bV (⟨(qN hO hE ho1 .dead).1, rfl, _, ⟨G, hI, rfl⟩, (qN hO hE ho1 _).2⟩))
    refine bT ?_
    refine fG [] ?_
    obtain rfl := oI h1
    exact aK (bD (⟨(qN hO hE ho1 .dead).1, rfl, _, ⟨G, hI, rfl⟩, (qN hO hE ho1 _).2⟩))
  · intro b lD10 lL H' G' hi hO
    rcases o0 with s | s
    · dsimp only [Sum.elim_inl] at hi
      obtain ⟨G, hI, rfl⟩ := hi
      replace h0 : (some s) = some r := h0
      obtain ⟨hlL, hO⟩ := yF hO
      refine ⟨_, _, hlL, (by intro e; cases e), ?_⟩
      obtain rfl := oI h0
      have hD := (hO.gm 0 _ rfl).2
      replace hO := (hO.uY .dead).rX
      exact aK (bD (QM1 (.inl rfl) hD (rs := []) (xs := []) (x := (.tup [])) (by kernel_rfl) vT (by kernel_rfl) ⟨rfl, G, hI, hO.HD⟩))
    · dsimp only [Sum.elim_inr] at hi
      obtain ⟨G, hI, rfl⟩ := hi
      replace h0 : (some s) = some r := h0
      obtain ⟨hlL, hO⟩ := yF hO
      refine ⟨_, _, hlL, (by intro e; cases e), ?_⟩
      refine bR ?_
      obtain rfl := oI h0
      have hD := (hO.gm 0 _ rfl).2
      replace hO := (hO.uY .dead).rX
      exact aK (bV (QM1 (.inr rfl) hD (rs := []) (xs := []) (x := (.tup [])) (by kernel_rfl) vT (by kernel_rfl) ⟨rfl, G, hI, hO.HD⟩))

theorem wK {σ : Type} (I : σ → Gs → Prop) (s0 : (List aI)) (f1_v : V) (f1 : σ → aI → Option (σ × Bool)) (f1_h : ∀ st a0 st2 r, f1 st a0 = some (st2, r) → GC Try.prog f1_v I st [(aO a0)] st2 (aG r)) (sg0 : σ) (r : (σ × Int)) (h0 : lJ s0 f1 sg0 = some r) : vH Try.prog 29 I sg0 [(eL aO s0), f1_v] r.1 (eI r.2) := by
  intro H0 G0 hI hg
  refine dP Try.func29 ?_
  obtain ⟨G, hO, hI⟩ : ∃ G, aN ⟨H0, List.map (fun p : Nat × dS => p.1) G0, G⟩ H0 [] ∧ I sg0 G := ⟨G0, aN.LN hg, hI⟩
  clear hg
  unfold lJ at h0
  refine aY aF 1 [] [] ?_
  refine lT (fun T H => ∃ sg : σ, ∃ G : Gs, Has T [] ∧ aN ⟨H0, List.map (fun p : Nat × dS => p.1) G0, G⟩ H [] ∧ I sg G ∧ kY f1 sg = some r) ?_ ?_
  · clear hO hI h0
    rintro T H ⟨sg, G, hT, hO, hI, h0⟩
    refine bO hT ?_
    clear hT
    unfold kY at h0
    refine cJ aF 1 [(4, (eI (-1 : Int)))] ?_
    refine bR ?_
    obtain rfl := oI h0
    exact aK (nF (x := (eI (-1 : Int))) (by kernel_rfl) (aQ.refl _) ⟨rfl, G, hI, hO.HD⟩)
  refine aY aF 3 [] [(7, (eI (lN s0))), (8, (eI (0 : Int)))] ?_
  refine cH 0 ?_
  refine mD [(0, (eL aO s0)), (1, f1_v), (7, (eI (lN s0))), (8, (eI (0 : Int)))] ?_
  refine kZ (fun T H => ∃ sg : σ, ∃ t7 : Int, ∃ t8 : Int, ∃ G : Gs, Has T [(0, (eL aO s0)), (1, f1_v), (7, (eI t7)), (8, (eI t8))] ∧ aN ⟨H0, List.map (fun p : Nat × dS => p.1) G0, G⟩ H [] ∧ I sg G ∧ lB f1 sg s0 t7 t8 = some r) ?_ ⟨sg0, (lN s0), (0 : Int), G, bF, hO, hI, h0⟩
  clear hO hI h0
  rintro T H ⟨sg, t7, t8, G, hT, hO, hI, h0⟩
  refine bO hT ?_
  clear hT
  unfold lB at h0
  obtain ⟨rr0, hl0, h0⟩ := aZ h0
  refine mQ (fun (s : σ × Int) T H => ∃ G : Gs, Has T [(0, (eL aO s0)), (1, f1_v), (7, (eI t7)), (8, (eI s.2))] ∧ aN ⟨H0, List.map (fun p : Nat × dS => p.1) G0, G⟩ H [] ∧ I s.1 G) hl0 ⟨G, bF, hO, hI⟩ ?_
  clear hO hI
  rintro k0 s out1 T H ⟨G, hT, hO, hI⟩ h1 ho0
  obtain ⟨sg, t8⟩ := s
  replace h1 : dL f1 s0 t7 sg t8 = some out1 := h1
  try dsimp only at hT
  refine bO hT ?_
  clear hT
  unfold dL at h1
  refine aY aF 1 [] [(9, (aG (decide (t8 < t7))))] ?_
  refine aP ?_
  refine bW h1 (fun h1 => ?_) (fun h1 => ?_)
  · refine bT ?_
    refine bC [(0, (eL aO s0)), (1, f1_v), (7, (eI t7)), (8, (eI t8))] ?_
    refine aP ?_
    refine cH 1 ?_
    refine aY aF 2 [] [(5, (eI t8))] ?_
    refine aP ?_
    refine aU aF 6 ?_
    obtain ⟨c2, h1⟩ := bB h1
    refine AV 5 [0 ≤ t8 ∧ t8 < (lN s0)] ⟨c2, trivial⟩ ?_
    obtain ⟨x3, hx4, h1⟩ := aZ h1
    refine PT (I := I) f1_v [(aO (gD s0 t8))] (aG x3.2) (by kernel_rfl) (by kernel_rfl) (f1_h _ (gD s0 t8) x3.1 x3.2 hx4) hO hI ?_
    intro G H hO hI
    refine eW ?_
    refine cQ [] [(16, (aG x3.2))] ?_
    refine bW h1 (fun h1 => ?_) (fun h1 => ?_)
    · refine cJ aF 2 [(4, (eI t8))] ?_
      refine bR ?_
      obtain rfl := oI h1
      obtain rfl : _ = rr0 := ho0
      replace h0 : some (x3.1, t8) = some r := h0
      obtain rfl := oI h0
      exact aK (bV (aV (aV (bV (aV (nF (x := (eI t8)) (by kernel_rfl) (aQ.refl _) ⟨rfl, G, hI, hO.HD⟩))))))
    refine bT ?_
    refine fG [(0, (eL aO s0)), (1, f1_v), (7, (eI t7)), (8, (eI t8))] ?_
    refine aK (bD (aJ (?_)))
    refine aU aF 2 ?_
    refine bG ?_
    exact aK (aJ (⟨rfl, _, (oI h1).symm, _, bF, hO, hI⟩))
  refine lM 0 ?_
  obtain rfl := oI h1
  obtain rfl : _ = rr0 := ho0
  replace h0 : kY f1 sg = some r := h0
  exact aK (aX (aX (cC (aJ (⟨rfl, _, _, bF, hO, hI, h0⟩)))))

theorem uR {σ : Type} (I : σ → Gs → Prop) (s0 : (List aI)) (f1_v : V) (f1 : σ → aI → Option (σ × Bool)) (f1_h : ∀ st a0 st2 r, f1 st a0 = some (st2, r) → GC Try.prog f1_v I st [(aO a0)] st2 (aG r)) (sg0 : σ) (r : (σ × Bool)) (h0 : fN s0 f1 sg0 = some r) : vH Try.prog 14 I sg0 [(eL aO s0), f1_v] r.1 (aG r.2) := by
  intro H0 G0 hI hg
  refine dP Try.func14 ?_
  obtain ⟨G, hO, hI⟩ : ∃ G, aN ⟨H0, List.map (fun p : Nat × dS => p.1) G0, G⟩ H0 [] ∧ I sg0 G := ⟨G0, aN.LN hg, hI⟩
  clear hg
  unfold fN at h0
  refine aY aF 1 [] [] ?_
  refine aP ?_
  refine aU aF 5 ?_
  refine bQ 2 ?_
  obtain ⟨x1, hx2, h0⟩ := aZ h0
  refine PT (I := I) (.fn (.func 29) [] []) [(eL aO s0), f1_v] (eI x1.2) (by kernel_rfl) (by kernel_rfl) (vH.toV (wK I s0 f1_v f1 f1_h sg0 _ hx2)) hO hI ?_
  intro G H hO hI
  refine bG ?_
  refine bC [(4, (aG (decide ((0 : Int) ≤ x1.2))))] ?_
  refine bR ?_
  obtain rfl := oI h0
  exact aK (nF (x := (aG (decide ((0 : Int) ≤ x1.2)))) (by kernel_rfl) (aQ.refl _) ⟨rfl, G, hI, hO.HD⟩)

theorem NJ (x0 : Int) (r : (List Int)) (h0 : xE x0 = some r) : LZ Try.prog 96 [(bN .u64 x0)] (fun lo => (.msl 1 lo 0 (List.length r))) 1 (List.map (bN .u8) r) := by
  intro H0
  refine dP Try.func96 ?_
  have hO := aN.start H0
  unfold xE at h0
  refine aY aF 1 [] [] ?_
  refine aP ?_
  refine aU aF 2 ?_
  refine wN [] 1 ?_
  refine bG ?_
  refine cQ [] [(3, (.sl true 0 (fun _ => .bad)))] ?_
  refine lT (fun T H => ∃ x0 : Int, ∃ out3 : List Int, ∃ lo1 : Nat, Has T [(0, (bN .u64 x0)), (3, (.msl 1 lo1 0 (List.length out3)))] ∧ aN ⟨H0, [], []⟩ H [(lo1, 1, List.map (bN .u8) out3)] ∧ tE x0 out3 = some r) ?_ ?_
  · clear hO h0
    rintro T H ⟨x0, out3, lo1, hT, hO, h0⟩
    refine bO hT ?_
    clear hT
    unfold tE at h0
    refine aP ?_
    refine aU aF 6 ?_
    refine bQ 3 ?_
    refine wN [(bN .u8 (IntKind.u8.wrap x0))] 1 ?_
    obtain ⟨c3, h0⟩ := bB h0
    refine FH (bN .u8) out3 ([IntKind.u8.wrap x0]) 0 lo1 1 1 (dR [(bN .u8 (IntKind.u8.wrap x0))]) (fun lo2 => [(lo2, 1, List.map (bN .u8) (out3 ++ ([IntKind.u8.wrap x0])))]) hO (by kernel_rfl) c3 ?_
    intro lo2 H hO
    refine bG ?_
    refine bC [(2, (.msl 1 lo2 0 (List.length (out3 ++ ([IntKind.u8.wrap x0])))))] ?_
    refine bR ?_
    obtain rfl := oI h0
    exact aK (nF (x := (.msl 1 lo2 0 (List.length (out3 ++ ([IntKind.u8.wrap x0]))))) (by kernel_rfl) (aQ.refl _) ⟨lo2, rfl, hO⟩)
  refine cH 0 ?_
  refine mD [(0, (bN .u64 x0)), (3, (.sl true 0 (fun _ => .bad)))] ?_
  refine SP (el := (fun _ => .bad)) 1 3 1 hO (by kernel_rfl) ?_
  intro lo10 H11 hO
  refine kZ (fun T H => ∃ x0 : Int, ∃ out3 : List Int, ∃ lo5 : Nat, Has T [(0, (bN .u64 x0)), (3, (.msl 1 lo5 0 (List.length out3)))] ∧ aN ⟨H0, [], []⟩ H [(lo5, 1, List.map (bN .u8) out3)] ∧ FL x0 out3 = some r) ?_ ⟨x0, ([] : List Int), lo10, bF, hO, h0⟩
  clear hO h0
  rintro T H ⟨x0, out3, lo5, hT, hO, h0⟩
  refine bO hT ?_
  clear hT
  unfold FL at h0
  obtain ⟨rr0, hl0, h0⟩ := aZ h0
  refine mQ (fun (s : Int × List Int) T H => ∃ lo5 : Nat, Has T [(0, (bN .u64 s.1)), (3, (.msl 1 lo5 0 (List.length s.2)))] ∧ aN ⟨H0, [], []⟩ H [(lo5, 1, List.map (bN .u8) s.2)]) hl0 ⟨lo5, bF, hO⟩ ?_
  clear hO
  rintro k0 s out1 T H ⟨lo5, hT, hO⟩ h1 ho0
  obtain ⟨x0, out3⟩ := s
  replace h1 : tJ x0 out3 = some out1 := h1
  try dsimp only at hT
  refine bO hT ?_
  clear hT
  unfold tJ at h1
  refine aP ?_
  refine aY aF 2 [] [(6, (aG (decide ((128 : Int) ≤ x0))))] ?_
  refine bW h1 (fun h1 => ?_) (fun h1 => ?_)
  · refine bT ?_
    refine bC [(0, (bN .u64 x0)), (3, (.msl 1 lo5 0 (List.length out3)))] ?_
    refine cH 1 ?_
    refine aP ?_
    refine aU aF 7 ?_
    refine bQ 4 ?_
    refine wN [(bN .u8 (bM .or .u8 (IntKind.u8.wrap x0) (128 : Int)))] 1 ?_
    obtain ⟨c8, h1⟩ := bB h1
    refine FH (bN .u8) out3 ([bM .or .u8 (IntKind.u8.wrap x0) (128 : Int)]) 0 lo5 1 1 (dR [(bN .u8 (bM .or .u8 (IntKind.u8.wrap x0) (128 : Int)))]) (fun lo7 => [(lo7, 1, List.map (bN .u8) (out3 ++ ([bM .or .u8 (IntKind.u8.wrap x0) (128 : Int)])))]) hO (by kernel_rfl) c8 ?_
    intro lo7 H hO
    refine bG ?_
    refine cQ [3] [(3, (.msl 1 lo7 0 (List.length (out3 ++ ([bM .or .u8 (IntKind.u8.wrap x0) (128 : Int)])))))] ?_
    refine aU aF 3 ?_
    obtain ⟨c9, h1⟩ := bB h1
    refine sW [0 ≤ (7 : Int)] ⟨c9, trivial⟩ ?_
    exact aK (bD (aJ (⟨rfl, _, (oI h1).symm, _, bF, hO⟩)))
  refine lM 0 ?_
  obtain rfl := oI h1
  obtain rfl : _ = rr0 := ho0
  replace h0 : tE x0 out3 = some r := h0
  exact aK (aX (aX (cC (aJ (⟨rfl, _, _, _, bF, hO, h0⟩)))))

theorem aDT (n0 : Int) (r : (List Int)) (h0 : IW n0 = some r) : dK Try.prog 95 [(eI n0)] (eL (bN .u8) r) := by
  intro H0
  refine dP Try.func95 ?_
  have hO := aN.start H0
  unfold IW at h0
  refine aY aF 1 [] [] ?_
  refine aP ?_
  refine aU aF 9 ?_
  obtain ⟨c1, h0⟩ := bB h0
  obtain ⟨c2, h0⟩ := bB h0
  refine AV 7 [0 ≤ (1 : Int), 0 ≤ (63 : Int)] ⟨c1, c2, trivial⟩ ?_
  obtain ⟨x3, hx4, h0⟩ := aZ h0
  refine LK (L' := fun lo5 => [(lo5, 1, List.map (bN .u8) x3)]) 1 (List.map (bN .u8) x3) 96 [(bN .u64 (bM .xor .u64 (IntKind.u64.wrap ((IntKind.u64.wrap n0) * 2 ^ (min (Int.toNat (1 : Int)) 64))) (IntKind.u64.wrap (Int.fdiv n0 (2 ^ (min (Int.toNat (63 : Int)) 64))))))] (fun lo5 => (.msl 1 lo5 0 (List.length x3))) (by kernel_rfl) (by kernel_rfl) (NJ (bM .xor .u64 (IntKind.u64.wrap ((IntKind.u64.wrap n0) * 2 ^ (min (Int.toNat (1 : Int)) 64))) (IntKind.u64.wrap (Int.fdiv n0 (2 ^ (min (Int.toNat (63 : Int)) 64))))) _ hx4) hO (fun _ => by kernel_rfl) ?_
  intro lo5 H hO
  refine bG ?_
  refine bC [(2, (.msl 1 lo5 0 (List.length x3)))] ?_
  refine bR ?_
  refine fG [(2, (.msl 1 lo5 0 (List.length x3)))] ?_
  refine tK (en := (bN .u8)) x3 0 0 2 1 lo5 (List.length x3) hO (by kernel_rfl) (by kernel_rfl) (by kernel_rfl) (L' := []) (by kernel_rfl) ?_
  intro H6 hO
  obtain rfl := oI h0
  exact aK (Q_r hO)

theorem LX (n0 : Int) (r : (List Int)) (h0 : qH n0 = some r) : dK Try.prog 93 [(eI n0)] (eL (bN .u8) r) := by
  intro H0
  refine dP Try.func93 ?_
  have hO := aN.start H0
  unfold qH at h0
  refine aY aF 1 [] [] ?_
  refine aP ?_
  refine aU aF 5 ?_
  refine ZI [(bN .u8 (1 : Int))] 1 hO ?_
  intro lo1 H hO
  replace hO : aN ⟨H0, [], []⟩ H [(lo1, 1, List.map (bN .u8) ([(1 : Int)]))] := hO
  refine bQ 2 ?_
  obtain ⟨x2, hx3, h0⟩ := aZ h0
  refine iY (aDT n0 _ hx3) hO ?_
  intro H hO
  obtain ⟨c6, h0⟩ := bB h0
  refine FH (bN .u8) ([(1 : Int)]) x2 0 lo1 1 1 (eL (bN .u8) x2) (fun lo5 => [(lo5, 1, List.map (bN .u8) (([(1 : Int)]) ++ x2))]) hO (DM (fun _ => by kernel_rfl)) c6 ?_
  intro lo5 H hO
  refine bG ?_
  refine bC [(2, (.msl 1 lo5 0 (List.length (([(1 : Int)]) ++ x2))))] ?_
  refine bR ?_
  refine fG [(2, (.msl 1 lo5 0 (List.length (([(1 : Int)]) ++ x2))))] ?_
  refine tK (en := (bN .u8)) (([(1 : Int)]) ++ x2) 0 0 2 1 lo5 (List.length (([(1 : Int)]) ++ x2)) hO (by kernel_rfl) (by kernel_rfl) (by kernel_rfl) (L' := []) (by kernel_rfl) ?_
  intro H7 hO
  obtain rfl := oI h0
  exact aK (Q_r hO)

theorem aD1 (n0 : Int) (r : (List Int)) (h0 : JL n0 = some r) : LZ Try.prog 100 [(eI n0)] (fun lo => (.msl 1 lo 0 (List.length r))) 1 (List.map (bN .u8) r) := by
  intro H0
  refine dP Try.func100 ?_
  have hO := aN.start H0
  unfold JL at h0
  refine aY aF 1 [] [] ?_
  refine aP ?_
  refine aY aF 2 [] [(4, (aG (decide (n0 < (0 : Int)))))] ?_
  refine bW h0 (fun h0 => ?_) (fun h0 => ?_)
  · refine cJ aF 1 [(2, (.sl true 0 (fun _ => .bad)))] ?_
    refine bR ?_
    refine fG [(2, (.sl true 0 (fun _ => .bad)))] ?_
    refine PB (el := (fun _ => .bad)) 0 2 1 hO (by kernel_rfl) ?_
    intro lo2 H3 hO
    obtain rfl := oI h0
    exact aK (aV (nF (x := (.msl 1 lo2 0 (List.length ([] : List Int)))) (by kernel_rfl) (aQ.refl _) ⟨lo2, rfl, hO⟩))
  refine bT ?_
  refine bC [(0, (eI n0))] ?_
  refine aP ?_
  refine aU aF 4 ?_
  refine bQ 2 ?_
  obtain ⟨x4, hx5, h0⟩ := aZ h0
  refine LK (L' := fun lo6 => [(lo6, 1, List.map (bN .u8) x4)]) 1 (List.map (bN .u8) x4) 96 [(bN .u64 (IntKind.u64.wrap n0))] (fun lo6 => (.msl 1 lo6 0 (List.length x4))) (by kernel_rfl) (by kernel_rfl) (NJ (IntKind.u64.wrap n0) _ hx5) hO (fun _ => by kernel_rfl) ?_
  intro lo6 H hO
  refine bG ?_
  refine bC [(2, (.msl 1 lo6 0 (List.length x4)))] ?_
  refine bR ?_
  obtain rfl := oI h0
  exact aK (nF (x := (.msl 1 lo6 0 (List.length x4))) (by kernel_rfl) (aQ.refl _) ⟨lo6, rfl, hO⟩)

theorem aCK (s0 : ByteArray) (r : (List Int)) (h0 : FW s0 = some r) : dK Try.prog 99 [(pZ s0)] (eL (bN .u8) r) := by
  intro H0
  refine dP Try.func99 ?_
  have hO := aN.start H0
  unfold FW at h0
  refine cJ aF 1 [(0, (pZ s0))] ?_
  refine aP ?_
  refine aU aF 6 ?_
  refine bQ 2 ?_
  obtain ⟨x1, hx2, h0⟩ := aZ h0
  refine LK (L' := fun lo3 => [(lo3, 1, List.map (bN .u8) x1)]) 1 (List.map (bN .u8) x1) 100 [(eI ((ByteArray.size s0 : Nat) : Int))] (fun lo3 => (.msl 1 lo3 0 (List.length x1))) (by kernel_rfl) (by kernel_rfl) (aD1 ((ByteArray.size s0 : Nat) : Int) _ hx2) hO (fun _ => by kernel_rfl) ?_
  intro lo3 H hO
  refine bQ 4 ?_
  obtain ⟨c5, h0⟩ := bB h0
  refine aHl aF x1 s0 0 lo3 (fun lo4 => [(lo4, 1, List.map (bN .u8) (x1 ++ (List.map (fun b => ((UInt8.toNat b : Nat) : Int)) (ByteArray.data s0).toList)))]) hO c5 ?_
  intro lo4 H hO
  refine bG ?_
  refine bC [(2, (.msl 1 lo4 0 (List.length (x1 ++ (List.map (fun b => ((UInt8.toNat b : Nat) : Int)) (ByteArray.data s0).toList)))))] ?_
  refine bR ?_
  refine fG [(2, (.msl 1 lo4 0 (List.length (x1 ++ (List.map (fun b => ((UInt8.toNat b : Nat) : Int)) (ByteArray.data s0).toList)))))] ?_
  refine tK (en := (bN .u8)) (x1 ++ (List.map (fun b => ((UInt8.toNat b : Nat) : Int)) (ByteArray.data s0).toList)) 0 0 2 1 lo4 (List.length (x1 ++ (List.map (fun b => ((UInt8.toNat b : Nat) : Int)) (ByteArray.data s0).toList))) hO (by kernel_rfl) (by kernel_rfl) (by kernel_rfl) (L' := []) (by kernel_rfl) ?_
  intro H6 hO
  obtain rfl := oI h0
  exact aK (Q_r hO)

theorem MZ (w0 : ByteArray) (r : (List Int)) (h0 : qP w0 = some r) : dK Try.prog 97 [(pZ w0)] (eL (bN .u8) r) := by
  intro H0
  refine dP Try.func97 ?_
  have hO := aN.start H0
  unfold qP at h0
  refine cJ aF 1 [(0, (pZ w0))] ?_
  refine aP ?_
  refine aU aF 5 ?_
  refine ZI [(bN .u8 (2 : Int))] 1 hO ?_
  intro lo1 H hO
  replace hO : aN ⟨H0, [], []⟩ H [(lo1, 1, List.map (bN .u8) ([(2 : Int)]))] := hO
  refine bQ 2 ?_
  obtain ⟨x2, hx3, h0⟩ := aZ h0
  refine iY (aCK w0 _ hx3) hO ?_
  intro H hO
  obtain ⟨c6, h0⟩ := bB h0
  refine FH (bN .u8) ([(2 : Int)]) x2 0 lo1 1 1 (eL (bN .u8) x2) (fun lo5 => [(lo5, 1, List.map (bN .u8) (([(2 : Int)]) ++ x2))]) hO (DM (fun _ => by kernel_rfl)) c6 ?_
  intro lo5 H hO
  refine bG ?_
  refine bC [(2, (.msl 1 lo5 0 (List.length (([(2 : Int)]) ++ x2))))] ?_
  refine bR ?_
  refine fG [(2, (.msl 1 lo5 0 (List.length (([(2 : Int)]) ++ x2))))] ?_
  refine tK (en := (bN .u8)) (([(2 : Int)]) ++ x2) 0 0 2 1 lo5 (List.length (([(2 : Int)]) ++ x2)) hO (by kernel_rfl) (by kernel_rfl) (by kernel_rfl) (L' := []) (by kernel_rfl) ?_
  intro H7 hO
  obtain rfl := oI h0
  exact aK (Q_r hO)

theorem XF (v0 : aE) (r : (List Int)) (h0 : vZ v0 = some r) : dK Try.prog 50 [(aM v0)] (eL (bN .u8) r) := by
  intro H0
  refine dP Try.func50 ?_
  have hO := aN.start H0
  unfold vZ at h0
  refine aP ?_
  refine aU aF 2 ?_
  refine xG 3 (aM v0) ?_
  refine bG ?_
  refine bC [(1, (.rp (aM v0)))] ?_
  refine aP ?_
  refine aU aF 7 ?_
  refine bQ 1 ?_
  obtain ⟨⟨x1_0, x1_1⟩, hx2, h0⟩ := aZ h0
  refine iY (yG v0 _ hx2) hO ?_
  intro H hO
  rcases x1_0 with _ | y4 | y5
  · replace h0 : (cond (!x1_1) (some ([])) (none)) = some r := h0
    refine bG ?_
    refine bC [(3, (bE bI.none_)), (4, (aG x1_1))] ?_
    refine aP ?_
    refine aY aF 2 [4] [(11, (aG (!x1_1)))] ?_
    refine bW h0 (fun h0 => ?_) (fun h0 => ?_)
    · refine cJ aF 1 [(2, (.sl true 0 (fun _ => .bad)))] ?_
      refine bR ?_
      refine dX (l := [(2, (eL (bN .u8) ([])))]) ⟨[(2, (.sl true 0 (fun _ => .bad)))], by kernel_rfl, rfl, ⟨lU, trivial⟩⟩ ?_
      obtain rfl := oI h0
      exact aK (aV (Q_r hO))
    refine bT ?_
    refine bC [(3, (bE bI.none_))] ?_
    refine aP ?_
    refine aU aF 3 ?_
    refine bQ 1 ?_
    cases h0
  · replace h0 : (cond (!x1_1) (some ([])) ((qH y4).bind fun x8 => some x8)) = some r := h0
    refine bG ?_
    refine bC [(3, (bE (bI.k_number y4))), (4, (aG x1_1))] ?_
    refine aP ?_
    refine aY aF 2 [4] [(11, (aG (!x1_1)))] ?_
    refine bW h0 (fun h0 => ?_) (fun h0 => ?_)
    · refine cJ aF 1 [(2, (.sl true 0 (fun _ => .bad)))] ?_
      refine bR ?_
      refine dX (l := [(2, (eL (bN .u8) ([])))]) ⟨[(2, (.sl true 0 (fun _ => .bad)))], by kernel_rfl, rfl, ⟨lU, trivial⟩⟩ ?_
      obtain rfl := oI h0
      exact aK (aV (Q_r hO))
    refine bT ?_
    refine bC [(3, (bE (bI.k_number y4)))] ?_
    refine aP ?_
    refine aU aF 3 ?_
    refine bQ 1 ?_
    obtain ⟨x8, hx9, h0⟩ := aZ h0
    refine aFk (name := "rescind/value.bytes") (t := 105) (fid := 93) (by kernel_rfl) (LX y4 _ hx9) hO ?_
    intro H hO
    refine bG ?_
    refine bC [(2, (eL (bN .u8) x8))] ?_
    refine bR ?_
    obtain rfl := oI h0
    exact aK (Q_r hO)
  · replace h0 : (cond (!x1_1) (some ([])) ((qP y5).bind fun x11 => some x11)) = some r := h0
    refine bG ?_
    refine bC [(3, (bE (bI.k_words y5))), (4, (aG x1_1))] ?_
    refine aP ?_
    refine aY aF 2 [4] [(11, (aG (!x1_1)))] ?_
    refine bW h0 (fun h0 => ?_) (fun h0 => ?_)
    · refine cJ aF 1 [(2, (.sl true 0 (fun _ => .bad)))] ?_
      refine bR ?_
      refine dX (l := [(2, (eL (bN .u8) ([])))]) ⟨[(2, (.sl true 0 (fun _ => .bad)))], by kernel_rfl, rfl, ⟨lU, trivial⟩⟩ ?_
      obtain rfl := oI h0
      exact aK (aV (Q_r hO))
    refine bT ?_
    refine bC [(3, (bE (bI.k_words y5)))] ?_
    refine aP ?_
    refine aU aF 3 ?_
    refine bQ 1 ?_
    obtain ⟨x11, hx12, h0⟩ := aZ h0
    refine aFk (name := "rescind/value.bytes") (t := 109) (fid := 97) (by kernel_rfl) (MZ y5 _ hx12) hO ?_
    intro H hO
    refine bG ?_
    refine bC [(2, (eL (bN .u8) x11))] ?_
    refine bR ?_
    obtain rfl := oI h0
    exact aK (Q_r hO)

theorem aBr (r0 : (List aE)) (r : (List Int)) (h0 : AP r0 = some r) : dK Try.prog 32 [(eL aM r0)] (eL (bN .u8) r) := by
  intro H0
  refine dP Try.func32 ?_
  have hO := aN.start H0
  unfold AP at h0
  refine aY aF 1 [] [] ?_
  refine aP ?_
  refine aP ?_
  refine aU aF 3 ?_
  refine bQ 1 ?_
  obtain ⟨x1, hx2, h0⟩ := aZ h0
  refine iY (ES r0 _ hx2) hO ?_
  intro H hO
  refine bG ?_
  refine cQ [] [(8, (aG (!x1)))] ?_
  refine bW h0 (fun h0 => ?_) (fun h0 => ?_)
  · refine cJ aF 1 [(2, (.sl true 0 (fun _ => .bad)))] ?_
    refine bR ?_
    refine dX (l := [(2, (eL (bN .u8) ([])))]) ⟨[(2, (.sl true 0 (fun _ => .bad)))], by kernel_rfl, rfl, ⟨lU, trivial⟩⟩ ?_
    obtain rfl := oI h0
    exact aK (aV (Q_r hO))
  refine bT ?_
  refine bC [(0, (eL aM r0))] ?_
  refine aP ?_
  refine aU aF 5 ?_
  refine bQ 3 ?_
  refine ZI [(bN .u8 (IntKind.u8.wrap (lN r0)))] 1 hO ?_
  intro lo5 H hO
  replace hO : aN ⟨H0, [], []⟩ H [(lo5, 1, List.map (bN .u8) ([IntKind.u8.wrap (lN r0)]))] := hO
  refine bG ?_
  refine cQ [] [(3, (.msl 1 lo5 0 (List.length ([IntKind.u8.wrap (lN r0)]))))] ?_
  refine lT (fun T H => ∃ out3 : List Int, ∃ lo6 : Nat, Has T [(3, (.msl 1 lo6 0 (List.length out3)))] ∧ aN ⟨H0, [], []⟩ H [(lo6, 1, List.map (bN .u8) out3)] ∧ CA out3 = some r) ?_ ?_
  · clear hO h0
    rintro T H ⟨out3, lo6, hT, hO, h0⟩
    refine bO hT ?_
    clear hT
    unfold CA at h0
    refine cJ aF 2 [(2, (.msl 1 lo6 0 (List.length out3)))] ?_
    refine bR ?_
    refine fG [(2, (.msl 1 lo6 0 (List.length out3)))] ?_
    refine tK (en := (bN .u8)) out3 0 0 2 1 lo6 (List.length out3) hO (by kernel_rfl) (by kernel_rfl) (by kernel_rfl) (L' := []) (by kernel_rfl) ?_
    intro H7 hO
    obtain rfl := oI h0
    exact aK (Q_r hO)
  refine aY aF 3 [0] [(13, (eL aM r0)), (14, (eI (lN r0))), (15, (eI (0 : Int)))] ?_
  refine cH 0 ?_
  refine mD [(3, (.msl 1 lo5 0 (List.length ([IntKind.u8.wrap (lN r0)])))), (13, (eL aM r0)), (14, (eI (lN r0))), (15, (eI (0 : Int)))] ?_
  refine kZ (fun T H => ∃ out3 : List Int, ∃ t13 : (List aE), ∃ t14 : Int, ∃ t15 : Int, ∃ lo9 : Nat, Has T [(3, (.msl 1 lo9 0 (List.length out3))), (13, (eL aM t13)), (14, (eI t14)), (15, (eI t15))] ∧ aN ⟨H0, [], []⟩ H [(lo9, 1, List.map (bN .u8) out3)] ∧ CG out3 t13 t14 t15 = some r) ?_ ⟨[IntKind.u8.wrap (lN r0)], r0, (lN r0), (0 : Int), lo5, bF, hO, h0⟩
  clear hO h0
  rintro T H ⟨out3, t13, t14, t15, lo9, hT, hO, h0⟩
  refine bO hT ?_
  clear hT
  unfold CG at h0
  obtain ⟨rr0, hl0, h0⟩ := aZ h0
  refine mQ (fun (s : List Int × Int) T H => ∃ lo9 : Nat, Has T [(3, (.msl 1 lo9 0 (List.length s.1))), (13, (eL aM t13)), (14, (eI t14)), (15, (eI s.2))] ∧ aN ⟨H0, [], []⟩ H [(lo9, 1, List.map (bN .u8) s.1)]) hl0 ⟨lo9, bF, hO⟩ ?_
  clear hO
  rintro k0 s out1 T H ⟨lo9, hT, hO⟩ h1 ho0
  obtain ⟨out3, t15⟩ := s
  replace h1 : xT t13 t14 out3 t15 = some out1 := h1
  try dsimp only at hT
  refine bO hT ?_
  clear hT
  unfold xT at h1
  refine aY aF 1 [] [(16, (aG (decide (t15 < t14))))] ?_
  refine aP ?_
  refine bW h1 (fun h1 => ?_) (fun h1 => ?_)
  · refine bT ?_
    refine bC [(3, (.msl 1 lo9 0 (List.length out3))), (13, (eL aM t13)), (14, (eI t14)), (15, (eI t15))] ?_
    refine aP ?_
    refine cH 1 ?_
    refine aP ?_
    refine aU aF 4 ?_
    obtain ⟨c11, h1⟩ := bB h1
    refine AV 2 [0 ≤ t15 ∧ t15 < (lN t13)] ⟨c11, trivial⟩ ?_
    refine qT 3 (aM (aE.mk 0 0 ByteArray.empty)) (by kernel_rfl) (by kernel_rfl) hO ?_
    intro lo12 H hO
    refine pI 1 lo12 3 0 (aM (aE.mk 0 0 ByteArray.empty)) (aM (gD t13 t15)) [(aM (aE.mk 0 0 ByteArray.empty))] [(lo9, 1, List.map (bN .u8) out3), (lo12, 3, [(aM (gD t13 t15))])] hO rfl (by kernel_rfl) ?_
    intro H hO
    refine eW ?_
    refine cQ [] [(5, (.lp lo12 0 0))] ?_
    refine aU aF 5 ?_
    refine bQ 1 ?_
    refine oH 1 lo12 3 0 (aM (gD t13 t15)) (aM (gD t13 t15)) [(aM (gD t13 t15))] hO rfl ?_
    obtain ⟨x13, hx14, h1⟩ := aZ h1
    refine iY (XF (gD t13 t15) _ hx14) hO ?_
    intro H hO
    obtain ⟨c17, h1⟩ := bB h1
    refine FH (bN .u8) out3 x13 0 lo9 1 1 (eL (bN .u8) x13) (fun lo16 => [(lo16, 1, List.map (bN .u8) (out3 ++ x13)), (lo12, 3, [(aM (gD t13 t15))])]) hO (DM (fun _ => by kernel_rfl)) c17 ?_
    intro lo16 H hO
    refine bG ?_
    refine fG [(3, (.msl 1 lo16 0 (List.length (out3 ++ x13)))), (13, (eL aM t13)), (14, (eI t14)), (15, (eI t15))] ?_
    replace hO := hO.pick (L' := [(lo16, 1, List.map (bN .u8) (out3 ++ x13))]) [0] (by decide) (by kernel_rfl)
    refine aK (bD (aJ (?_)))
    refine aU aF 2 ?_
    refine bG ?_
    exact aK (aJ (⟨rfl, _, (oI h1).symm, _, bF, hO⟩))
  refine lM 0 ?_
  obtain rfl := oI h1
  obtain rfl : _ = rr0 := ho0
  replace h0 : CA out3 = some r := h0
  exact aK (aX (aX (cC (aJ (⟨rfl, _, _, bF, hO, h0⟩)))))

theorem VY (r0 : (List aE)) (r : ByteArray) (h0 : BS r0 = some r) : dK Try.prog 17 [(eL aM r0)] (pZ r) := by
  intro H0
  refine dP Try.func17 ?_
  have hO := aN.start H0
  unfold BS at h0
  refine aY aF 1 [] [] ?_
  refine aP ?_
  refine aU aF 4 ?_
  refine bQ 1 ?_
  obtain ⟨x1, hx2, h0⟩ := aZ h0
  refine iY (aBr r0 _ hx2) hO ?_
  intro H hO
  refine aHj x1 ?_
  refine bG ?_
  refine bC [(2, (pZ (strOfNums x1)))] ?_
  refine bR ?_
  obtain rfl := oI h0
  exact aK (Q_r hO)

theorem WD (lo lm : Nat) (b : bU) (c : aC) (r : bU) (h0 : EX b c = some r) : wV Try.prog 20 [(.lp lo 0 0), (aB c)] [fJ lm b] [pM lo lm b] (fun x M L => x = .tup [] ∧ M = [fJ lm r] ∧ L = [pM lo lm r]) := by
  intro F H0 hO
  obtain ⟨Fh, Fe, Fg⟩ := F
  refine dP Try.func20 ?_
  replace hO : aN ⟨Fh, Fe, (lm, lX aB b.cells) :: Fg⟩ _ [(lo, 3, [(.agg [.mp lm, eI b.edges, eI b.mark])])] := hO
  unfold EX at h0
  obtain ⟨k, hk, h0⟩ := aZ h0
  refine aP ?_
  refine aU aF 1 ?_
  refine xG 2 (aB c) ?_
  refine eW ?_
  refine bC [(0, (.lp lo 0 0)), (3, (.rp (aB c)))] ?_
  refine aP ?_
  refine aU aF 4 ?_
  refine bQ 2 ?_
  refine iY (VY c.row _ hk) hO ?_
  intro H hO
  refine bG ?_
  refine bC [(0, (.lp lo 0 0)), (3, (.rp (aB c))), (4, (pZ k))] ?_
  refine aP ?_
  refine jS (iZ [13, 20]) aF 20 ?_
  refine tO (K := fun T H => Has (lift T) [(0, (.lp lo 0 0)), (3, (.rp (aB c))), (4, (pZ k))] ∧ aN ⟨Fh, Fe, (lm, lX aB b.cells) :: Fg⟩ H [(lo, 3, [(.agg [.mp lm, eI (sM b c k), eI b.mark])])]) ?_ ?_
  · refine qD 3 ?_
    refine jP 0 lo 3 0 (.agg [.mp lm, eI b.edges, eI b.mark]) (eI b.edges) [(.agg [.mp lm, eI b.edges, eI b.mark])] hO rfl ?_
    refine qD 10 ?_
    refine jP 0 lo 3 0 (.agg [.mp lm, eI b.edges, eI b.mark]) (.mp lm) [(.agg [.mp lm, eI b.edges, eI b.mark])] hO rfl ?_
    refine qD 12 ?_
    refine WC (f := aB) (mty := 40) aF k (.agg [(.sl true 0 (fun _ => .bad)), (.sl true 0 (fun _ => .bad))]) hO (fun hg => ?_) (fun v hg => ?_)
    · refine qD 19 ?_
      refine nL 0 lo 3 0 (.agg [.mp lm, eI b.edges, eI b.mark]) (.agg [.mp lm, eI (wR (b.edges + wR ((lN c.jumps) - ((0 : Nat) : Int)))), eI b.mark]) [(.agg [.mp lm, eI b.edges, eI b.mark])] [(lo, 3, [(.agg [.mp lm, eI (wR (b.edges + wR ((lN c.jumps) - ((0 : Nat) : Int)))), eI b.mark])])] hO rfl (by kernel_rfl) ?_
      intro H hO
      refine oX (by kernel_rfl) ?_
      have e : sM b c k = (wR (b.edges + wR ((lN c.jumps) - ((0 : Nat) : Int)))) := by unfold sM lH; rw [hg]; rfl
      rw [e]
      exact ⟨bF, hO⟩
    · refine qD 19 ?_
      refine nL 0 lo 3 0 (.agg [.mp lm, eI b.edges, eI b.mark]) (.agg [.mp lm, eI (wR (b.edges + wR ((lN c.jumps) - (lN v.jumps)))), eI b.mark]) [(.agg [.mp lm, eI b.edges, eI b.mark])] [(lo, 3, [(.agg [.mp lm, eI (wR (b.edges + wR ((lN c.jumps) - (lN v.jumps)))), eI b.mark])])] hO rfl (by kernel_rfl) ?_
      intro H hO
      refine oX (by kernel_rfl) ?_
      have e : sM b c k = (wR (b.edges + wR ((lN c.jumps) - (lN v.jumps)))) := by unfold sM lH; rw [hg]; rfl
      rw [e]
      exact ⟨bF, hO⟩
  rintro T H ⟨hT, hO⟩
  refine dX hT ?_
  clear hT
  refine aK (aJ ?_)
  refine aP ?_
  refine cJ aF 4 [(0, (.lp lo 0 0)), (3, (.rp (aB c))), (4, (pZ k)), (30, (aG (decide ((lN c.jumps) = 0))))] ?_
  refine bW h0 (fun h0 => ?_) (fun h0 => ?_)
  · obtain rfl := oI h0
    refine aP ?_
    refine aU aF 6 ?_
    refine bQ 3 ?_
    refine oH 0 lo 3 0 (.agg [.mp lm, eI (sM b c k), eI b.mark]) (.mp lm) [(.agg [.mp lm, eI (sM b c k), eI b.mark])] hO rfl ?_
    refine bQ 5 ?_
    refine aCs (f := aB) (mty := 40) k hO ?_
    intro H hO
    refine eW ?_
    refine bC [] ?_
    refine bR ?_
    exact aK (aV (MN (M := [fJ lm ⟨pX b.cells k, sM b c k, b.mark⟩]) hO ⟨rfl, rfl, rfl⟩))
  · obtain rfl := oI h0
    refine bT ?_
    refine bC [(0, (.lp lo 0 0)), (3, (.rp (aB c))), (4, (pZ k))] ?_
    refine jS (iZ [41]) aF 7 ?_
    refine qD 3 ?_
    refine jP 0 lo 3 0 (.agg [.mp lm, eI (sM b c k), eI b.mark]) (.mp lm) [(.agg [.mp lm, eI (sM b c k), eI b.mark])] hO rfl ?_
    refine qD 6 ?_
    refine aCd (f := aB) (mty := 40) k c hO ?_
    intro H hO
    refine oX (by kernel_rfl) ?_
    refine fG [] ?_
    exact aK (aHB (M := [fJ lm ⟨nC b.cells k c, sM b c k, b.mark⟩]) hO ⟨rfl, rfl, rfl⟩)

theorem AW (s0 : (List aD)) (r : (List aD)) (h0 : lG s0 = some r) : LZ Try.prog 35 [(eL aL s0)] (fun lo => (.msl 2 lo 0 (List.length r))) 2 (List.map aL r) := by
  intro H0
  refine dP Try.func35 ?_
  have hO := aN.start H0
  unfold lG at h0
  refine aY aF 1 [] [] ?_
  refine aP ?_
  refine aP ?_
  refine aU aF 2 ?_
  refine bQ 1 ?_
  refine aHv false (List.length s0) (fun i => aL (List.getD s0 i default)) (by kernel_rfl) (by kernel_rfl) ?_
  intro b1 hn2
  refine eW ?_
  refine cQ [] [(4, (aG b1))] ?_
  refine nW (b1) (fun hc3 => ?_) (fun hc3 => ?_)
  · replace h0 : some ([] : List aD) = some r := by
      have hl := List.eq_nil_of_length_eq_zero (hn2 hc3)
      rw [hl] at h0
      exact (bB h0).2
    refine cJ aF 1 [(2, (.sl true 0 (fun _ => .bad)))] ?_
    refine bR ?_
    refine fG [(2, (.sl true 0 (fun _ => .bad)))] ?_
    refine PB (el := (fun _ => .bad)) 0 2 2 hO (by kernel_rfl) ?_
    intro lo4 H5 hO
    obtain rfl := oI h0
    exact aK (aV (nF (x := (.msl 2 lo4 0 (List.length ([] : List aD)))) (by kernel_rfl) (aQ.refl _) ⟨lo4, rfl, hO⟩))
  · refine bT ?_
    refine bC [(0, (eL aL s0))] ?_
    refine aP ?_
    refine aU aF 4 ?_
    refine wN [] 2 ?_
    refine bQ 2 ?_
    obtain ⟨c7, h0⟩ := bB h0
    refine aBw (e := aL) s0 (fun _ => .bad) 2 16 (eL aL s0) (fun lo6 => [(lo6, 2, List.map aL s0)]) (by kernel_rfl) (by kernel_rfl) hO (DM (fun _ => by kernel_rfl)) c7 (fun _ => by kernel_rfl) ?_
    intro lo6 H hO
    refine bG ?_
    refine bC [(2, (.msl 2 lo6 0 (List.length s0)))] ?_
    refine bR ?_
    obtain rfl := oI h0
    exact aK (nF (x := (.msl 2 lo6 0 (List.length s0))) (by kernel_rfl) (aQ.refl _) ⟨lo6, rfl, hO⟩)

theorem QT (f0 : (List aD)) (r : ((List aD) × Int)) (h0 : tY f0 = some r) : dK Try.prog 36 [(eL aL f0)] (.tup [(eL aL r.1), (eI r.2)]) := by
  intro H0
  refine dP Try.func36 ?_
  have hO := aN.start H0
  unfold tY at h0
  refine aY aF 2 [] [] ?_
  refine aP ?_
  refine aP ?_
  refine aU aF 3 ?_
  refine bQ 1 ?_
  obtain ⟨x1, hx2, h0⟩ := aZ h0
  refine iY (uX f0 _ hx2) hO ?_
  intro H hO
  refine bG ?_
  refine cQ [] [(6, (aG (!x1)))] ?_
  refine bW h0 (fun h0 => ?_) (fun h0 => ?_)
  · refine cJ aF 2 [(2, (.sl true 0 (fun _ => .bad))), (3, (eI (7 : Int)))] ?_
    refine bR ?_
    refine dX (l := [(2, (eL aL ([]))), (3, (eI (7 : Int)))]) ⟨[(2, (.sl true 0 (fun _ => .bad))), (3, (eI (7 : Int)))], by kernel_rfl, rfl, ⟨lU, aQ.refl _, trivial⟩⟩ ?_
    obtain rfl := oI h0
    exact aK (aV (Q_r hO))
  refine bT ?_
  refine bC [(0, (eL aL f0))] ?_
  refine cJ aF 3 [(2, (eL aL f0)), (3, (eI (0 : Int)))] ?_
  refine bR ?_
  obtain rfl := oI h0
  exact aK (Q_r hO)

theorem aA5 (f0 : (List aD)) (t1 : Int) (r : ((List aD) × Int)) (h0 : wB f0 t1 = some r) : dK Try.prog 21 [(eL aL f0), (eI t1)] (.tup [(eL aL r.1), (eI r.2)]) := by
  intro H0
  refine dP Try.func21 ?_
  have hO := aN.start H0
  unfold wB at h0
  refine aY aF 2 [] [] ?_
  refine aP ?_
  refine cH 0 ?_
  refine aP ?_
  refine aU aF 4 ?_
  refine bQ 1 ?_
  obtain ⟨x1, hx2, h0⟩ := aZ h0
  refine iY (uX f0 _ hx2) hO ?_
  intro H hO
  refine bG ?_
  refine cQ [] [(9, (aG (!x1)))] ?_
  refine bW h0 (fun h0 => ?_) (fun h0 => ?_)
  · refine cJ aF 2 [(4, (.sl true 0 (fun _ => .bad))), (5, (eI (2 : Int)))] ?_
    refine bR ?_
    refine dX (l := [(4, (eL aL ([]))), (5, (eI (2 : Int)))]) ⟨[(4, (.sl true 0 (fun _ => .bad))), (5, (eI (2 : Int)))], by kernel_rfl, rfl, ⟨lU, aQ.refl _, trivial⟩⟩ ?_
    obtain rfl := oI h0
    exact aK (bV (aV (Q_r hO)))
  refine aY aF 3 [9] [(13, (aG (decide ((1125899906842624 : Int) ≤ t1))))] ?_
  refine bW h0 (fun h0 => ?_) (fun h0 => ?_)
  · refine cJ aF 2 [(4, (.sl true 0 (fun _ => .bad))), (5, (eI (0 : Int)))] ?_
    refine bR ?_
    refine dX (l := [(4, (eL aL ([]))), (5, (eI (0 : Int)))]) ⟨[(4, (.sl true 0 (fun _ => .bad))), (5, (eI (0 : Int)))], by kernel_rfl, rfl, ⟨lU, aQ.refl _, trivial⟩⟩ ?_
    obtain rfl := oI h0
    exact aK (bV (aV (Q_r hO)))
  refine aY aF 3 [13] [(16, (aG (decide (t1 ≤ (-1 : Int)))))] ?_
  refine bW h0 (fun h0 => ?_) (fun h0 => ?_)
  · refine aP ?_
    refine aU aF 4 ?_
    refine bQ 1 ?_
    obtain ⟨x7, hx8, h0⟩ := aZ h0
    refine LK (L' := fun lo9 => [(lo9, 2, List.map aL x7)]) 2 (List.map aL x7) 35 [(eL aL f0)] (fun lo9 => (.msl 2 lo9 0 (List.length x7))) (by kernel_rfl) (by kernel_rfl) (AW f0 _ hx8) hO (fun _ => by kernel_rfl) ?_
    intro lo9 H hO
    refine bG ?_
    refine bC [(4, (.msl 2 lo9 0 (List.length x7))), (5, (eI (0 : Int)))] ?_
    refine bR ?_
    refine fG [(4, (.msl 2 lo9 0 (List.length x7))), (5, (eI (0 : Int)))] ?_
    refine tK (en := aL) x7 0 0 4 2 lo9 (List.length x7) hO (by kernel_rfl) (by kernel_rfl) (by kernel_rfl) (L' := []) (by kernel_rfl) ?_
    intro H10 hO
    obtain rfl := oI h0
    exact aK (bV (aV (Q_r hO)))
  refine bT ?_
  refine fG [(0, (eL aL f0)), (1, (eI t1))] ?_
  refine aK (bD (aJ (?_)))
  refine aY aF 2 [] [(6, (eI (0 : Int))), (7, (eI (0 : Int)))] ?_
  refine lT (fun T H => ∃ v6 : Int, ∃ at7 : Int, Has T [(0, (eL aL f0)), (6, (eI v6)), (7, (eI at7))] ∧ aN ⟨H0, [], []⟩ H [] ∧ xZ f0 v6 at7 = some r) ?_ ?_
  · clear hO h0
    rintro T H ⟨v6, at7, hT, hO, h0⟩
    refine bO hT ?_
    clear hT
    unfold xZ at h0
    refine aP ?_
    refine aU aF 2 ?_
    refine wN [] 2 ?_
    refine bG ?_
    refine cQ [] [(8, (.sl true 0 (fun _ => .bad)))] ?_
    refine lT (fun T H => ∃ out8 : List aD, ∃ lo11 : Nat, Has T [(0, (eL aL f0)), (7, (eI at7)), (8, (.msl 2 lo11 0 (List.length out8)))] ∧ aN ⟨H0, [], []⟩ H [(lo11, 2, List.map aL out8)] ∧ xL f0 at7 out8 = some r) ?_ ?_
    · clear hO h0
      rintro T H ⟨out8, lo11, hT, hO, h0⟩
      refine bO hT ?_
      clear hT
      unfold xL at h0
      refine aP ?_
      refine aU aF 10 ?_
      obtain ⟨c15, h0⟩ := bB h0
      refine AV 4 [0 ≤ at7 ∧ at7 ≤ (lN f0)] ⟨c15, trivial⟩ ?_
      obtain ⟨c17, h0⟩ := bB h0
      refine FH aL out8 (List.drop (Int.toNat at7) f0) 0 lo11 2 16 (.sl false (List.length f0 - Int.toNat at7) (fun i => aL (List.getD f0 (Int.toNat at7 + i) default))) (fun lo16 => [(lo16, 2, List.map aL (out8 ++ (List.drop (Int.toNat at7) f0)))]) hO (aCN (fun _ => by kernel_rfl)) c17 ?_
      intro lo16 H hO
      refine JP (e := aL) (out8 ++ (List.drop (Int.toNat at7) f0)) 0 55 2 lo16 (List.length (out8 ++ (List.drop (Int.toNat at7) f0))) [] (by kernel_rfl) hO (by kernel_rfl) (by kernel_rfl) (by kernel_rfl) (by kernel_rfl) ?_
      intro H hO
      obtain ⟨x18, hx19, h0⟩ := aZ h0
      refine iY (QT (out8 ++ (List.drop (Int.toNat at7) f0)) _ hx19) hO ?_
      intro H hO
      refine bG ?_
      refine bC [(4, (eL aL x18.1)), (5, (eI x18.2))] ?_
      refine bR ?_
      obtain rfl := oI h0
      exact aK (Q_r hO)
    refine aY aF 2 [] [(45, (aG (!decide (v6 = (0 : Int)))))] ?_
    refine bW h0 (fun h0 => ?_) (fun h0 => ?_)
    · refine aU aF 6 ?_
      refine bQ 3 ?_
      refine wN [(aL (aD.mk (-1 : Int) v6))] 2 ?_
      obtain ⟨c23, h0⟩ := bB h0
      refine aBw (e := aL) ([aD.mk (-1 : Int) v6]) (fun _ => .bad) 2 16 (dR [(aL (aD.mk (-1 : Int) v6))]) (fun lo22 => [(lo22, 2, List.map aL ([aD.mk (-1 : Int) v6]))]) (by kernel_rfl) (by kernel_rfl) hO (by kernel_rfl) c23 (fun _ => by kernel_rfl) ?_
      intro lo22 H hO
      refine bG ?_
      exact aK (aJ (⟨rfl, _, _, bF, hO, h0⟩))
    refine bT ?_
    refine fG [(0, (eL aL f0)), (7, (eI at7)), (8, (.sl true 0 (fun _ => .bad)))] ?_
    refine PB (el := (fun _ => .bad)) 2 8 2 hO (by kernel_rfl) ?_
    intro lo24 H25 hO
    exact aK (aJ (⟨rfl, ([] : List aD), _, bF, hO, h0⟩))
  refine cH 1 ?_
  refine mD [(0, (eL aL f0)), (1, (eI t1)), (6, (eI (0 : Int))), (7, (eI (0 : Int)))] ?_
  refine kZ (fun T H => ∃ v6 : Int, ∃ at7 : Int, Has T [(0, (eL aL f0)), (1, (eI t1)), (6, (eI v6)), (7, (eI at7))] ∧ aN ⟨H0, [], []⟩ H [] ∧ CL f0 t1 v6 at7 = some r) ?_ ⟨(0 : Int), (0 : Int), bF, hO, h0⟩
  clear hO h0
  rintro T H ⟨v6, at7, hT, hO, h0⟩
  refine bO hT ?_
  clear hT
  unfold CL at h0
  obtain ⟨rr0, hl0, h0⟩ := aZ h0
  refine mQ (fun (s : Int × Int) T H => Has T [(0, (eL aL f0)), (1, (eI t1)), (6, (eI s.1)), (7, (eI s.2))] ∧ aN ⟨H0, [], []⟩ H []) hl0 ⟨bF, hO⟩ ?_
  clear hO
  rintro k0 s out1 T H ⟨hT, hO⟩ h1 ho0
  obtain ⟨v6, at7⟩ := s
  replace h1 : pO f0 t1 v6 at7 = some out1 := h1
  try dsimp only at hT
  refine bO hT ?_
  clear hT
  unfold pO at h1
  refine aP ?_
  refine aP ?_
  refine aU aF 13 ?_
  obtain ⟨c26, h1⟩ := bB h1
  refine sW [(((decide (at7 < (lN f0)))) = true → 0 ≤ at7 ∧ at7 < (lN f0))] ⟨c26, trivial⟩ ?_
  refine cQ [] [(33, (aG ((decide (at7 < (lN f0))) && (decide (((gD f0 at7).At) < t1)))))] ?_
  refine bW h1 (fun h1 => ?_) (fun h1 => ?_)
  · refine bT ?_
    refine bC [(0, (eL aL f0)), (1, (eI t1)), (6, (eI v6)), (7, (eI at7))] ?_
    refine cH 2 ?_
    refine aP ?_
    refine aU aF 8 ?_
    obtain ⟨c28, h1⟩ := bB h1
    refine sW [0 ≤ at7 ∧ at7 < (lN f0)] ⟨c28, trivial⟩ ?_
    refine cQ [6] [(6, (eI (wR (v6 + ((gD f0 at7).Net)))))] ?_
    refine aU aF 3 ?_
    refine bG ?_
    exact aK (bD (aJ (⟨rfl, _, (oI h1).symm, bF, hO⟩)))
  refine lM 1 ?_
  obtain rfl := oI h1
  obtain rfl : _ = rr0 := ho0
  replace h0 : xZ f0 v6 at7 = some r := h0
  exact aK (aX (aX (cC (aJ (⟨rfl, _, _, bF, hO, h0⟩)))))

theorem ZZ (lo lm : Nat) (b : bU) (t : Int) (r : Int × bU) (h0 : oG b t = some r) : wV Try.prog 8 [(.lp lo 0 0), (eI t)] [fJ lm b] [pM lo lm b] (fun x M L => x = (eI r.1) ∧ M = [fJ lm r.2] ∧ L = [pM lo lm r.2]) := by
  intro F H0 hO
  obtain ⟨Fh, Fe, Fg⟩ := F
  refine dP Try.func8 ?_
  replace hO : aN ⟨Fh, Fe, (lm, lX aB b.cells) :: Fg⟩ _ [(lo, 3, [(.agg [.mp lm, eI b.edges, eI b.mark])])] := hO
  unfold oG at h0
  refine aY aF 1 [] [] ?_
  refine aP ?_
  refine cH 0 ?_
  refine aP ?_
  refine aU aF 3 ?_
  refine bQ 1 ?_
  refine HU false ?_
  refine bG ?_
  refine bC [(0, (.lp lo 0 0)), (1, (eI t)), (15, (aG false))] ?_
  refine nW (false) (fun hc => by cases hc) (fun hc => ?_)
  refine aP ?_
  refine aU aF 7 ?_
  refine bQ 4 ?_
  refine oH 0 lo 3 0 (.agg [.mp lm, eI b.edges, eI b.mark]) (eI b.mark) [(.agg [.mp lm, eI b.edges, eI b.mark])] hO rfl ?_
  refine bG ?_
  refine bC [(0, (.lp lo 0 0)), (1, (eI t)), (18, (aG (decide (t ≤ b.mark))))] ?_
  refine bW h0 (fun h0 => ?_) (fun h0 => ?_)
  · obtain rfl := oI h0
    refine cJ aF 1 [(4, (eI (0 : Int)))] ?_
    refine bR ?_
    exact aK (bV (aV (MN (M := [fJ lm b]) hO ⟨rfl, rfl, rfl⟩)))
  refine bT ?_
  refine fG [(0, (.lp lo 0 0)), (1, (eI t))] ?_
  refine aK (bD (aJ (?_)))
  refine aP ?_
  refine aU aF 2 ?_
  refine wN [] 2 ?_
  refine bG ?_
  refine fG [(0, (.lp lo 0 0)), (1, (eI t)), (5, (dR []))] ?_
  refine PB (el := (fun _ => .bad)) 2 5 2 hO (by kernel_rfl) ?_
  intro lo5 H hO
  refine bC [(0, (.lp lo 0 0)), (1, (eI t)), (5, (.msl 2 lo5 0 (List.length ([] : List aC))))] ?_
  refine aP ?_
  refine aP ?_
  refine aU aF 5 ?_
  refine bQ 3 ?_
  refine oH 0 lo 3 0 (.agg [.mp lm, eI b.edges, eI b.mark]) (.mp lm) [(.agg [.mp lm, eI b.edges, eI b.mark])] hO rfl ?_
  refine HR (f := aB) (mty := 40) hO ?_
  intro li bs ck H hmb hmn hO
  refine eW ?_
  refine bC [(0, (.lp lo 0 0)), (1, (eI t)), (5, (.msl 2 lo5 0 (List.length ([] : List aC)))), (30, (.lp li 0 0))] ?_
  refine cH 1 ?_
  refine KA (by kernel_rfl) (fun (s : List aC ⊕ Int) (seen : List Nat) T H => ∃ (out : List aC) (lo5 : Nat), s = .inl out ∧ Has T [(0, (.lp lo 0 0)), (1, (eI t)), (5, (.msl 2 lo5 0 (List.length out))), (30, (.lp li 0 0))] ∧ aN ⟨Fh, Fe, (li, LV li lm ck seen) :: (lm, xM aB b.cells bs ck) :: Fg⟩ H [(lo, 3, [(.agg [.mp lm, eI b.edges, eI b.mark])]), (lo5, 2, List.map aB out)]) hmb h0 ⟨[], lo5, rfl, bF, hO⟩ ?_
  clear hO h0
  rintro seen rem s T H ⟨out, lo5, rfl, hT, hO⟩ hleft hall
  refine bO (l := [(0, (.lp lo 0 0)), (1, (eI t)), (5, (.msl 2 lo5 0 (List.length out))), (30, (.lp li 0 0))]) hT ?_
  clear hT
  refine aP ?_
  refine aU aF 2 ?_
  refine KF hmb hmn hleft hall hO (fun h0 => ?_) (fun mk mv bq rest out1 H h1 hlt hleft hall hat hO => ?_)
  · clear hall hleft
    replace h0 : (lp (fun s => qM out (lN out) s.1 s.2) ((0 : Int), (0 : Int))).bind (fun n =>
      cond (decide ((4096 : Int) < n)) (some ((7 : Int), b))
      ((lp (fun s => nA out (lN out) s.1 s.2) (b, (0 : Int))).bind fun b => some ((0 : Int), bU.mk b.cells b.edges t))) = some r := h0
    refine bG ?_
    refine bC [(0, (.lp lo 0 0)), (1, (eI t)), (5, (.msl 2 lo5 0 (List.length out))), (32, (aG false))] ?_
    refine aP ?_
    refine nW (false) (fun hc => by cases hc) (fun hc => ?_)
    refine lM 1 ?_
    replace hO := hO.rX
    refine EC hO fun H hO => ?_
    refine fG [(0, (.lp lo 0 0)), (1, (eI t)), (5, (.msl 2 lo5 0 (List.length out)))] ?_
    refine aK (aX (aX (cC (aJ (?_)))))
    refine cJ aF 1 [(0, (.lp lo 0 0)), (1, (eI t)), (5, (.msl 2 lo5 0 (List.length out))), (10, (eI (0 : Int)))] ?_
    refine aP ?_
    refine cJ aF 3 [(0, (.lp lo 0 0)), (1, (eI t)), (5, (.msl 2 lo5 0 (List.length out))), (10, (eI (0 : Int))), (52, (.msl 2 lo5 0 (List.length out))), (53, (eI (lN out))), (54, (eI (0 : Int)))] ?_
    obtain ⟨n1, hn1, h0⟩ := aZ h0
    refine cH 3 ?_
    refine mQ (fun (q : Int × Int) T H => Has T [(0, (.lp lo 0 0)), (1, (eI t)), (5, (.msl 2 lo5 0 (List.length out))), (10, (eI q.1)), (52, (.msl 2 lo5 0 (List.length out))), (53, (eI (lN out))), (54, (eI q.2))] ∧ aN ⟨Fh, Fe, (lm, lX aB b.cells) :: Fg⟩ H [(lo, 3, [(.agg [.mp lm, eI b.edges, eI b.mark])]), (lo5, 2, List.map aB out)]) hn1 ⟨bF, hO⟩ ?_
    clear hO
    rintro k0 q out2 T H ⟨hT, hO⟩ h2 ho2
    obtain ⟨n3, i3⟩ := q
    replace h2 : qM out (lN out) n3 i3 = some out2 := h2
    refine bO (l := [(0, (.lp lo 0 0)), (1, (eI t)), (5, (.msl 2 lo5 0 (List.length out))), (10, (eI n3)), (52, (.msl 2 lo5 0 (List.length out))), (53, (eI (lN out))), (54, (eI i3))]) hT ?_
    clear hT
    unfold qM at h2
    refine cJ aF 1 [(0, (.lp lo 0 0)), (1, (eI t)), (5, (.msl 2 lo5 0 (List.length out))), (10, (eI n3)), (52, (.msl 2 lo5 0 (List.length out))), (53, (eI (lN out))), (54, (eI i3)), (55, (aG (decide (i3 < (lN out)))))] ?_
    refine aP ?_
    refine bW h2 (fun h2 => ?_) (fun h2 => ?_)
    · refine bT ?_
      refine bC [(0, (.lp lo 0 0)), (1, (eI t)), (5, (.msl 2 lo5 0 (List.length out))), (10, (eI n3)), (52, (.msl 2 lo5 0 (List.length out))), (53, (eI (lN out))), (54, (eI i3))] ?_
      refine aP ?_
      obtain ⟨c5, h2⟩ := bB h2
      obtain rfl := oI h2
      refine cH 4 ?_
      refine aP ?_
      refine aU aF 4 ?_
      refine AV 1 [0 ≤ i3 ∧ i3 < (lN out)] ⟨c5, trivial⟩ ?_
      refine oH 1 lo5 2 (0 + Int.toNat i3) (aB (gD out i3)) (aB (gD out i3)) (List.map aB out) hO (cB c5) ?_
      refine xK 2 (.agg [(.sl true 0 (fun _ => .bad)), (.sl true 0 (fun _ => .bad))]) (aB ⟨[], []⟩) (by kernel_rfl) (by kernel_rfl) (by kernel_rfl) (HE (xs := [(.sl true 0 (fun _ => .bad)), (.sl true 0 (fun _ => .bad))]) (ys := [(eL aM []), (eL aL [])]) ⟨lU, lU, trivial⟩) (by kernel_rfl) (by kernel_rfl) hO ?_
      intro lo8 H hO
      refine pI 2 lo8 2 0 (aB ⟨[], []⟩) (aB (gD out i3)) [(aB ⟨[], []⟩)] [(lo, 3, [(.agg [.mp lm, eI b.edges, eI b.mark])]), (lo5, 2, List.map aB out), (lo8, 2, [(aB (gD out i3))])] hO rfl (by kernel_rfl) ?_
      intro H hO
      refine eW ?_
      refine bC [(0, (.lp lo 0 0)), (1, (eI t)), (5, (.msl 2 lo5 0 (List.length out))), (10, (eI n3)), (52, (.msl 2 lo5 0 (List.length out))), (53, (eI (lN out))), (54, (eI i3)), (12, (.lp lo8 0 0))] ?_
      refine aU aF 6 ?_
      refine bQ 2 ?_
      refine oH 2 lo8 2 0 (aB (gD out i3)) (eL aL (gD out i3).jumps) [(aB (gD out i3))] hO rfl ?_
      refine bG ?_
      replace hO := hO.pick (L' := [(lo, 3, [(.agg [.mp lm, eI b.edges, eI b.mark])]), (lo5, 2, List.map aB out)]) [0, 1] (by decide) (by kernel_rfl)
      refine fG [(0, (.lp lo 0 0)), (1, (eI t)), (5, (.msl 2 lo5 0 (List.length out))), (10, (eI (wR (n3 + (lN (gD out i3).jumps))))), (52, (.msl 2 lo5 0 (List.length out))), (53, (eI (lN out))), (54, (eI i3))] ?_
      refine aK (bD (aJ (?_)))
      refine aU aF 2 ?_
      refine bG ?_
      exact aK (⟨rfl, _, rfl, bF, hO⟩)
    refine lM 3 ?_
    obtain rfl := oI h2
    obtain rfl : _ = n1 := ho2
    refine fG [(0, (.lp lo 0 0)), (1, (eI t)), (5, (.msl 2 lo5 0 (List.length out))), (10, (eI n3))] ?_
    refine aK (aX (aX (cC (aJ (?_)))))
    refine aP ?_
    refine cJ aF 2 [(0, (.lp lo 0 0)), (1, (eI t)), (5, (.msl 2 lo5 0 (List.length out))), (65, (aG (decide ((4096 : Int) < n3))))] ?_
    refine bW h0 (fun h0 => ?_) (fun h0 => ?_)
    · obtain rfl := oI h0
      refine cJ aF 1 [(4, (eI (7 : Int)))] ?_
      refine bR ?_
      replace hO := hO.pick (L' := [(lo, 3, [(.agg [.mp lm, eI b.edges, eI b.mark])])]) [0] (by decide) (by kernel_rfl)
      exact aK (aV (MN (M := [fJ lm b]) hO ⟨rfl, rfl, rfl⟩))
    refine bT ?_
    refine bC [(0, (.lp lo 0 0)), (1, (eI t)), (5, (.msl 2 lo5 0 (List.length out)))] ?_
    refine aP ?_
    refine cJ aF 3 [(0, (.lp lo 0 0)), (1, (eI t)), (66, (.msl 2 lo5 0 (List.length out))), (67, (eI (lN out))), (68, (eI (0 : Int)))] ?_
    obtain ⟨b9, hb9, h0⟩ := aZ h0
    refine cH 5 ?_
    refine mQ (fun (q : bU × Int) T H => Has T [(0, (.lp lo 0 0)), (1, (eI t)), (66, (.msl 2 lo5 0 (List.length out))), (67, (eI (lN out))), (68, (eI q.2))] ∧ aN ⟨Fh, Fe, (lm, lX aB q.1.cells) :: Fg⟩ H [(lo, 3, [(.agg [.mp lm, eI q.1.edges, eI q.1.mark])]), (lo5, 2, List.map aB out)]) hb9 ⟨bF, hO⟩ ?_
    clear hO
    rintro k0 q out2 T H ⟨hT, hO⟩ h2 ho2
    obtain ⟨b1, i3⟩ := q
    replace h2 : nA out (lN out) b1 i3 = some out2 := h2
    refine bO (l := [(0, (.lp lo 0 0)), (1, (eI t)), (66, (.msl 2 lo5 0 (List.length out))), (67, (eI (lN out))), (68, (eI i3))]) hT ?_
    clear hT
    unfold nA at h2
    refine cJ aF 1 [(0, (.lp lo 0 0)), (1, (eI t)), (66, (.msl 2 lo5 0 (List.length out))), (67, (eI (lN out))), (68, (eI i3)), (69, (aG (decide (i3 < (lN out)))))] ?_
    refine aP ?_
    refine bW h2 (fun h2 => ?_) (fun h2 => ?_)
    · refine bT ?_
      refine bC [(0, (.lp lo 0 0)), (1, (eI t)), (66, (.msl 2 lo5 0 (List.length out))), (67, (eI (lN out))), (68, (eI i3))] ?_
      refine aP ?_
      obtain ⟨c5, h2⟩ := bB h2
      obtain ⟨x, hx, h2⟩ := aZ h2
      obtain rfl := oI h2
      refine cH 6 ?_
      refine aP ?_
      refine aU aF 4 ?_
      refine AV 1 [0 ≤ i3 ∧ i3 < (lN out)] ⟨c5, trivial⟩ ?_
      refine oH 1 lo5 2 (0 + Int.toNat i3) (aB (gD out i3)) (aB (gD out i3)) (List.map aB out) hO (cB c5) ?_
      refine xK 2 (.agg [(.sl true 0 (fun _ => .bad)), (.sl true 0 (fun _ => .bad))]) (aB ⟨[], []⟩) (by kernel_rfl) (by kernel_rfl) (by kernel_rfl) (HE (xs := [(.sl true 0 (fun _ => .bad)), (.sl true 0 (fun _ => .bad))]) (ys := [(eL aM []), (eL aL [])]) ⟨lU, lU, trivial⟩) (by kernel_rfl) (by kernel_rfl) hO ?_
      intro lo8 H hO
      refine pI 2 lo8 2 0 (aB ⟨[], []⟩) (aB (gD out i3)) [(aB ⟨[], []⟩)] [(lo, 3, [(.agg [.mp lm, eI b1.edges, eI b1.mark])]), (lo5, 2, List.map aB out), (lo8, 2, [(aB (gD out i3))])] hO rfl (by kernel_rfl) ?_
      intro H hO
      refine eW ?_
      refine bC [(0, (.lp lo 0 0)), (1, (eI t)), (66, (.msl 2 lo5 0 (List.length out))), (67, (eI (lN out))), (68, (eI i3)), (14, (.lp lo8 0 0))] ?_
      refine aU aF 3 ?_
      refine bQ 1 ?_
      refine oH 2 lo8 2 0 (aB (gD out i3)) (aB (gD out i3)) [(aB (gD out i3))] hO rfl ?_
      refine aG6 [fJ lm b1] [(lo5, 2, List.map aB out), (lo8, 2, [(aB (gD out i3))])] [0, 1, 2] (WD lo lm b1 (gD out i3) _ hx) hO ?_
      rintro _ _ _ H ⟨rfl, rfl, rfl⟩ hO
      refine eW ?_
      replace hO := hO.pick (L' := [(lo, 3, [(.agg [.mp lm, eI x.edges, eI x.mark])]), (lo5, 2, List.map aB out)]) [0, 1] (by decide) (by kernel_rfl)
      refine fG [(0, (.lp lo 0 0)), (1, (eI t)), (66, (.msl 2 lo5 0 (List.length out))), (67, (eI (lN out))), (68, (eI i3))] ?_
      refine aK (bD (aJ (?_)))
      refine aU aF 2 ?_
      refine bG ?_
      exact aK (⟨rfl, _, rfl, bF, hO⟩)
    refine lM 5 ?_
    obtain rfl := oI h2
    obtain rfl : _ = b9 := ho2
    obtain rfl := oI h0
    refine fG [(0, (.lp lo 0 0)), (1, (eI t))] ?_
    refine aK (aX (aX (cC (aJ (?_)))))
    refine aP ?_
    refine aU aF 5 ?_
    refine bQ 4 ?_
    refine pI 0 lo 3 0 (.agg [.mp lm, eI b1.edges, eI b1.mark]) (.agg [.mp lm, eI b1.edges, eI t]) [(.agg [.mp lm, eI b1.edges, eI b1.mark])] [(lo, 3, [(.agg [.mp lm, eI b1.edges, eI t])]), (lo5, 2, List.map aB out)] hO rfl (by kernel_rfl) ?_
    intro H hO
    refine eW ?_
    refine bC [(0, (.lp lo 0 0)), (1, (eI t))] ?_
    refine cJ aF 1 [(4, (eI (0 : Int)))] ?_
    refine bR ?_
    replace hO := hO.pick (L' := [(lo, 3, [(.agg [.mp lm, eI b1.edges, eI t])])]) [0] (by decide) (by kernel_rfl)
    exact aK (MN (M := [fJ lm (bU.mk b1.cells b1.edges t)]) hO ⟨rfl, rfl, rfl⟩)
  replace h1 : (wB mv.jumps t).bind (fun x =>
    cond (!(decide (x.2 = (0 : Int)))) (some (.inr x.2))
    (aT ((List.length out + List.length ([aC.mk mv.row x.1])) * 48 ≤ 140737488355328 ∧ List.length out + List.length ([aC.mk mv.row x.1]) ≤ 9223372036854775807) <|
    some (.inl (out ++ [aC.mk mv.row x.1])))) = some out1 := h1
  refine bG ?_
  refine bC [(0, (.lp lo 0 0)), (1, (eI t)), (5, (.msl 2 lo5 0 (List.length out))), (30, (.lp li 0 0)), (32, (aG true))] ?_
  refine aP ?_
  refine nW (true) (fun hc => ?_) (fun hc => by cases hc)
  refine bT ?_
  refine bC [(0, (.lp lo 0 0)), (1, (eI t)), (5, (.msl 2 lo5 0 (List.length out))), (30, (.lp li 0 0))] ?_
  refine cH 2 ?_
  refine aP ?_
  refine aU aF 4 ?_
  refine GQ hat hO ?_
  refine bQ 2 ?_
  refine xK 2 (.agg [(.sl true 0 (fun _ => .bad)), (.sl true 0 (fun _ => .bad))]) (aB ⟨[], []⟩) (by kernel_rfl) (by kernel_rfl) (by kernel_rfl) (HE (xs := [(.sl true 0 (fun _ => .bad)), (.sl true 0 (fun _ => .bad))]) (ys := [(eL aM []), (eL aL [])]) ⟨lU, lU, trivial⟩) (by kernel_rfl) (by kernel_rfl) hO ?_
  intro lo7 H hO
  refine pI 2 lo7 2 0 (aB ⟨[], []⟩) (aB mv) [(aB ⟨[], []⟩)] [(lo, 3, [(.agg [.mp lm, eI b.edges, eI b.mark])]), (lo5, 2, List.map aB out), (lo7, 2, [(aB mv)])] hO rfl (by kernel_rfl) ?_
  intro H hO
  refine eW ?_
  refine bC [(0, (.lp lo 0 0)), (1, (eI t)), (5, (.msl 2 lo5 0 (List.length out))), (30, (.lp li 0 0)), (7, (.lp lo7 0 0))] ?_
  refine aP ?_
  refine aU aF 9 ?_
  refine bQ 1 ?_
  refine oH 2 lo7 2 0 (aB mv) (eL aL mv.jumps) [(aB mv)] hO rfl ?_
  refine bQ 3 ?_
  obtain ⟨x, hx, h1⟩ := aZ h1
  refine iY (aA5 mv.jumps t _ hx) hO ?_
  intro H hO
  refine bG ?_
  refine bC [(0, (.lp lo 0 0)), (1, (eI t)), (5, (.msl 2 lo5 0 (List.length out))), (30, (.lp li 0 0)), (7, (.lp lo7 0 0)), (8, (eL aL x.1)), (9, (eI x.2))] ?_
  refine aP ?_
  refine cJ aF 2 [(0, (.lp lo 0 0)), (1, (eI t)), (5, (.msl 2 lo5 0 (List.length out))), (30, (.lp li 0 0)), (7, (.lp lo7 0 0)), (8, (eL aL x.1)), (9, (eI x.2)), (43, (aG (!(decide (x.2 = (0 : Int))))))] ?_
  refine bW h1 (fun h1 => ?_) (fun h1 => ?_)
  · obtain rfl := oI h1
    have h9 := WW (fun _ => rfl) (hall rest (List.Perm.refl _))
    obtain rfl := oI h9
    refine aP ?_
    refine aU aF 2 ?_
    refine bG ?_
    replace hO := hO.rX
    refine EC hO fun H hO => ?_
    refine bC [(4, (eI x.2))] ?_
    refine bR ?_
    replace hO := hO.pick (L' := [(lo, 3, [(.agg [.mp lm, eI b.edges, eI b.mark])])]) [0] (by decide) (by kernel_rfl)
    exact aK (aV (bV (aV (bV (aV (MN (M := [fJ lm b]) hO ⟨rfl, rfl, rfl⟩))))))
  refine bT ?_
  refine bC [(0, (.lp lo 0 0)), (1, (eI t)), (5, (.msl 2 lo5 0 (List.length out))), (30, (.lp li 0 0)), (7, (.lp lo7 0 0)), (8, (eL aL x.1)), (9, (eI x.2))] ?_
  refine aU aF 8 ?_
  refine bQ 2 ?_
  refine oH 2 lo7 2 0 (aB mv) (eL aM mv.row) [(aB mv)] hO rfl ?_
  refine bQ 5 ?_
  refine wN [(aB (aC.mk mv.row x.1))] 2 ?_
  obtain ⟨c7, h1⟩ := bB h1
  refine FH aB out ([(aC.mk mv.row x.1)]) 1 lo5 2 48 (dR [(aB (aC.mk mv.row x.1))]) (fun lo9 => [(lo, 3, [(.agg [.mp lm, eI b.edges, eI b.mark])]), (lo9, 2, List.map aB (out ++ ([(aC.mk mv.row x.1)]))), (lo7, 2, [(aB mv)])]) hO (by kernel_rfl) c7 ?_
  intro lo9 H hO
  refine bG ?_
  obtain rfl := oI h1
  replace hO := hO.pick (L' := [(lo, 3, [(.agg [.mp lm, eI b.edges, eI b.mark])]), (lo9, 2, List.map aB (out ++ ([(aC.mk mv.row x.1)])))]) [0, 1] (by decide) (by kernel_rfl)
  exact aK (bD (⟨rfl, _, _, _, hlt, hleft, hall, _, lo9, rfl, bF, hO⟩))

theorem aAX (lo lm : Nat) (b : bU) (x0 : aI) (r : Bool) (h0 : KB b.mark x0 = some r) : rU Try.prog 15 lo 3 [(.agg [.mp lm, eI b.edges, eI b.mark])] [(.agg [.mp lm, eI b.edges, eI b.mark])] [(aO x0), (.rp (.lp lo 0 0))] (aG r) := by
  intro H0 hl0
  refine dP Try.func15 ?_
  have hO := aN.uP hl0
  clear hl0
  unfold KB at h0
  refine aP ?_
  refine aU aF 2 ?_
  refine xG 3 (aO x0) ?_
  refine bG ?_
  refine bC [(1, (.rp (.lp lo 0 0))), (2, (.rp (aO x0)))] ?_
  refine aP ?_
  refine jS (iZ [5, 6]) aF 8 ?_
  refine qD 5 ?_
  refine jP 0 lo 3 0 (.agg [.mp lm, eI b.edges, eI b.mark]) (eI b.mark) [(.agg [.mp lm, eI b.edges, eI b.mark])] hO rfl ?_
  refine nX ?_
  refine bC [(3, (aG (decide (x0.At < b.mark))))] ?_
  refine bR ?_
  obtain rfl := oI h0
  exact aK (nF (x := (aG (decide (x0.At < b.mark)))) (by kernel_rfl) (aQ.refl _) ⟨rfl, hO.ext, hO.at 0 (by kernel_rfl), rfl⟩)

theorem XG (l0 : (List aI)) (r : (List aI)) (h0 : AR l0 = some r) : dK Try.prog 16 [(eL aO l0)] (.fn (.func 30) [] [(.rp (eL aO r))]) := by
  intro H0
  refine dP Try.func16 ?_
  have hO := aN.start H0
  unfold AR at h0
  refine aP ?_
  refine aU aF 2 ?_
  refine xG 1 (eL aO l0) ?_
  refine bG ?_
  refine bC [(1, (.rp (eL aO l0)))] ?_
  refine cJ aF 2 [(2, (.fn (.func 30) [] [(.rp (eL aO l0))]))] ?_
  refine bR ?_
  obtain rfl := oI h0
  exact aK (nF (x := (.fn (.func 30) [] [(.rp (eL aO l0))])) (by kernel_rfl) (aQ.refl _) ⟨rfl, hO.out⟩)

end Go.Abs
