/- What the law BagForgets stands on: the framework, the given functions as plain functions, their walks, and the plain laws; part 3. -/
import Derived.Test.YtapehjfhmhfaoaaBagForgetsZ2
set_option linter.unusedSimpArgs false
set_option linter.unusedVariables false
namespace Go.Abs
open Go Go.RowKit
section
variable {P : Program} {tt : TT} {H : aS} {K : V → aS → Prop}
theorem aEt (htt : iN P tt) {args : Array Operand} {t t' e : TypeId} {te : TyE} (hu : P.underlying t = some (.slice e)) (hu' : P.underlying t' = some .string) (hte : tt e = some te) (hz0 : sD te.zero te.size = true) (h1 : te.size = 1) {s : V} {bs : ByteArray} {es : List V} (hs : BT te.size H s = some es)
    (hb : (es.length + bs.size) * te.bytes ≤ 140737488355328) (h63 : es.length + bs.size ≤ 9223372036854775807)
    (h : K (.msl te.size H.length 0 (es.length + bs.size)) (zD te.size H s (es ++ bs.data.toList.map fun b => bN .u8 (b.toNat : Int)))) : sX P (.call ⟨.builtin .append, args, #[t, t']⟩) [s, qF bs] H K := by
  intro ro o a g w next R ho hsr hx hn
  obtain ⟨hlen, hx⟩ := hx
  have hops : (Op.call ⟨.builtin .append, args, #[t, t']⟩).operands = args := by simp [Op.operands, Call.operands]
  rw [hops] at hlen hx
  obtain ⟨u1, u2, h2⟩ : ∃ u1 u2, args.map a.eval = #[u1, u2] := by
    generalize args.map a.eval = as0 at hlen
    obtain ⟨l⟩ := as0
    match l, hlen with
    | [u1, u2], _ => exact ⟨u1, u2, rfl⟩
  rw [h2] at hx
  have r1 := hx 0 s u1 rfl rfl
  have r2 := (hx 1 (qF bs) u2 rfl rfl).oC
  have hys : (bs.data.toList.map fun b => bN .u8 (b.toNat : Int)).length = bs.size := by rw [List.length_map, Array.length_toList]; rfl
  obtain ⟨v, w', g', hrun, hrep, hsr', hext⟩ := MS (ty := o.type) (e' := e) (vx := .string bs) (ys := bs.data.toList.map fun b => bN .u8 (b.toNat : Int)) (news := bs.data.toList.map fun b => Value.int .u8 (b.toNat : Int)) htt hsr hu (.inr hu') hte hz0 r1 hs
    (fun w => by rw [hys]; rfl)
    ⟨by rw [h1, List.length_map, List.length_map, Nat.mul_one], ⟨fun i => Value.int .u8 ((bs.data.toList.map fun b => (b.toNat : Int)).getD i 0), fun i y hy => by
      simp only [List.getElem?_map, Option.map_eq_some_iff] at hy
      obtain ⟨b, hb', rfl⟩ := hy
      have e1 : (bs.data.toList.map fun b => (b.toNat : Int)).getD i 0 = (b.toNat : Int) := by rw [List.getD_eq_getElem?_getD, List.getElem?_map, hb']; rfl
      show Rep g w (bN .u8 (b.toNat : Int)) (Value.int .u8 ((bs.data.toList.map fun b => (b.toNat : Int)).getD i 0)) ∧ (Value.int .u8 ((bs.data.toList.map fun b => (b.toNat : Int)).getD i 0)).cells.size = te.size ∧ ∀ (j : Nat) z, (Value.int .u8 ((bs.data.toList.map fun b => (b.toNat : Int)).getD i 0)).cells[j]? = some z → (bs.data.toList.map fun b => Value.int .u8 (b.toNat : Int))[i * te.size + j]? = some z
      rw [e1]
      refine ⟨.lit _ rfl, by rw [h1]; rfl, fun j z hz => ?_⟩
      have hj : j = 0 := by
        have := (Array.getElem?_eq_some_iff.1 hz).1
        simp [Value.cells] at this; omega
      subst hj
      have : z = Value.int .u8 (b.toNat : Int) := by
        simp [Value.cells] at hz; exact hz.symm
      subst this
      rw [h1, Nat.mul_one, Nat.add_zero, List.getElem?_map, hb']; rfl⟩, fun z hz => by
      obtain ⟨b, _, rfl⟩ := List.mem_map.1 hz
      rfl⟩
    (fun y hy => by
      obtain ⟨b, _, rfl⟩ := List.mem_map.1 hy
      rfl)
    (fun w1 _ => by
      rw [hys]
      have e1 : bs.extract 0 bs.size = bs := ByteArray.extract_zero_size
      simp only [Builtin.firstCells, Sem.run_pure, e1]
      congr 1
      apply Array.ext'
      simp)
    (by rw [hys]; exact hb) (by rw [hys]; exact h63)
  rw [hys] at hrep
  refine dZ (by rw [ho]; simp) (v := v) (w' := w') ?_ (hn _ _ g' w' v h hsr' hrep hext)
  cases o
  simp only at ho
  subst ho
  simp only [execOp, resolve, Sem.run_bind, Sem.run_pure, Result.andThen, invoke, builtin]
  rw [h2, r2, hrun]

theorem aDE {src dst e : TypeId} {x : Operand} {xs : List Int} (hs : P.underlying src = some (.slice e)) (he : P.underlying e = some (.int .u8)) (hd : P.underlying dst = some .string) (h : K (qF (strOfNums xs)) H) : sX P (.convert src dst x) [eL (bN .u8) xs] H K := by
  intro ro o a g w next R ho hsr hx hn
  have hops : (Op.convert src dst x).operands = #[x] := rfl
  rw [hops] at hx
  have r1 := hx.2 0 _ (a.eval x) rfl (by simp)
  obtain ⟨b, cap, cs, e1, hcs, _, hrun⟩ := SC (P := P) (k := 1) hsr r1 (DB fun _ => rfl)
  have e2 : cs = xs.map (Value.int .u8) := by
    obtain ⟨c, hc⟩ := hcs.rep
    apply List.ext_getElem?
    intro i
    by_cases hi : i < xs.length
    · have h1 : (xs.map (bN .u8))[i]? = some (bN .u8 xs[i]) := by simp [hi]
      obtain ⟨a1, a2, a3⟩ := hc i _ h1
      have a4 := a1.oC
      have := a3 0 (Value.int .u8 xs[i]) (by rw [a4]; rfl)
      simp at this
      rw [this]
      simp [hi]
    · have := hcs.len
      rw [List.getElem?_eq_none (by simp at this; omega), List.getElem?_eq_none (by simpa using Nat.le_of_not_lt hi)]
  subst e2
  have hr : (execOp a.eval o).run P w = .ok (.value (.string (strOfNums xs))) w := by
    cases o
    simp only at ho
    subst ho
    simp only [execOp, Sem.run_bind, Sem.run_pure]
    rw [e1]
    have h3 := hrun w (fun _ => rfl)
    rw [e1] at h3
    cases b with
    | none =>
      have h4 : xs = [] := by
        simp [Builtin.firstCells] at h3
        exact h3
      subst h4
      rw [run_convert_bytes_nil w src e hs he _ _ dst hd]
      rfl
    | some ad =>
      have h4 : (loadCells ad (xs.map (bN .u8)).length).run P w = .ok (xs.map (Value.int .u8)).toArray w := by
        simpa [Builtin.firstCells] using h3
      rw [run_convert_bytes_string w src dst e _ _ cap hs he hd, run_bytesToString w _ _ cap xs h4, foldl_push_bytes]
      simp [strOfNums, ByteArray.empty, ByteArray.emptyWithCapacity, Result.andThen]
      rfl
  exact dZ (by rw [ho]; simp) hr (hn _ _ g w _ h hsr (.lit _ rfl) (Ext.refl g w))

end
section rules
variable {P : Program} {tt : TT} {N : Nat} {T : Env} {H : aS} {ops : Array Oper} {K : Env → aS → Prop} {i n : Nat}
def aDW (N : Nat) (ops : Array Oper) (T : Env) (i : Nat) : Option (String × TypeId × List V) := match fK N ops i with
  | some (.call ⟨.invoke r name, args, _⟩) => match iV T [] (#[r] ++ args).toList with
    | some (.ifc t x :: as0) => some (name, t, x :: as0)
    | _ => none
  | _ => none

theorem aFk {H0 : Frame} {L : List (Nat × Nat × List V)} {name : String} {t : TypeId} {fid : Nat} {as0 : List V} {x : V} (hm : OG P t name = some fid) (hc : dK P fid as0 x) (hO : aN H0 H L)
    (h : ∀ H', aN H0 H' L → RWs P tt N ops (aH (i + 1) n) (T.bP (cF ops i) ([], x)) H' K) (hs : aH i n = i :: aH (i + 1) n := by kernel_rfl) (hd : aDW N ops T i = some (name, t, as0) := by kernel_rfl) : RWs P tt N ops (aH i n) T H K := by
  unfold aDW at hd
  split at hd
  · rename_i r nm args tys hp
    split at hd
    · rename_i t' x' as0' hx
      simp at hd; obtain ⟨rfl, rfl, rfl⟩ := hd
      exact wZ hs hp hx (aEr hm ((hc H).mono fun r H' ⟨e, hx⟩ => e ▸ h H' (hO.call hx)))
    · simp at hd
  · simp at hd

theorem YN {H0 : Frame} {L : List (Nat × Nat × List V)} (xs : List V) (k : Nat) (hO : aN H0 H L) (h : ∀ lo H', aN H0 H' (L ++ [(lo, k, xs)]) → RWs P tt N ops (aH (i + 1) n) (T.bP (cF ops i) ([], .msl k lo 0 xs.length)) H' K)
    (hs : aH i n = i :: aH (i + 1) n := by kernel_rfl) (hd : EI tt N ops T i = some (xs, k) := by kernel_rfl) : RWs P tt N ops (aH i n) T H K :=
  aHd hs hd (h _ _ (hO.new k xs))

def aBH (P : Program) (tt : TT) (N : Nat) (ops : Array Oper) (T : Env) (i : Nat) : Option (V × ByteArray) := match fK N ops i with
  | some (.call ⟨.builtin .append, args, tys⟩) => match iV T [] args.toList, tys.toList with
    | some [s, .lit (.string b)], [t, t'] => match P.underlying t, P.underlying t' with
      | some (.slice e), some .string => match tt e with
        | some te => match sD te.zero te.size && Nat.beq te.size 1 && Nat.beq te.bytes 1 with
          | true => some (s, b)
          | false => none
        | none => none
      | _, _ => none
    | _, _ => none
  | _ => none

theorem aGN {H0 : Frame} {L : List (Nat × Nat × List V)} (htt : iN P tt) (xs : List Int) (bs : ByteArray) (q lo : Nat) (L' : Nat → List (Nat × Nat × List V)) (hO : aN H0 H L)
    (hb : (xs.length + bs.size) * 1 ≤ 140737488355328 ∧ xs.length + bs.size ≤ 9223372036854775807)
    (h : ∀ lo' H', aN H0 H' (L' lo') → RWs P tt N ops (aH (i + 1) n) (T.bP (cF ops i) ([], .msl 1 lo' 0 (xs ++ bs.data.toList.map fun b => (b.toNat : Int)).length)) H' K)
    (hs : aH i n = i :: aH (i + 1) n := by kernel_rfl) (hd : aBH P tt N ops T i = some (.msl 1 lo 0 xs.length, bs) := by kernel_rfl) (hL : L[q]? = some (lo, 1, xs.map (bN .u8)) := by kernel_rfl)
    (hl : ∀ lo', L' lo' = L.set q (lo', 1, (xs ++ bs.data.toList.map fun b => (b.toNat : Int)).map (bN .u8)) := by intro _; kernel_rfl) : RWs P tt N ops (aH i n) T H K := by
  unfold aBH at hd
  split at hd
  · rename_i args tys hp
    split at hd
    · rename_i s b t t' hev hty
      split at hd
      · rename_i e h1 h2
        split at hd
        · rename_i te hte
          split at hd
          · rename_i hz
            simp at hd; obtain ⟨rfl, rfl⟩ := hd
            simp only [Bool.and_eq_true] at hz
            obtain ⟨⟨hz0, hz1⟩, hz2⟩ := hz
            have hz1 : te.size = 1 := Nat.eq_of_beq_eq_true hz1
            have hz2 : te.bytes = 1 := Nat.eq_of_beq_eq_true hz2
            obtain rfl : tys = #[t, t'] := by rw [← Array.toArray_toList (xs := tys), hty]
            have hlen : (xs.map (bN .u8)).length = xs.length := by simp
            refine wZ hs hp (xs := [.msl 1 lo 0 xs.length, qF b]) (by show _ = some [V.msl 1 lo 0 xs.length, V.lit (.string b)]; simpa [Op.operands, Call.operands] using hev) (aEt htt h1 h2 hte hz0 hz1 (es := xs.map (bN .u8)) ?_ ?_ ?_ ?_)
            · rw [hz1]; simp [BT, hO.at q hL]
            · rw [hlen, hz2]; exact hb.1
            · rw [hlen]; exact hb.2
            · have h3 := h H.length _ (by rw [hl]; exact hO.app (n := xs.length) q hL _)
              have e1 : (xs ++ b.data.toList.map fun b => (b.toNat : Int)).length = xs.length + b.size := by rw [List.length_append, List.length_map, Array.length_toList]; rfl
              have e2 : (xs ++ b.data.toList.map fun b => (b.toNat : Int)).map (bN .u8) = xs.map (bN .u8) ++ b.data.toList.map fun b => bN .u8 (b.toNat : Int) := by rw [List.map_append, List.map_map]; rfl
              rw [e1, e2] at h3
              rw [hlen, hz1]
              exact h3
          · simp at hd
        · simp at hd
      · simp at hd
    · simp at hd
  · simp at hd

def aBy (P : Program) (N : Nat) (ops : Array Oper) (T : Env) (i : Nat) : Option V := match fK N ops i with
  | some (.convert src dst x) => match P.underlying src, P.underlying dst with
    | some (.slice e), some .string => match P.underlying e with
      | some (.int .u8) => match cE T [] x with
        | some v => some v
        | none => none
      | _ => none
    | _, _ => none
  | _ => none

theorem aGy (xs : List Int) (h : RWs P tt N ops (aH (i + 1) n) (T.bP (cF ops i) ([], qF (strOfNums xs))) H K)
    (hs : aH i n = i :: aH (i + 1) n := by kernel_rfl) (hd : aBy P N ops T i = some (eL (bN .u8) xs) := by kernel_rfl) : RWs P tt N ops (aH i n) T H K := by
  unfold aBy at hd
  split at hd
  · rename_i src dst x hp
    split at hd
    · rename_i e h1 h2
      split at hd
      · rename_i h3
        split at hd
        · rename_i v hv
          simp at hd; subst hd
          exact wZ hs hp (xs := [eL (bN .u8) xs]) (by simp [Op.operands, iV, hv]) (aDE h1 h3 h2 h)
        · simp at hd
      · simp at hd
    · simp at hd
  · simp at hd

end rules
end Go.Abs
namespace Go.Abs
open Go Go.RowKit
section rules
variable {P : Program} {tt : TT} {N : Nat} {T : Env} {H : aS} {ops : Array Oper} {K : Env → aS → Prop} {i n : Nat} {H0 : aS} {E : List Nat} {G : Gs} {L : List (Nat × Nat × List V)}
theorem aA6 {β : Type} {f : β → V} {m : List (ByteArray × β)} {mty : TypeId} {mo ko : Operand} {l : Nat} {KV : V → aS → Prop} (htt : iN P tt) (k : ByteArray) (z : V) (hO : aN ⟨H0, E, (l, lZ f m) :: G⟩ H L) (hm : JM P tt mty = some z)
    (h0 : vM m k = none → KV z H) (h1 : ∀ v, vM m k = some v → KV (f v) H) : sX P (.lookup mty mo ko false) [.mp l, .lit (.string k)] H KV := by
  obtain ⟨kt, et, a1, a2, a3⟩ := UN htt hm
  have hl := (hO.gm 0 _ rfl).2
  refine aFc (kv := .string k) (z := z) a1 a2 trivial a3 hl (fun hnd hno => ?_) fun hnd j x hj => ?_
  · exact h0 (EB fun p hp' e => hno (.string p.1, f p.2) (List.mem_map.2 ⟨p, hp', rfl⟩) (by simp [e]))
  · have : ∃ y, m[j]? = some (k, y) ∧ f y = x := by
      simp only [pH, List.getElem?_map, Option.map_eq_some_iff] at hj
      obtain ⟨⟨a, b⟩, h3, h4⟩ := hj
      simp at h4
      exact ⟨b, by rw [h3, h4.1], h4.2⟩
    obtain ⟨y, hy, rfl⟩ := this
    exact h1 y (EC (GS hnd) hy)

def aFr (N : Nat) (ops : Array Oper) (i : Nat) : Bool := match fK N ops i with
  | some (.mapUpdate _ _ _ _) => true
  | _ => false

variable {TD : PE} {KD : PE → aS → Prop} {pl : Oper → Bool}
theorem WW {β : Type} {f : β → V} {m : List (ByteArray × β)} {mty : TypeId} {l : Nat} (htt : iN P tt) (k : ByteArray) (z : V) (hO : aN ⟨H0, E, (l, lZ f m) :: G⟩ H L)
    (h0 : vM m k = none → RD P tt N pl ops (aH (i + 1) n) (TD.bP (cF ops i) z) H KD) (h1 : ∀ v, vM m k = some v → RD P tt N pl ops (aH (i + 1) n) (TD.bP (cF ops i) (f v)) H KD)
    (hs : aH i n = i :: aH (i + 1) n := by kernel_rfl) (hd : VP N ops (lift TD) i = some (mty, l, .string k, false) := by kernel_rfl) (hm : JM P tt mty = some z := by kernel_rfl) : RD P tt N pl ops (aH i n) TD H KD := by
  unfold VP at hd
  split at hd
  · rename_i mty' m' k' ok' hp
    split at hd
    · rename_i l' kv e1 e2
      simp at hd; obtain ⟨rfl, rfl, rfl, rfl⟩ := hd
      refine OT hs hp (fun h => by cases h) (.inl ⟨rfl, rfl⟩) ?_
      exact ⟨[.mp l', .lit (.string k)], by simp [iV, e1, e2], aA6 htt k z hO hm (fun h => ⟨fun _ _ => fD.refl H, h0 h⟩) (fun v h => ⟨fun _ _ => fD.refl H, h1 v h⟩)⟩
    · simp at hd
  · simp at hd

theorem aCu {β : Type} {f : β → V} {m : List (ByteArray × β)} {mty : TypeId} {l : Nat} (k : ByteArray) (v : β) (hO : aN ⟨H0, E, (l, lZ f m) :: G⟩ H L) (h : ∀ H', aN ⟨H0, E, (l, lZ f (nI m k v)) :: G⟩ H' L → RD P tt N pl ops (aH (i + 1) n) (TD.bP (cF ops i) (.tup [])) H' KD)
    (hs : aH i n = i :: aH (i + 1) n := by kernel_rfl) (hd : aEb N ops (lift TD) i = some (mty, l, .string k, f v) := by kernel_rfl) (hm : yQ P mty = true := by kernel_rfl) (hu : aFr N ops i = true := by kernel_rfl) : RD P tt N pl ops (aH i n) TD H KD := by
  obtain ⟨kt, et, h1, h2⟩ := wP hm
  have fin : ∀ M', aCB (.string k) (f v) (pH f m) M' → RD P tt N pl ops (aH (i + 1) n) (TD.bP (cF ops i) (.tup [])) (H.set l (.raw (zJ QN M'))) KD := by
    intro M' hM
    rw [aD5 hM]
    exact h _ (hO.vH _)
  have hl := (hO.gm 0 _ rfl).2
  unfold aEb at hd
  split at hd
  · rename_i mty' m' k' x' hp
    split at hd
    · rename_i l' kv xv e1 e2 e3
      simp at hd; obtain ⟨rfl, rfl, rfl, rfl⟩ := hd
      refine OT hs hp (fun h => by cases h) (.inl ⟨rfl, rfl⟩) ?_
      exact ⟨[.mp l', .lit (.string k), f v], by simp [iV, e1, e2, e3], aE0 (.inl rfl) h1 h2 trivial rfl hl fun M' hM => ⟨fun h => by simp [CD] at h, fin M' hM⟩⟩
    · simp at hd
  · rename_i mty' m' k' x' hp
    exfalso
    unfold aFr at hu
    rw [hp] at hu
    cases hu
  · simp at hd

end rules
section
variable {P : Program} {tt : TT} {N : Nat} {T : Env} {H : aS} {ops : Array Oper} {K : Env → aS → Prop} {i n : Nat}
theorem sQ {H0 : aS} {E : List Nat} {G0 G : Gs} {L0 L : OL} {Post : V → Gs → OL → Prop} {fid : Nat} {as0 : List V} (ctx : Ctx) (b : Bool) (y : V) (M : Gs) (R : OL) (ix : List Nat) (hg : G0.Perm (M ++ G)) (hc : b = true → wQ P fid as0 M L Post) (hy : b = false → Post y M L) (hO : aN ⟨H0, E, G0⟩ H L0)
    (h : ∀ x M' L' H', Post x M' L' → aN ⟨H0, E, M' ++ G⟩ H' (L' ++ R) → RWs P tt N ops (aH (i + 1) n) (T.bP (cF ops i) (ctx, x)) H' K) (hnd : ix.Nodup := by decide) (hp : ix.map (fun i => L0[i]?) = (L ++ R).map some := by kernel_rfl)
    (hs : aH i n = i :: aH (i + 1) n := by kernel_rfl) (hd : DE N ops T i = some (ctx, fid, as0) := by kernel_rfl) (hb : gB T ctx = b := by kernel_rfl) : RWs P tt N ops (aH i n) T H K := by
  replace hO := hO.CI hg
  unfold DE at hd
  split at hd
  · rename_i ctx' f args tys hp'
    split at hd
    · rename_i ys cs xs hf hx
      simp at hd; obtain ⟨rfl, rfl, rfl⟩ := hd
      rw [hs]
      obtain ⟨o, ho, e, hctx, hdd, hdst⟩ := KB hp'
      rw [hdst] at h
      refine ⟨T, H, nK.refl _ _ _, o, ctx', ho, hctx, hdd, .inr ⟨fun hg => .inl ?_, fun hg => ?_⟩⟩
      · rw [e]
        refine ⟨_, xs, hf, hx, .inl ?_⟩
        have h1 := hc (hb.symm.trans hg) ⟨H0, E, up R ++ G⟩ H (hO.pick ix hnd hp).aFt
        simp only [List.append_assoc] at h1 ⊢
        exact h1.mono fun _ H' ⟨M', L', hP, hO'⟩ => h _ M' L' H' hP hO'.aFq
      · exact ⟨y, h y M L H (hy (hb.symm.trans hg)) (hO.pick ix hnd hp)⟩
    · simp at hd
  · simp at hd

end
theorem EA {N : Nat} {Q : Exit → Env → aS → List Nat → Prop} {ds : List Nat} {e : Exit} {T : Env} {H H0 : aS} {E : List Nat} {G : Gs} {L : OL} {β : Type} {f : β → V} {m : List (ByteArray × β)} {bs : List Nat} {l clock : Nat} (hO : aN ⟨H0, E, (l, xF f m bs clock) :: G⟩ H L)
    (h : ∀ H', aN ⟨H0, E, (l, lZ f m) :: G⟩ H' L → Cl N Q e T H' ds) : Cl N Q e T H ds :=
  LB (fun g w _ _ hg => ⟨g, ⟨hg.sr.aGm (hO.gm 0 _ rfl).2 (s' := zJ QN (pH f m)) fun _ _ _ _ ⟨es, h1, _, h3, h4, h5⟩ => ⟨es, clock, h1, h3, h4, h5⟩, hg.tr, hg.df, hg.dl, hg.sz⟩, Ext.refl g w⟩) (h _ (hO.vH _))

theorem VJ {S A B R : Type} {body : S ⊕ B → A → Option (S ⊕ B)} {after : S ⊕ B → Option R} {e : B} {r : R} (hb : ∀ x, body (.inr e) x = some (.inr e)) : ∀ {q : List A}, (mS body (.inr e) q).bind after = some r → after (.inr e) = some r
  | [], h => h
  | x :: q, h => by
    simp only [mS, hb, Option.bind_some] at h
    exact VJ hb h

end Go.Abs
namespace Go.Abs
open Go Go.RowKit
variable {P : Program} {tt : TT} {ro : Option Nat} {N : Nat} {H : aS} {ds : List Nat} {pl : Oper → Bool}
def HP (ops : Array Oper) (i : Nat) : List Nat := match ops[i]? with
  | some o => (o.after.toList.filter fun e => Region.binds .any e).map (·.on)
  | none => []

def aFu (ops : Array Oper) : Bool := (List.range ops.size).all fun i => (HP ops i).all fun j => Nat.blt j i

abbrev UM (f : Nat → Bool) (i : Nat) : Nat → Bool := fun k => Nat.beq k i || f k

def aAh (ops : Array Oper) (f : Nat → Bool) : Prop := ∀ k, f k = true → ∀ j ∈ HP ops k, f j = true

theorem SI {ops : Array Oper} {i : Nat} {o : Oper} (ho : ops[i]? = some o) {j : Nat} : j ∈ HP ops i ↔ ∃ e ∈ o.after, Region.binds .any e = true ∧ e.on = j := by
  unfold HP
  rw [ho]
  simp only [List.mem_map, List.mem_filter, Array.mem_toList_iff]
  constructor
  · rintro ⟨e, ⟨h1, h2⟩, h3⟩; exact ⟨e, h1, h2, h3⟩
  · rintro ⟨e, h1, h2, h3⟩; exact ⟨e, ⟨h1, h2⟩, h3⟩

theorem aF6 (htt : iN P tt) {ops : Array Oper} {Inv : (Nat → Bool) → PE → aS → Prop} {K : PE → aS → Prop} {R : Exit → Act → World → Prop} (haft : aFu ops = true)
    (hstep : ∀ i f T H, i < ops.size → f i = false → aAh ops f → (∀ j ∈ HP ops i, f j = true) → Inv f T H → RD P tt N pl ops (aH i (i + 1)) T H (fun T' H' => Inv (UM f i) T' H'))
    (hend : ∀ f T H, (∀ i, i < ops.size → f i = true) → Inv f T H → K T H) :
    ∀ (fuel : Nat) (listed : Array Bool), listed.size = ops.size → ((List.range ops.size).filter fun i => !listed.getD i false).length = fuel → aAh ops (fun k => listed.getD k false) → ∀ (T : PE) (H : aS) (g : Gh) (w : World) (a : Act), Good N g w (lift T) H ds a → Inv (fun k => listed.getD k false) T H →
      (∀ T' H' g' w' a', K T' H' → Good N g' w' (lift T') H' ds a' → Ext g w g' w' → R .normal a' w') → wpAnyIn (FR ro) 0 P .any ops R fuel listed a w := by
  have hun0 : ∀ (listed : Array Bool) (i : Nat), listed.size = ops.size → i < ops.size → listed.getD i true = listed.getD i false := by
    intro listed i hs hi
    rw [Array.getD_eq_getD_getElem?, Array.getD_eq_getD_getElem?, Array.getElem?_eq_getElem (by rw [hs]; exact hi)]
    rfl
  intro fuel
  induction fuel with
  | zero =>
    intro listed hsz hL hcl T H g w a hg h hr
    have hall : ∀ i, i < ops.size → listed.getD i false = true := by
      intro i hi
      have := List.length_eq_zero_iff.1 hL
      rw [List.filter_eq_nil_iff] at this
      have := this i (List.mem_range.2 hi)
      simpa using this
    refine ⟨?_, hr T H g w a (hend _ T H hall h) hg (Ext.refl g w)⟩
    rw [List.eq_nil_iff_forall_not_mem]
    intro i hi
    obtain ⟨h0, o, ho, _⟩ := mem_ready.1 hi
    have hlt := (Array.getElem?_eq_some_iff.1 ho).1
    rw [hun0 listed i hsz hlt, hall i hlt] at h0
    cases h0
  | succ fuel ih =>
    intro listed hsz hL hcl T H g w a hg h hr
    refine ⟨fun hnil => ?_, fun i hi => ?_⟩
    · exfalso
      have hex : ∃ i, i < ops.size ∧ listed.getD i false = false := by
        cases hf : (List.range ops.size).filter fun i => !listed.getD i false with
        | nil => rw [hf] at hL; simp at hL
        | cons i r =>
          have : i ∈ (List.range ops.size).filter fun i => !listed.getD i false := by rw [hf]; exact List.mem_cons_self ..
          rw [List.mem_filter, List.mem_range] at this
          exact ⟨i, this.1, by simpa using this.2⟩
      have hmin : ∀ n i, i ≤ n → i < ops.size → listed.getD i false = false → ∃ m, m < ops.size ∧ listed.getD m false = false ∧ ∀ j, j < m → listed.getD j false = true := by
        intro n
        induction n with
        | zero => intro i hi hl hf; exact ⟨i, hl, hf, fun j hj => by omega⟩
        | succ n ihn =>
          intro i hi hl hf
          cases Classical.em (∃ j, j < i ∧ listed.getD j false = false) with
          | inl hj => obtain ⟨j, hj, hjf⟩ := hj; exact ihn j (by omega) (by omega) hjf
          | inr hj => exact ⟨i, hl, hf, fun j hji => by
              cases hx : listed.getD j false with
              | true => rfl
              | false => exact absurd ⟨j, hji, hx⟩ hj⟩
      obtain ⟨i0, hi0, hf0⟩ := hex
      obtain ⟨m, hm, hmf, hless⟩ := hmin i0 i0 (Nat.le_refl _) hi0 hf0
      have hrd : m ∈ Region.ready .any ops listed := by
        refine mem_ready.2 ⟨by rw [hun0 listed m hsz hm]; exact hmf, ops[m], Array.getElem?_eq_getElem hm, fun e he hb => ?_⟩
        refine hless _ ?_
        have h1 := List.all_eq_true.1 haft m (List.mem_range.2 hm)
        have h2 := List.all_eq_true.1 h1 e.on ((SI (Array.getElem?_eq_getElem hm)).2 ⟨e, he, hb, rfl⟩)
        exact Nat.le_of_ble_eq_true h2
      rw [hnil] at hrd; cases hrd
    · obtain ⟨h0, oi, hoi, hall⟩ := mem_ready.1 hi
      have hlt := (Array.getElem?_eq_some_iff.1 hoi).1
      have hun : listed.getD i false = false := by rw [← hun0 listed i hsz hlt]; exact h0
      have hdeps : ∀ j ∈ HP ops i, listed.getD j false = true := by
        intro j hj
        obtain ⟨e, he, hb, rfl⟩ := (SI hoi).1 hj
        exact hall e he hb
      have hs := hstep i (fun k => listed.getD k false) T H hlt hun hcl hdeps h
      have hf1 : aH i (i + 1) = [i] := by simp [aH]
      rw [hf1] at hs
      obtain ⟨o', ho', hs⟩ := hs
      rw [hoi] at ho'; cases ho'
      have hge : ∀ k, (listed.setIfInBounds i true).getD k false = (Nat.beq k i || listed.getD k false) := by
        intro k
        by_cases hki : k = i
        · subst hki
          rw [Array.getD_eq_getD_getElem?, Array.getElem?_setIfInBounds]
          simp [hsz, hlt]
        · rw [getD_set_ne false (Ne.symm hki)]
          have : Nat.beq k i = false := by
            cases hb : Nat.beq k i with
            | false => rfl
            | true => exact absurd (Nat.eq_of_beq_eq_true hb) hki
          rw [this]; rfl
      refine OS htt hoi hs hg ?_
      intro T1 H1 g1 w1 a1 hn hg1 hx1
      have hfe : (fun k => (listed.setIfInBounds i true).getD k false) = UM (fun k => listed.getD k false) i := funext hge
      refine ih (listed.setIfInBounds i true) (by simp [hsz]) ?_ ?_ T1 H1 g1 w1 a1 hg1 (by rw [hfe]; exact hn) (fun T' H' g' w' a' hk hg' hx' => hr T' H' g' w' a' hk hg' (hx1.trans hx'))
      · have hcount : ∀ (L : List Nat), L.Nodup → i ∈ L → ((L.filter fun k => !(listed.setIfInBounds i true).getD k false).length) + 1 = (L.filter fun k => !listed.getD k false).length := by
          intro L
          induction L with
          | nil => intro _ hm; cases hm
          | cons x L ihL =>
            intro hnd hm
            have hnd' := List.nodup_cons.1 hnd
            by_cases hxi : x = i
            · subst hxi
              have hrest : (L.filter fun k => !(listed.setIfInBounds x true).getD k false) = L.filter fun k => !listed.getD k false := by
                refine List.filter_congr fun k hk => ?_
                have hne : k ≠ x := fun e => hnd'.1 (e ▸ hk)
                rw [getD_set_ne false (Ne.symm hne)]
              have hb : Nat.beq x x = true := Nat.beq_refl x
              rw [List.filter_cons, List.filter_cons, hge, hb, hun, hrest]
              simp
            · have hm' : i ∈ L := by
                rcases List.mem_cons.1 hm with e | e
                · exact absurd e.symm hxi
                · exact e
              have := ihL hnd'.2 hm'
              rw [List.filter_cons, List.filter_cons, getD_set_ne false (Ne.symm hxi)]
              split
              · simp only [List.length_cons]; omega
              · exact this
        have := hcount (List.range ops.size) List.nodup_range (List.mem_range.2 hlt)
        omega
      · rw [hfe]
        intro k hk j hj
        show (Nat.beq j i || listed.getD j false) = true
        replace hk : (Nat.beq k i || listed.getD k false) = true := hk
        rw [Bool.or_eq_true] at hk ⊢
        refine .inr ?_
        rcases hk with hk | hk
        · rw [Nat.eq_of_beq_eq_true hk] at hj; exact hdeps j hj
        · exact hcl k hk j hj

theorem aHk (pl : Oper → Bool) (htt : iN P tt) {c : Code} (n : Nat) {l : List (Nat × V)} {Q : Exit → Env → aS → List Nat → Prop} (Inv : (Nat → Bool) → PE → aS → Prop) (h0 : ∀ f, (∀ k, f k = false) → Inv f (PE.ofL l) H)
    (hstep : ∀ i f T H, i < n → f i = false → aAh c.ops f → (∀ j ∈ HP c.ops i, f j = true) → Inv f T H → RD P tt N pl c.ops (aH i (i + 1)) T H (fun T' H' => Inv (UM f i) T' H'))
    (hend : ∀ f T H, (∀ i, i < n → f i = true) → Inv f T H → ClK l N Q .normal (lift T) H ds)
    (hm : P.follows .mixedOrders = true := by kernel_rfl) (hk : c.kind = 8 := by kernel_rfl) (hn : c.ops.size = n := by kernel_rfl) (haft : aFu c.ops = true := by kernel_rfl) : AWP P ro N c (Env.ofL l) H ds Q := by
  refine OI ?_
  cases c with
  | region id ops draw =>
    cases draw with
    | true =>
      intro g w a R hg hr
      simp only [Code.ops] at hn haft hstep
      subst hn
      refine wpIn_region_any hm ?_
      have hg0 : Good N g w (lift (PE.ofL l)) H ds a := by rw [aAd]; exact hg
      obtain ⟨d1, d2⟩ := hg0.sr.drew
      have hfe : (fun k => (Array.replicate ops.size false).getD k false) = fun _ => false := funext fun k => EL _ k
      refine aF6 (ro := ro) htt (ops := ops) (Inv := Inv) (pl := pl) haft hstep hend ops.size (Array.replicate ops.size false) (by simp) ?_ ?_ (PE.ofL l) H g _ a (hg0.step d2 d1 (hg0.tr.ext d2) rfl rfl) (by rw [hfe]; exact h0 _ fun _ => rfl)
        (fun T' H' g' w' a' hk hg' hx => hr _ _ _ _ _ _ _ hk hg' (d2.trans hx))
      · rw [List.filter_eq_self.2 (fun k _ => by rw [EL]; rfl)]
        simp
      · intro k hk
        exact absurd ((EL _ _).symm.trans hk) (by simp)
    | false => simp [Code.kind] at hk
  | _ => simp [Code.kind] at hk

def qH (T : PE) : List (Nat × V) → Prop
  | [] => True
  | p :: r => T p.1 = some p.2 ∧ qH T r

def ovP (l : List (Nat × V)) (T : PE) : PE := fun t => match PE.ofL l t with
  | some v => some v
  | none => T t

theorem qH.ofL {T : PE} : ∀ {l : List (Nat × V)}, qH T l → ∀ t v, PE.ofL l t = some v → T t = some v
  | [], _, t, v, h => by simp [PE.ofL] at h
  | p :: r, hp, t, v, h => by
    obtain ⟨h1, h2⟩ := hp
    simp only [PE.ofL, PE.set] at h
    split at h
    · rename_i hb
      cases h
      rw [Nat.eq_of_beq_eq_true hb]; exact h1
    · exact qH.ofL h2 t v h

theorem KY {l : List (Nat × V)} {T : PE} (h : qH T l) : ovP l T = T := by
  funext t
  unfold ovP
  split
  · rename_i v hv
    exact (h.ofL t v hv).symm
  · rfl

theorem aCb {ops : Array Oper} {is : List Nat} {T : PE} {K : PE → aS → Prop} (l : List (Nat × V)) (hT : qH T l) (h : RD P tt N pl ops is (ovP l T) H K) : RD P tt N pl ops is T H K := by rw [KY hT] at h; exact h

def sM (f : Nat → Bool) (T : PE) : List (Nat × Nat × V) → Prop
  | [] => True
  | p :: r => (f p.1 = true → T p.2.1 = some p.2.2) ∧ sM f T r

def aAv (i d : Nat) (x : V) : List (Nat × Nat × V) → Prop
  | [] => True
  | p :: r => ((Nat.beq p.2.1 d = true ∧ p.2.2 = x) ∨ (Nat.beq p.2.1 d = false ∧ Nat.beq p.1 i = false)) ∧ aAv i d x r

def XU (i : Nat) : List (Nat × Nat × V) → Bool
  | [] => true
  | p :: r => !Nat.beq p.1 i && XU i r

def XM (d : Nat) : List (Nat × V) → Bool
  | [] => true
  | p :: r => !Nat.beq p.1 d && XM d r

theorem qH.put {T : PE} {d : Nat} (x : V) : ∀ {l : List (Nat × V)}, qH T l → XM d l = true → qH (T.bP (some d) x) l
  | [], _, _ => trivial
  | p :: r, h, hf => by
    simp only [XM, Bool.and_eq_true, Bool.not_eq_true'] at hf
    refine ⟨?_, qH.put x h.2 hf.2⟩
    show (T.set d x) p.1 = _
    simp only [PE.set, hf.1]
    exact h.1

theorem sM.put {f : Nat → Bool} {T : PE} {i d : Nat} {x : V} : ∀ {l : List (Nat × Nat × V)}, sM f T l → aAv i d x l → sM (UM f i) (T.bP (some d) x) l
  | [], _, _ => trivial
  | p :: r, h, hs => by
    refine ⟨fun hp => ?_, sM.put h.2 hs.2⟩
    show (T.set d x) p.2.1 = _
    simp only [PE.set]
    rcases hs.1 with ⟨h1, h2⟩ | ⟨h1, h2⟩
    · rw [h1, h2]
    · rw [h1]
      replace hp : (Nat.beq p.1 i || f p.1) = true := hp
      rw [h2, Bool.false_or] at hp
      exact h.1 hp

theorem sM.stay {f : Nat → Bool} {T : PE} {i : Nat} : ∀ {l : List (Nat × Nat × V)}, sM f T l → XU i l = true → sM (UM f i) T l
  | [], _, _ => trivial
  | p :: r, h, hs => by
    simp only [XU, Bool.and_eq_true, Bool.not_eq_true'] at hs
    refine ⟨fun hp => ?_, sM.stay h.2 hs.2⟩
    replace hp : (Nat.beq p.1 i || f p.1) = true := hp
    rw [hs.1, Bool.false_or] at hp
    exact h.1 hp

theorem sM.start {f : Nat → Bool} (hf : ∀ k, f k = false) {T : PE} : ∀ (l : List (Nat × Nat × V)), sM f T l
  | [] => trivial
  | p :: r => ⟨fun h => by rw [hf] at h; (cases h), sM.start hf r⟩

theorem sM.done {f : Nat → Bool} {T : PE} {n : Nat} (hf : ∀ k, k < n → f k = true) : ∀ {l : List (Nat × Nat × V)}, sM f T l → (l.all fun p => Nat.blt p.1 n) = true → qH T (l.map (·.2))
  | [], _, _ => trivial
  | p :: r, h, hn => by
    rw [List.all_cons, Bool.and_eq_true] at hn
    exact ⟨h.1 (hf _ (Nat.le_of_ble_eq_true hn.1)), sM.done hf h.2 hn.2⟩

theorem qH.append {T : PE} : ∀ {l m : List (Nat × V)}, qH T l → qH T m → qH T (l ++ m)
  | [], _, _, h => h
  | _ :: _, _, h1, h2 => ⟨h1.1, h1.2.append h2⟩

theorem qH.aGJ : ∀ (l : List (Nat × V)), (l.map (·.1)).Nodup → qH (PE.ofL l) l
  | [], _ => trivial
  | p :: r, hn => by
    rw [List.map_cons, List.nodup_cons] at hn
    refine ⟨by simp [PE.ofL, PE.set], ?_⟩
    have : ∀ (m : List (Nat × V)), (∀ q ∈ m, q.1 ≠ p.1) → qH (PE.ofL r) m → qH (PE.ofL (p :: r)) m := by
      intro m
      induction m with
      | nil => intro _ _; trivial
      | cons q m ih =>
        intro hq hm
        refine ⟨?_, ih (fun x hx => hq x (List.mem_cons_of_mem _ hx)) hm.2⟩
        simp only [PE.ofL, PE.set]
        have hb : Nat.beq q.1 p.1 = false := by
          cases hb : Nat.beq q.1 p.1 with
          | false => rfl
          | true => exact absurd (Nat.eq_of_beq_eq_true hb) (hq q (List.mem_cons_self ..))
        rw [hb]; exact hm.1
    exact this r (fun q hq e => hn.1 (e ▸ List.mem_map_of_mem hq)) (qH.aGJ r hn.2)

theorem aHi {Q : Exit → Env → aS → List Nat → Prop} {X : Env → aS → List Nat → Prop} {T : PE} (l : List (Nat × V)) (m : List (Nat × V)) (hT : qH T m) (next : X (Env.ofL l) H ds)
    (h : l.map (fun p => ovP m T p.1) = l.map (fun p => some p.2) := by kernel_rfl) : Cl N (uF X Q) .normal (lift T) H ds := by
  rw [KY hT] at h
  refine dX (l := l) (.eq ?_) (aI next)
  have : ∀ (l : List (Nat × V)), l.map (fun p => T p.1) = l.map (fun p => some p.2) → l.map (fun p => lift T p.1) = l.map (fun p => some ([], p.2)) := by
    intro l
    induction l with
    | nil => intro _; rfl
    | cons p r ih =>
      intro h
      simp only [List.map_cons, List.cons.injEq] at h ⊢
      exact ⟨by simp [lift, h.1], ih h.2⟩
  exact this l h

theorem qH.BE {T : PE} {dO : Option Tmp} {l : List (Nat × V)} (d : Nat) (x : V) (h : qH T l) (hd : dO = some d := by kernel_rfl) (hf : XM d l = true := by kernel_rfl) : qH (T.bP dO x) l := by
  subst hd; exact h.put x hf

theorem sM.BE {f : Nat → Bool} {T : PE} {i : Nat} {dO : Option Tmp} {x : V} {l : List (Nat × Nat × V)} (d : Nat) (h : sM f T l) (hs : aAv i d x l) (hd : dO = some d := by kernel_rfl) : sM (UM f i) (T.bP dO x) l := by
  subst hd; exact h.put hs

theorem yP {j : Nat} {l : List Nat} (h : l.any (Nat.beq j) = true) : j ∈ l := by
  obtain ⟨x, hx, e⟩ := List.any_eq_true.1 h
  rw [Nat.eq_of_beq_eq_true e]; exact hx

theorem aCo {ops : Array Oper} {i : Nat} {T : PE} {K : PE → aS → Prop} (l : List (Nat × V)) (d : Nat) (x : V) (hT : qH T l) (h : K (T.bP (some d) x) H) (hc : DS tt N ops (aH i (i + 1)) (ovP l T) = some [] := by kernel_rfl)
    (he : DX tt ops (aH i (i + 1)) (ovP l T) = (ovP l T).bP (some d) x := by kernel_rfl) : RD P tt N pl ops (aH i (i + 1)) T H K := by
  refine aCb l hT (LX hc trivial ?_)
  rw [he, KY hT]; exact h

end Go.Abs
namespace Go.Abs
open Go
structure aE where
  Kind : Int
  Num : Int
  Text : ByteArray
  deriving Inhabited, DecidableEq

def QF (x : aE) : List V := [(bN .i64 x.Kind)] ++ [(bN .i64 x.Num)] ++ [(qF x.Text)]

def aL (x : aE) : V := .agg (QF x)

structure aM where
  Row : (List aE)
  At : Int
  Net : Int
  deriving Inhabited, DecidableEq

def SA (x : aM) : List V := [(eL aL x.Row)] ++ [(bN .i64 x.At)] ++ [(bN .i64 x.Net)]

def aR (x : aM) : V := .agg (SA x)

structure aD where
  At : Int
  Net : Int
  deriving Inhabited, DecidableEq

def aCJ (x : aD) : List V := [(bN .i64 x.At)] ++ [(bN .i64 x.Net)]

def aK (x : aD) : V := .agg (aCJ x)

structure aC where
  row : (List aE)
  jumps : (List aD)
  deriving Inhabited, DecidableEq

def aCp (x : aC) : List V := [(eL aL x.row)] ++ [(eL aK x.jumps)]

def aB (x : aC) : V := .agg (aCp x)

inductive bI where
  | none_
  | k_number (x : Int)
  | k_words (x : ByteArray)
  deriving DecidableEq

instance : Inhabited bI := ⟨.none_⟩

def bF : bI → V
  | .none_ => .lit .nilIface
  | .k_number x => .ifc 105 (bN .i64 x)
  | .k_words x => .ifc 109 (qF x)

structure bY where
  cells : List (ByteArray × aC)
  edges : Int
  mark : Int
  deriving Inhabited, DecidableEq

def iB (lo lm : Nat) (b : bY) : Nat × Nat × List V := (lo, 3, [(.agg [.mp lm, eI b.edges, eI b.mark])])

def dQ (lm : Nat) (b : bY) : Nat × dS := (lm, lZ aB b.cells)

def lC (m : List (ByteArray × aC)) (k : ByteArray) : List aD := ((vM m k).getD default).jumps

noncomputable def xQ : Option bY := some ⟨[], 0, -1⟩

noncomputable def wB (l0 : (List aM)) : Option ((List aM)) :=
  some l0

noncomputable def kT  : Option Bool :=
  some true

noncomputable def iG (s10 : (List aE)) (s21 : (List aE)) (t12 : Int) (t13 : Int) : Option ((Int) ⊕ (Unit ⊕ Bool)) :=
  cond (decide (t13 < t12))
  (aT (0 ≤ t13 ∧ t13 < ((List.length s10 : Nat) : Int)) <|
  aT (0 ≤ t13 ∧ t13 < ((List.length s21 : Nat) : Int)) <|
  cond (!((decide (((List.getD s10 (Int.toNat t13) default).Kind) = ((List.getD s21 (Int.toNat t13) default).Kind))) && ((decide (((List.getD s10 (Int.toNat t13) default).Num) = ((List.getD s21 (Int.toNat t13) default).Num))) && ((sB ((List.getD s10 (Int.toNat t13) default).Text) ((List.getD s21 (Int.toNat t13) default).Text)) && true))))
  (some (.inr (.inr false)))
  (some (.inl (IntKind.i64.wrap (t13 + (1 : Int))))))
  (some (.inr (.inl ())))

noncomputable def mT (s10 : (List aE)) (s21 : (List aE)) (t12 : Int) (t13 : Int) : Option Bool :=
  (lp (fun s => iG s10 s21 t12 s) t13).bind (Sum.elim (fun rr => kT ) (fun rr => some rr))

noncomputable def mZ (s10 : (List aE)) (s21 : (List aE)) : Option Bool :=
  cond (!decide (((List.length s10 : Nat) : Int) = ((List.length s21 : Nat) : Int)))
  (some false)
  (mT s10 s21 ((List.length s10 : Nat) : Int) (0 : Int))

noncomputable def CO (a0 : (List aE)) (b1 : (List aE)) : Option Bool :=
  (mZ a0 b1).bind fun x1 =>
  some x1

noncomputable def yM (r0 : (List aE)) : Option (List aE) :=
  aT (0 ≤ ((List.length r0 : Nat) : Int) ∧ (32 : Int) * ((List.length r0 : Nat) : Int) ≤ 281474976710656 ∧ ((List.length r0 : Nat) : Int) ≤ 9223372036854775807) <|
  aT ((List.length ([] : List aE) + List.length r0) * 32 ≤ 140737488355328 ∧ List.length ([] : List aE) + List.length r0 ≤ 9223372036854775807) <|
  some (([] : List aE) ++ r0)

noncomputable def sN {σ : Type} (kP : σ → (List aE) → (List aD) → Option (σ × Bool)) (sg : σ) (t1 : (List aM)) (i3 : Int) (r4 : (List aE)) (f5 : List aD) : Option ((σ × Int) ⊕ (σ ⊕ σ)) :=
  (yM r4).bind fun x7 =>
  (kP sg x7 f5).bind fun x10 =>
  cond (!x10.2)
  (some (.inr (.inr x10.1)))
  (some (.inl (x10.1, i3)))

noncomputable def nE {σ : Type} (kP : σ → (List aE) → (List aD) → Option (σ × Bool)) (t1 : (List aM)) (r4 : (List aE)) (sg : σ) (i3 : Int) (f5 : List aD) : Option ((σ × Int × List aD) ⊕ ((σ × Int × List aD))) :=
  aT ((((decide (i3 < ((List.length t1 : Nat) : Int)))) = true → 0 ≤ i3 ∧ i3 < ((List.length t1 : Nat) : Int))) <|
  (cZ (decide (i3 < ((List.length t1 : Nat) : Int))) (CO ((List.getD t1 (Int.toNat i3) default).Row) r4)).bind fun x16 =>
  cond ((decide (i3 < ((List.length t1 : Nat) : Int))) && x16)
  (aT (0 ≤ i3 ∧ i3 < ((List.length t1 : Nat) : Int)) <|
  aT (0 ≤ i3 ∧ i3 < ((List.length t1 : Nat) : Int)) <|
  aT ((List.length f5 + List.length ([aD.mk ((List.getD t1 (Int.toNat i3) default).At) ((List.getD t1 (Int.toNat i3) default).Net)])) * 16 ≤ 140737488355328 ∧ List.length f5 + List.length ([aD.mk ((List.getD t1 (Int.toNat i3) default).At) ((List.getD t1 (Int.toNat i3) default).Net)]) ≤ 9223372036854775807) <|
  some (.inl (sg, IntKind.i64.wrap (i3 + (1 : Int)), f5 ++ ([aD.mk ((List.getD t1 (Int.toNat i3) default).At) ((List.getD t1 (Int.toNat i3) default).Net)]))))
  (some (.inr (sg, i3, f5)))

noncomputable def vI {σ : Type} (kP : σ → (List aE) → (List aD) → Option (σ × Bool)) (sg : σ) (t1 : (List aM)) (i3 : Int) (r4 : (List aE)) (f5 : List aD) : Option ((σ × Int) ⊕ (σ ⊕ σ)) :=
  (lp (fun s => nE kP t1 r4 s.1 s.2.1 s.2.2) (sg, i3, f5)).bind (fun rr => sN kP rr.1 t1 rr.2.1 r4 rr.2.2)

noncomputable def mD {σ : Type} (kP : σ → (List aE) → (List aD) → Option (σ × Bool)) (t1 : (List aM)) (sg : σ) (i3 : Int) : Option ((σ × Int) ⊕ (σ ⊕ σ)) :=
  cond (decide (i3 < ((List.length t1 : Nat) : Int)))
  (aT (0 ≤ i3 ∧ i3 < ((List.length t1 : Nat) : Int)) <|
  vI kP sg t1 i3 ((List.getD t1 (Int.toNat i3) default).Row) ([] : List aD))
  (some (.inr (.inl sg)))

noncomputable def vA {σ : Type} (kP : σ → (List aE) → (List aD) → Option (σ × Bool)) (sg : σ) (t1 : (List aM)) (i3 : Int) : Option σ :=
  (lp (fun s => mD kP t1 s.1 s.2) (sg, i3)).bind (Sum.elim (fun rr => some rr) (fun rr => some rr))

noncomputable def rK {σ : Type} (kP : σ → (List aE) → (List aD) → Option (σ × Bool)) (t1 : (List aM)) (sg0 : σ) : Option σ :=
  vA kP sg0 t1 (0 : Int)

noncomputable def iS (f1 : aE → Option Bool)  : Option Int :=
  some (-1 : Int)

noncomputable def lQ (f1 : aE → Option Bool) (s0 : (List aE)) (t7 : Int) (t8 : Int) : Option ((Int) ⊕ (Unit ⊕ Int)) :=
  cond (decide (t8 < t7))
  (aT (0 ≤ t8 ∧ t8 < ((List.length s0 : Nat) : Int)) <|
  (f1 (List.getD s0 (Int.toNat t8) default)).bind fun x3 =>
  cond x3
  (some (.inr (.inr t8)))
  (some (.inl (IntKind.i64.wrap (t8 + (1 : Int))))))
  (some (.inr (.inl ())))

noncomputable def lR (f1 : aE → Option Bool) (s0 : (List aE)) (t7 : Int) (t8 : Int) : Option Int :=
  (lp (fun s => lQ f1 s0 t7 s) t8).bind (Sum.elim (fun rr => iS f1 ) (fun rr => some rr))

noncomputable def mA (s0 : (List aE)) (f1 : aE → Option Bool) : Option Int :=
  lR f1 s0 ((List.length s0 : Nat) : Int) (0 : Int)

noncomputable def gT (s0 : (List aE)) (f1 : aE → Option Bool) : Option Bool :=
  (mA s0 f1).bind fun x1 =>
  some (decide ((0 : Int) ≤ x1))

noncomputable def oX (v0 : aE) : Option (bI × Bool) :=
  cond ((decide (v0.Kind = (1 : Int))) && (sB v0.Text (⟨#[]⟩ : ByteArray)))
  (some (bI.k_number v0.Num, true))
  (cond (((decide (v0.Kind = (2 : Int))) && (decide (v0.Num = (0 : Int)))) && (decide (((ByteArray.size v0.Text : Nat) : Int) ≤ (64 : Int))))
  (some (bI.k_words v0.Text, true))
  (some (bI.none_, false)))

noncomputable def AN (v0 : aE) : Option Bool :=
  (oX v0).bind fun (x1_0, x1_1) =>
  match x1_0 with
  | .none_ => (some x1_1)
  | .k_number y4 => (some x1_1)
  | .k_words y5 => (some x1_1)

noncomputable def AD (v0 : aE) : Option Bool :=
  (AN v0).bind fun x1 =>
  some (!x1)

noncomputable def tM (r0 : (List aE)) : Option Bool :=
  cond (decide ((8 : Int) < ((List.length r0 : Nat) : Int)))
  (some false)
  ((gT r0 (fun y0 => AD y0)).bind fun x2 =>
  some (!x2))

noncomputable def wN (t0 : (List aE)) : Option ((Int × (List aE))) :=
  some ((-1 : Int), t0)

noncomputable def gY {σ : Type} (f1 : σ → aE → Option (σ × Bool)) (sg : σ) : Option (σ × Int) :=
  some (sg, (-1 : Int))

noncomputable def cK {σ : Type} (f1 : σ → aE → Option (σ × Bool)) (s0 : (List aE)) (t7 : Int) (sg : σ) (t8 : Int) : Option ((σ × Int) ⊕ (σ ⊕ (σ × Int))) :=
  cond (decide (t8 < t7))
  (aT (0 ≤ t8 ∧ t8 < ((List.length s0 : Nat) : Int)) <|
  (f1 sg (List.getD s0 (Int.toNat t8) default)).bind fun x3 =>
  cond x3.2
  (some (.inr (.inr (x3.1, t8))))
  (some (.inl (x3.1, IntKind.i64.wrap (t8 + (1 : Int))))))
  (some (.inr (.inl sg)))

noncomputable def lA {σ : Type} (f1 : σ → aE → Option (σ × Bool)) (sg : σ) (s0 : (List aE)) (t7 : Int) (t8 : Int) : Option (σ × Int) :=
  (lp (fun s => cK f1 s0 t7 s.1 s.2) (sg, t8)).bind (Sum.elim (fun rr => gY f1 rr) (fun rr => some (rr.1, rr.2)))

noncomputable def lI {σ : Type} (s0 : (List aE)) (f1 : σ → aE → Option (σ × Bool)) (sg0 : σ) : Option (σ × Int) :=
  lA f1 sg0 s0 ((List.length s0 : Nat) : Int) (0 : Int)

noncomputable def nP (v0 : aE) (t1 : Int) (t2 : (List aE)) : Option (Bool × Int) :=
  aT (0 ≤ (IntKind.i64.wrap (t1 + (1 : Int))) ∧ (IntKind.i64.wrap (t1 + (1 : Int))) < ((List.length t2 : Nat) : Int)) <|
  some ((!((decide (v0.Kind = ((List.getD t2 (Int.toNat (IntKind.i64.wrap (t1 + (1 : Int)))) default).Kind))) && ((decide (v0.Num = ((List.getD t2 (Int.toNat (IntKind.i64.wrap (t1 + (1 : Int)))) default).Num))) && ((sB v0.Text ((List.getD t2 (Int.toNat (IntKind.i64.wrap (t1 + (1 : Int)))) default).Text)) && true)))), (IntKind.i64.wrap (t1 + (1 : Int))))

noncomputable def pP (x0 : Int) : Option Bool :=
  some (!decide (x0 = x0))

noncomputable def rW (x0 : Int) (y1 : Int) : Option Int :=
  (pP x0).bind fun x1 =>
  (pP y1).bind fun x4 =>
  cond x1
  (cond x4
  (some (0 : Int))
  (some (-1 : Int)))
  (cond x4
  (some (1 : Int))
  (cond (decide (x0 < y1))
  (some (-1 : Int))
  (cond (decide (y1 < x0))
  (some (1 : Int))
  (some (0 : Int)))))

noncomputable def oN (x0 : Int) : Option Bool :=
  some (!decide (x0 = x0))

noncomputable def jU (x0 : Int) (y1 : Int) : Option Int :=
  (oN x0).bind fun x1 =>
  (oN y1).bind fun x4 =>
  cond x1
  (cond x4
  (some (0 : Int))
  (some (-1 : Int)))
  (cond x4
  (some (1 : Int))
  (cond (decide (x0 < y1))
  (some (-1 : Int))
  (cond (decide (y1 < x0))
  (some (1 : Int))
  (some (0 : Int)))))

noncomputable def nD (a0 : ByteArray) (b1 : ByteArray) : Option Int :=
  some (VB a0 b1)

noncomputable def qO (a0 : ByteArray) (b1 : ByteArray) : Option Int :=
  (nD a0 b1).bind fun x1 =>
  some x1

noncomputable def tN (a0 : aE) (b1 : aE) : Option Int :=
  (oX a0).bind fun (x1_0, x1_1) =>
  match x1_0 with
  | .none_ => ((oX b1).bind fun (x6_0, x6_1) =>
  match x6_0 with
  | .none_ => (cond ((!x1_1) || (!x6_1))
  (some (0 : Int))
  (none))
  | .k_number y9 => (cond ((!x1_1) || (!x6_1))
  (some (0 : Int))
  (some (1 : Int)))
  | .k_words y10 => (cond ((!x1_1) || (!x6_1))
  (some (0 : Int))
  (none)))
  | .k_number y4 => ((oX b1).bind fun (x23_0, x23_1) =>
  match x23_0 with
  | .none_ => (cond ((!x1_1) || (!x23_1))
  (some (0 : Int))
  (some (-1 : Int)))
  | .k_number y26 => (cond ((!x1_1) || (!x23_1))
  (some (0 : Int))
  ((jU y4 y26).bind fun x33 =>
  some x33))
  | .k_words y27 => (cond ((!x1_1) || (!x23_1))
  (some (0 : Int))
  (some (-1 : Int))))
  | .k_words y5 => ((oX b1).bind fun (x39_0, x39_1) =>
  match x39_0 with
  | .none_ => (cond ((!x1_1) || (!x39_1))
  (some (0 : Int))
  (none))
  | .k_number y42 => (cond ((!x1_1) || (!x39_1))
  (some (0 : Int))
  (some (1 : Int)))
  | .k_words y43 => (cond ((!x1_1) || (!x39_1))
  (some (0 : Int))
  ((qO y5 y43).bind fun x56 =>
  some x56)))

noncomputable def tB (a0 : (List aE)) (b1 : (List aE)) : Option Int :=
  (tM a0).bind fun x1 =>
  (cZ (!(!x1)) (tM b1)).bind fun x4 =>
  cond ((!x1) || (!x4))
  (some (0 : Int))
  (aT (0 ≤ (if ((List.length b1 : Nat) : Int) < ((List.length a0 : Nat) : Int) then ((List.length b1 : Nat) : Int) else ((List.length a0 : Nat) : Int)) ∧ (if ((List.length b1 : Nat) : Int) < ((List.length a0 : Nat) : Int) then ((List.length b1 : Nat) : Int) else ((List.length a0 : Nat) : Int)) ≤ ((List.length a0 : Nat) : Int)) <|
  (wN b1).bind fun x9 =>
  (lI (List.take (Int.toNat (if ((List.length b1 : Nat) : Int) < ((List.length a0 : Nat) : Int) then ((List.length b1 : Nat) : Int) else ((List.length a0 : Nat) : Int))) a0) (fun st y0 => (nP y0 st x9.2).bind fun o => some (o.2, o.1)) x9.1).bind fun x12 =>
  cond (decide (x12.2 < (0 : Int)))
  ((rW ((List.length a0 : Nat) : Int) ((List.length b1 : Nat) : Int)).bind fun x15 =>
  some x15)
  (aT (0 ≤ x12.2 ∧ x12.2 < ((List.length a0 : Nat) : Int)) <|
  aT (0 ≤ x12.2 ∧ x12.2 < ((List.length b1 : Nat) : Int)) <|
  (tN (List.getD a0 (Int.toNat x12.2) default) (List.getD b1 (Int.toNat x12.2) default)).bind fun x20 =>
  some x20))

noncomputable def sP (xG : (List aD) → Option Bool) (yN : (List aM)) (t4 : Bool) (sC : (List aE)) (nZ : Bool) (t14 : (List aE)) (t15 : (List aD)) : Option ((Bool × (List aE) × Bool) ⊕ (Bool × (List aE) × Bool)) :=
  (tM t14).bind fun x7 =>
  (cZ (nZ && (!(!x7))) (tB sC t14)).bind fun x12 =>
  (cZ (!((!x7) || (nZ && (decide ((0 : Int) ≤ x12))))) (xG t15)).bind fun x15 =>
  cond (((!x7) || (nZ && (decide ((0 : Int) ≤ x12)))) || (!x15))
  (some (.inr (false, sC, nZ)))
  (some (.inl (t4, t14, true)))

noncomputable def CB (xG : (List aD) → Option Bool) (t4 : Bool) (sC : (List aE)) (nZ : Bool) (yN : (List aM)) : Option Bool :=
  (rK (fun st t14 t15 => rnd (fun (s : Bool × (List aE) × Bool) => sP xG yN s.1 s.2.1 s.2.2 t14 t15) st) yN (.inl (t4, sC, nZ))).bind (Sum.elim (fun (s : Bool × (List aE) × Bool) =>
  (some true))
  (fun (s : Bool × (List aE) × Bool) =>
  (some s.1)))

noncomputable def AA (l0 : (List aM)) (xG : (List aD) → Option Bool) : Option Bool :=
  cond (decide ((4096 : Int) < ((List.length l0 : Nat) : Int)))
  (some false)
  ((wB l0).bind fun x5 =>
  CB xG false ([]) false x5)

noncomputable def DW (n0 : Int) : Option Bool :=
  some ((decide (n0 ≤ (1048576 : Int))) && (decide ((-1048576 : Int) ≤ n0)))

noncomputable def AM  : Option Bool :=
  some true

noncomputable def qJ (t9 : (List aD)) (t10 : Int) (uG : Int) (t11 : Int) : Option ((Int × Int) ⊕ (Unit ⊕ Bool)) :=
  cond (decide (t11 < t10))
  (aT (0 ≤ t11 ∧ t11 < ((List.length t9 : Nat) : Int)) <|
  (cZ (!(((decide (((List.getD t9 (Int.toNat t11) default).At) ≤ uG)) || (decide ((1125899906842624 : Int) ≤ ((List.getD t9 (Int.toNat t11) default).At)))) || (decide (((List.getD t9 (Int.toNat t11) default).Net) = (0 : Int))))) (DW ((List.getD t9 (Int.toNat t11) default).Net))).bind fun x8 =>
  cond ((((decide (((List.getD t9 (Int.toNat t11) default).At) ≤ uG)) || (decide ((1125899906842624 : Int) ≤ ((List.getD t9 (Int.toNat t11) default).At)))) || (decide (((List.getD t9 (Int.toNat t11) default).Net) = (0 : Int)))) || (!x8))
  (some (.inr (.inr false)))
  (some (.inl ((List.getD t9 (Int.toNat t11) default).At, IntKind.i64.wrap (t11 + (1 : Int))))))
  (some (.inr (.inl ())))

noncomputable def DR (uG : Int) (t9 : (List aD)) (t10 : Int) (t11 : Int) : Option Bool :=
  (lp (fun s => qJ t9 t10 s.1 s.2) (uG, t11)).bind (Sum.elim (fun rr => AM ) (fun rr => some rr))

noncomputable def pY (f0 : (List aD)) : Option Bool :=
  cond (decide ((1024 : Int) < ((List.length f0 : Nat) : Int)))
  (some false)
  (DR (-2 : Int) f0 ((List.length f0 : Nat) : Int) (0 : Int))

noncomputable def yO (l0 : (List aM)) : Option Bool :=
  (AA l0 (fun y0 => pY y0)).bind fun x1 =>
  some x1

noncomputable def oQ {σ : Type} (kP : σ → (List aE) → (List aD) → Option (σ × Bool)) (t9c0 : (List aM)) (sg : σ) (t10 : (List aE)) (t11 : (List aD)) : Option ((σ) ⊕ (σ)) :=
  (kP sg t10 t11).bind fun x7 =>
  cond (!x7.2)
  (some (.inr x7.1))
  (some (.inl x7.1))

noncomputable def tR {σ : Type} (kP : σ → (List aE) → (List aD) → Option (σ × Bool)) (sg : σ) (t9c0 : (List aM)) : Option σ :=
  (rK (fun st t10 t11 => rnd (fun (s : σ) => oQ kP t9c0 s t10 t11) st) t9c0 (.inl sg)).bind (Sum.elim (fun (s : σ) =>
  (some s))
  (fun (s : σ) =>
  (some s)))

noncomputable def rX {σ : Type} (kP : σ → (List aE) → (List aD) → Option (σ × Bool)) (t1 : (List aM)) (sg0 : σ) : Option σ :=
  (yO t1).bind fun x1 =>
  cond (!x1)
  (some sg0)
  ((wB t1).bind fun x5 =>
  tR kP sg0 x5)

noncomputable def kZ {σ : Type} (f1 : σ → aM → Option (σ × Bool)) (sg : σ) : Option (σ × Int) :=
  some (sg, (-1 : Int))

noncomputable def dM {σ : Type} (f1 : σ → aM → Option (σ × Bool)) (s0 : (List aM)) (t7 : Int) (sg : σ) (t8 : Int) : Option ((σ × Int) ⊕ (σ ⊕ (σ × Int))) :=
  cond (decide (t8 < t7))
  (aT (0 ≤ t8 ∧ t8 < ((List.length s0 : Nat) : Int)) <|
  (f1 sg (List.getD s0 (Int.toNat t8) default)).bind fun x3 =>
  cond x3.2
  (some (.inr (.inr (x3.1, t8))))
  (some (.inl (x3.1, IntKind.i64.wrap (t8 + (1 : Int))))))
  (some (.inr (.inl sg)))

noncomputable def lB {σ : Type} (f1 : σ → aM → Option (σ × Bool)) (sg : σ) (s0 : (List aM)) (t7 : Int) (t8 : Int) : Option (σ × Int) :=
  (lp (fun s => dM f1 s0 t7 s.1 s.2) (sg, t8)).bind (Sum.elim (fun rr => kZ f1 rr) (fun rr => some (rr.1, rr.2)))

noncomputable def lJ {σ : Type} (s0 : (List aM)) (f1 : σ → aM → Option (σ × Bool)) (sg0 : σ) : Option (σ × Int) :=
  lB f1 sg0 s0 ((List.length s0 : Nat) : Int) (0 : Int)

noncomputable def fQ {σ : Type} (s0 : (List aM)) (f1 : σ → aM → Option (σ × Bool)) (sg0 : σ) : Option (σ × Bool) :=
  (lJ s0 f1 sg0).bind fun x1 =>
  some (x1.1, decide ((0 : Int) ≤ x1.2))

noncomputable def tG (x0 : Int) (out3 : List Int) : Option (List Int) :=
  aT ((List.length out3 + List.length ([IntKind.u8.wrap x0])) * 1 ≤ 140737488355328 ∧ List.length out3 + List.length ([IntKind.u8.wrap x0]) ≤ 9223372036854775807) <|
  some (out3 ++ ([IntKind.u8.wrap x0]))

noncomputable def tD  (x0 : Int) (out3 : List Int) : Option ((Int × List Int) ⊕ ((Int × List Int))) :=
  cond (decide ((128 : Int) ≤ x0))
  (aT ((List.length out3 + List.length ([bM .or .u8 (IntKind.u8.wrap x0) (128 : Int)])) * 1 ≤ 140737488355328 ∧ List.length out3 + List.length ([bM .or .u8 (IntKind.u8.wrap x0) (128 : Int)]) ≤ 9223372036854775807) <|
  aT (0 ≤ (7 : Int)) <|
  some (.inl (Int.fdiv x0 (2 ^ (min (Int.toNat (7 : Int)) 64)), out3 ++ ([bM .or .u8 (IntKind.u8.wrap x0) (128 : Int)]))))
  (some (.inr (x0, out3)))

noncomputable def FC (x0 : Int) (out3 : List Int) : Option (List Int) :=
  (lp (fun s => tD s.1 s.2) (x0, out3)).bind (fun rr => tG rr.1 rr.2)

noncomputable def xH (x0 : Int) : Option (List Int) :=
  FC x0 ([] : List Int)

noncomputable def JL (n0 : Int) : Option (List Int) :=
  aT (0 ≤ (1 : Int)) <|
  aT (0 ≤ (63 : Int)) <|
  (xH (bM .xor .u64 (IntKind.u64.wrap ((IntKind.u64.wrap n0) * 2 ^ (min (Int.toNat (1 : Int)) 64))) (IntKind.u64.wrap (Int.fdiv n0 (2 ^ (min (Int.toNat (63 : Int)) 64)))))).bind fun x3 =>
  some x3

noncomputable def qN (n0 : Int) : Option (List Int) :=
  (JL n0).bind fun x2 =>
  aT ((List.length ([(1 : Int)]) + List.length x2) * 1 ≤ 140737488355328 ∧ List.length ([(1 : Int)]) + List.length x2 ≤ 9223372036854775807) <|
  some (([(1 : Int)]) ++ x2)

noncomputable def JB (n0 : Int) : Option (List Int) :=
  cond (decide (n0 < (0 : Int)))
  (some ([] : List Int))
  ((xH (IntKind.u64.wrap n0)).bind fun x4 =>
  some x4)

noncomputable def FZ (s0 : ByteArray) : Option (List Int) :=
  (JB ((ByteArray.size s0 : Nat) : Int)).bind fun x1 =>
  aT ((List.length x1 + ByteArray.size s0) * 1 ≤ 140737488355328 ∧ List.length x1 + ByteArray.size s0 ≤ 9223372036854775807) <|
  some (x1 ++ (List.map (fun b => ((UInt8.toNat b : Nat) : Int)) (ByteArray.data s0).toList))

noncomputable def qV (w0 : ByteArray) : Option (List Int) :=
  (FZ w0).bind fun x2 =>
  aT ((List.length ([(2 : Int)]) + List.length x2) * 1 ≤ 140737488355328 ∧ List.length ([(2 : Int)]) + List.length x2 ≤ 9223372036854775807) <|
  some (([(2 : Int)]) ++ x2)

noncomputable def vT (v0 : aE) : Option (List Int) :=
  (oX v0).bind fun (x1_0, x1_1) =>
  match x1_0 with
  | .none_ => (cond (!x1_1)
  (some ([]))
  (none))
  | .k_number y4 => (cond (!x1_1)
  (some ([]))
  ((qN y4).bind fun x8 =>
  some x8))
  | .k_words y5 => (cond (!x1_1)
  (some ([]))
  ((qV y5).bind fun x11 =>
  some x11))

noncomputable def CG (out3 : List Int) : Option (List Int) :=
  some out3

noncomputable def xJ (t13 : (List aE)) (t14 : Int) (out3 : List Int) (t15 : Int) : Option ((List Int × Int) ⊕ ((List Int))) :=
  cond (decide (t15 < t14))
  (aT (0 ≤ t15 ∧ t15 < ((List.length t13 : Nat) : Int)) <|
  (vT (List.getD t13 (Int.toNat t15) default)).bind fun x13 =>
  aT ((List.length out3 + List.length x13) * 1 ≤ 140737488355328 ∧ List.length out3 + List.length x13 ≤ 9223372036854775807) <|
  some (.inl (out3 ++ x13, IntKind.i64.wrap (t15 + (1 : Int)))))
  (some (.inr out3))

noncomputable def BU (out3 : List Int) (t13 : (List aE)) (t14 : Int) (t15 : Int) : Option (List Int) :=
  (lp (fun s => xJ t13 t14 s.1 s.2) (out3, t15)).bind (fun rr => CG rr)

noncomputable def zW (r0 : (List aE)) : Option (List Int) :=
  (tM r0).bind fun x1 =>
  cond (!x1)
  (some ([]))
  (BU ([IntKind.u8.wrap ((List.length r0 : Nat) : Int)]) r0 ((List.length r0 : Nat) : Int) (0 : Int))

noncomputable def BG (r0 : (List aE)) : Option ByteArray :=
  (zW r0).bind fun x1 =>
  some (strOfNums x1)

def sL (b : bY) (c : aC) (k : ByteArray) : Int := wR (b.edges + wR ((lN c.jumps) - (lN (lC b.cells k))))

noncomputable def EF (b : bY) (c : aC) : Option bY :=
  (BG c.row).bind fun k =>
  cond (decide ((lN c.jumps) = 0)) (some ⟨qA b.cells k, sL b c k, b.mark⟩) (some ⟨nI b.cells k c, sL b c k, b.mark⟩)

noncomputable def lE (s0 : (List aD)) : Option (List aD) :=
  aT (List.length s0 * 16 ≤ 140737488355328 ∧ List.length s0 ≤ 9223372036854775807) <|
  some s0

noncomputable def tX (f0 : (List aD)) : Option ((List aD) × Int) :=
  (pY f0).bind fun x1 =>
  cond (!x1)
  (some ([], (7 : Int)))
  (some (f0, (0 : Int)))

noncomputable def xB (f0 : (List aD)) (at7 : Int) (out8 : List aD) : Option ((List aD) × Int) :=
  aT (0 ≤ at7 ∧ at7 ≤ ((List.length f0 : Nat) : Int)) <|
  aT ((List.length out8 + List.length (List.drop (Int.toNat at7) f0)) * 16 ≤ 140737488355328 ∧ List.length out8 + List.length (List.drop (Int.toNat at7) f0) ≤ 9223372036854775807) <|
  (tX (out8 ++ (List.drop (Int.toNat at7) f0))).bind fun x18 =>
  some (x18.1, x18.2)

noncomputable def wW (f0 : (List aD)) (v6 : Int) (at7 : Int) : Option ((List aD) × Int) :=
  cond (!decide (v6 = (0 : Int)))
  (aT (List.length ([aD.mk (-1 : Int) v6]) * 16 ≤ 140737488355328 ∧ List.length ([aD.mk (-1 : Int) v6]) ≤ 9223372036854775807) <|
  xB f0 at7 ([aD.mk (-1 : Int) v6]))
  (xB f0 at7 ([] : List aD))

noncomputable def pR (f0 : (List aD)) (t1 : Int) (v6 : Int) (at7 : Int) : Option ((Int × Int) ⊕ ((Int × Int))) :=
  aT ((((decide (at7 < ((List.length f0 : Nat) : Int)))) = true → 0 ≤ at7 ∧ at7 < ((List.length f0 : Nat) : Int))) <|
  cond ((decide (at7 < ((List.length f0 : Nat) : Int))) && (decide (((List.getD f0 (Int.toNat at7) default).At) < t1)))
  (aT (0 ≤ at7 ∧ at7 < ((List.length f0 : Nat) : Int)) <|
  some (.inl (IntKind.i64.wrap (v6 + ((List.getD f0 (Int.toNat at7) default).Net)), IntKind.i64.wrap (at7 + (1 : Int)))))
  (some (.inr (v6, at7)))

noncomputable def CK (f0 : (List aD)) (t1 : Int) (v6 : Int) (at7 : Int) : Option ((List aD) × Int) :=
  (lp (fun s => pR f0 t1 s.1 s.2) (v6, at7)).bind (fun rr => wW f0 rr.1 rr.2)

noncomputable def wA (f0 : (List aD)) (t1 : Int) : Option ((List aD) × Int) :=
  (pY f0).bind fun x1 =>
  cond (!x1)
  (some ([], (2 : Int)))
  (cond (decide ((1125899906842624 : Int) ≤ t1))
  (some ([], (0 : Int)))
  (cond (decide (t1 ≤ (-1 : Int)))
  ((lE f0).bind fun x7 =>
  some (x7, (0 : Int)))
  (CK f0 t1 (0 : Int) (0 : Int))))

noncomputable def lF (t : Int) (st : List aC ⊕ Int) (p : ByteArray × aC) : Option (List aC ⊕ Int) := match st with
  | .inr e => some (.inr e)
  | .inl out => (wA p.2.jumps t).bind fun x =>
    cond (!(decide (x.2 = (0 : Int)))) (some (.inr x.2))
    (aT ((List.length out + List.length ([aC.mk p.2.row x.1])) * 48 ≤ 140737488355328 ∧ List.length out + List.length ([aC.mk p.2.row x.1]) ≤ 9223372036854775807) <|
    some (.inl (out ++ [aC.mk p.2.row x.1])))

noncomputable def qT (out : List aC) (m n i : Int) : Option ((Int × Int) ⊕ Int) :=
  cond (decide (i < m))
  (aT (0 ≤ i ∧ i < (lN out)) <|
  some (.inl (wR (n + (lN (gD out i).jumps)), wR (i + (1 : Int)))))
  (some (.inr n))

noncomputable def nG (out : List aC) (m : Int) (b : bY) (i : Int) : Option ((bY × Int) ⊕ bY) :=
  cond (decide (i < m))
  (aT (0 ≤ i ∧ i < (lN out)) <|
  (EF b (gD out i)).bind fun x => some (.inl (x, wR (i + (1 : Int)))))
  (some (.inr b))

noncomputable def BV (b : bY) (t : Int) (st : List aC ⊕ Int) : Option (Int × bY) := match st with
  | .inr e => some (e, b)
  | .inl out => (lp (fun s => qT out (lN out) s.1 s.2) ((0 : Int), (0 : Int))).bind fun n =>
    cond (decide ((4096 : Int) < n)) (some ((7 : Int), b))
    ((lp (fun s => nG out (lN out) s.1 s.2) (b, (0 : Int))).bind fun b => some ((0 : Int), bY.mk b.cells b.edges t))

noncomputable def mO (b : bY) (t : Int) : Option (Int × bY) :=
  cond (decide (t ≤ b.mark)) (some ((0 : Int), b))
  (uY b.cells (fun q => (mS (lF t) (.inl []) q).bind (BV b t)))

noncomputable def KE (m : Int) (x0 : aM) : Option Bool := some (decide (x0.At < m))

noncomputable def AQ (l0 : (List aM)) : Option ((List aM)) :=
  some l0

noncomputable def xI (by2 : Int → Int → Option Int) (out8 : List aD) : Option ((List aD) × Int) :=
  (tX out8).bind fun x9 =>
  some (x9.1, x9.2)

noncomputable def pT (by2 : Int → Int → Option Int) (f0 : (List aD)) (g1 : (List aD)) (out8 : List aD) (a9 : Int) (b10 : Int) (iO : Int) (at12 : Int) : Option (((List aD) × (List aD) × List aD × Int × Int × Int) ⊕ ((List aD))) :=
  (by2 a9 b10).bind fun x19 =>
  cond (!decide (x19 = iO))
  (aT ((List.length out8 + List.length ([aD.mk at12 (IntKind.i64.wrap (x19 - iO))])) * 16 ≤ 140737488355328 ∧ List.length out8 + List.length ([aD.mk at12 (IntKind.i64.wrap (x19 - iO))]) ≤ 9223372036854775807) <|
  some (.inl (f0, g1, out8 ++ ([aD.mk at12 (IntKind.i64.wrap (x19 - iO))]), a9, b10, x19)))
  (some (.inl (f0, g1, out8, a9, b10, iO)))

noncomputable def mQ (by2 : Int → Int → Option Int) (f0 : (List aD)) (g1 : (List aD)) (out8 : List aD) (a9 : Int) (b10 : Int) (iO : Int) (at12 : Int) : Option (((List aD) × (List aD) × List aD × Int × Int × Int) ⊕ ((List aD))) :=
  aT ((((decide ((0 : Int) < ((List.length g1 : Nat) : Int)))) = true → 0 ≤ (0 : Int) ∧ (0 : Int) < ((List.length g1 : Nat) : Int))) <|
  cond ((decide ((0 : Int) < ((List.length g1 : Nat) : Int))) && (decide (((List.getD g1 (Int.toNat (0 : Int)) default).At) = at12)))
  (aT (0 ≤ (0 : Int) ∧ (0 : Int) < ((List.length g1 : Nat) : Int)) <|
  aT (0 ≤ (1 : Int) ∧ (1 : Int) ≤ ((List.length g1 : Nat) : Int)) <|
  pT by2 f0 (List.drop (Int.toNat (1 : Int)) g1) out8 a9 (IntKind.i64.wrap (b10 + ((List.getD g1 (Int.toNat (0 : Int)) default).Net))) iO at12)
  (pT by2 f0 g1 out8 a9 b10 iO at12)

noncomputable def nH (by2 : Int → Int → Option Int) (f0 : (List aD)) (g1 : (List aD)) (out8 : List aD) (a9 : Int) (b10 : Int) (iO : Int) (at12 : Int) : Option (((List aD) × (List aD) × List aD × Int × Int × Int) ⊕ ((List aD))) :=
  aT ((((decide ((0 : Int) < ((List.length f0 : Nat) : Int)))) = true → 0 ≤ (0 : Int) ∧ (0 : Int) < ((List.length f0 : Nat) : Int))) <|
  cond ((decide ((0 : Int) < ((List.length f0 : Nat) : Int))) && (decide (((List.getD f0 (Int.toNat (0 : Int)) default).At) = at12)))
  (aT (0 ≤ (0 : Int) ∧ (0 : Int) < ((List.length f0 : Nat) : Int)) <|
  aT (0 ≤ (1 : Int) ∧ (1 : Int) ≤ ((List.length f0 : Nat) : Int)) <|
  mQ by2 (List.drop (Int.toNat (1 : Int)) f0) g1 out8 (IntKind.i64.wrap (a9 + ((List.getD f0 (Int.toNat (0 : Int)) default).Net))) b10 iO at12)
  (mQ by2 f0 g1 out8 a9 b10 iO at12)

noncomputable def pU (by2 : Int → Int → Option Int) (f0 : (List aD)) (g1 : (List aD)) (out8 : List aD) (a9 : Int) (b10 : Int) (iO : Int) (at12 : Int) : Option (((List aD) × (List aD) × List aD × Int × Int × Int) ⊕ ((List aD))) :=
  cond (decide ((0 : Int) < ((List.length g1 : Nat) : Int)))
  (aT (0 ≤ (0 : Int) ∧ (0 : Int) < ((List.length g1 : Nat) : Int)) <|
  nH by2 f0 g1 out8 a9 b10 iO (if ((List.getD g1 (Int.toNat (0 : Int)) default).At) < at12 then ((List.getD g1 (Int.toNat (0 : Int)) default).At) else at12))
  (nH by2 f0 g1 out8 a9 b10 iO at12)

noncomputable def lG (by2 : Int → Int → Option Int)  (f0 : (List aD)) (g1 : (List aD)) (out8 : List aD) (a9 : Int) (b10 : Int) (iO : Int) : Option (((List aD) × (List aD) × List aD × Int × Int × Int) ⊕ ((List aD))) :=
  cond ((decide ((0 : Int) < ((List.length f0 : Nat) : Int))) || (decide ((0 : Int) < ((List.length g1 : Nat) : Int))))
  (cond (decide ((0 : Int) < ((List.length f0 : Nat) : Int)))
  (aT (0 ≤ (0 : Int) ∧ (0 : Int) < ((List.length f0 : Nat) : Int)) <|
  pU by2 f0 g1 out8 a9 b10 iO ((List.getD f0 (Int.toNat (0 : Int)) default).At))
  (pU by2 f0 g1 out8 a9 b10 iO (1125899906842624 : Int)))
  (some (.inr out8))

noncomputable def CP (by2 : Int → Int → Option Int) (f0 : (List aD)) (g1 : (List aD)) (out8 : List aD) (a9 : Int) (b10 : Int) (iO : Int) : Option ((List aD) × Int) :=
  (lp (fun s => lG by2 s.1 s.2.1 s.2.2.1 s.2.2.2.1 s.2.2.2.2.1 s.2.2.2.2.2) (f0, g1, out8, a9, b10, iO)).bind (fun rr => xI by2 rr)

noncomputable def AB (f0 : (List aD)) (g1 : (List aD)) (by2 : Int → Int → Option Int) : Option ((List aD) × Int) :=
  (pY f0).bind fun x1 =>
  (cZ (!(!x1)) (pY g1)).bind fun x4 =>
  cond ((!x1) || (!x4))
  (some ([], (2 : Int)))
  (CP by2 f0 g1 ([] : List aD) (0 : Int) (0 : Int) (0 : Int))

noncomputable def uJ (a0 : Int) (b1 : Int) : Option Int :=
  some (IntKind.i64.wrap (a0 + b1))

noncomputable def CJ (f0 : (List aD)) (g1 : (List aD)) : Option ((List aD) × Int) :=
  (AB f0 g1 (fun y0 y1 => uJ y0 y1)).bind fun x1 =>
  some (x1.1, x1.2)

noncomputable def vN (lP : Int) : Option Int :=
  some lP

noncomputable def qS (t24 : (List aD)) (t25 : Int) (v3 : Int) (lP : Int) (t26 : Int) : Option ((Int × Int × Int) ⊕ (Int)) :=
  cond (decide (t26 < t25))
  (aT (0 ≤ t26 ∧ t26 < ((List.length t24 : Nat) : Int)) <|
  some (.inl (IntKind.i64.wrap (v3 + ((List.getD t24 (Int.toNat t26) default).Net)), if (IntKind.i64.wrap (v3 + ((List.getD t24 (Int.toNat t26) default).Net))) < lP then (IntKind.i64.wrap (v3 + ((List.getD t24 (Int.toNat t26) default).Net))) else lP, IntKind.i64.wrap (t26 + (1 : Int)))))
  (some (.inr lP))

noncomputable def vK (v3 : Int) (lP : Int) (t24 : (List aD)) (t25 : Int) (t26 : Int) : Option Int :=
  (lp (fun s => qS t24 t25 s.1 s.2.1 s.2.2) (v3, lP, t26)).bind (fun rr => vN rr)

noncomputable def tH (f0 : (List aD)) (v3 : Int) (lP : Int) : Option Int :=
  vK v3 lP f0 ((List.length f0 : Nat) : Int) (0 : Int)

noncomputable def xT (f0 : (List aD)) : Option Int :=
  (pY f0).bind fun x1 =>
  cond ((!x1) || (decide (((List.length f0 : Nat) : Int) = (0 : Int))))
  (some (0 : Int))
  (aT (0 ≤ (0 : Int) ∧ (0 : Int) < ((List.length f0 : Nat) : Int)) <|
  cond (decide (((List.getD f0 (Int.toNat (0 : Int)) default).At) = (-1 : Int)))
  (aT (0 ≤ (0 : Int) ∧ (0 : Int) < ((List.length f0 : Nat) : Int)) <|
  tH f0 (0 : Int) ((List.getD f0 (Int.toNat (0 : Int)) default).Net))
  (tH f0 (0 : Int) (0 : Int)))

noncomputable def xR (b : bY) (e : Int) (turned : List aC) (n : Int) (below : Bool) (r : List aE) (f : List aD) : Option ((Int × List aC × Int × Bool) ⊕ (Int × List aC × Int × Bool)) :=
  (BG r).bind fun k =>
  (CJ (lC b.cells k) f).bind fun x =>
  cond (!(decide (x.2 = (0 : Int)))) (some (.inr (x.2, turned, n, below)))
  ((cZ (!below) (xT x.1)).bind fun y =>
  aT ((List.length turned + List.length ([aC.mk r x.1])) * 48 ≤ 140737488355328 ∧ List.length turned + List.length ([aC.mk r x.1]) ≤ 9223372036854775807) <|
  some (.inl (e, turned ++ [aC.mk r x.1], wR (n + wR ((lN x.1) - (lN (lC b.cells k)))), below || (decide (y < (0 : Int))))))

noncomputable def IV (b : bY) (turned : List aC) (n : Int) (below : Bool) : Option (Int × bY) :=
  cond (decide ((4096 : Int) < n)) (some ((7 : Int), b))
  (cond below (some ((20 : Int), b))
  ((lp (fun s => nG turned (lN turned) s.1 s.2) (b, (0 : Int))).bind fun b => some ((0 : Int), b)))

noncomputable def NK (b : bY) (l : List aM) : Option (Int × bY) :=
  (rX (fun st r f => rnd (fun (q : Int × List aC × Int × Bool) => xR b q.1 q.2.1 q.2.2.1 q.2.2.2 r f) st) l (.inl ((0 : Int), [], b.edges, false))).bind (Sum.elim (fun q => IV b q.2.1 q.2.2.1 q.2.2.2) (fun q => some (q.1, b)))

noncomputable def rG (b : bY) (l : List aM) : Option (Int × bY) :=
  (yO l).bind fun m =>
  cond (!m) (some ((2 : Int), b))
  ((fQ l (fun (st : Unit) y => (KE b.mark y).bind fun o => some (st, o)) ()).bind fun c =>
  cond c.2 (some ((16 : Int), b))
  ((AQ l).bind fun x => NK b x))

noncomputable def yA (b : bY) : Option Int := some b.mark

noncomputable def rB (js : List aD) (m n i : Int) : Option ((Int × Int) ⊕ Int) :=
  cond (decide (i < m))
  (aT (0 ≤ i ∧ i < (lN js)) <|
  some (.inl (wR (n + (if (0 : Int) > (gD js i).Net then (0 : Int) else (gD js i).Net)), wR (i + (1 : Int)))))
  (some (.inr n))

noncomputable def zY (b : bY) : Option Int :=
  uY b.cells (fun q => (mS (fun (n : Int) (p : ByteArray × aC) => lp (fun s => rB p.2.jumps (lN p.2.jumps) s.1 s.2) (n, (0 : Int))) (0 : Int) q).bind (fun n => some n))

noncomputable def qC (x0 : Int) (n2 : Int) : Option Int :=
  aT (0 ≤ (IntKind.u8.wrap x0) ∧ (IntKind.u8.wrap x0) < ((ByteArray.size (⟨#[0, 1, 2, 2, 3, 3, 3, 3, 4, 4, 4, 4, 4, 4, 4, 4, 5, 5, 5, 5, 5, 5, 5, 5, 5, 5, 5, 5, 5, 5, 5, 5, 6, 6, 6, 6, 6, 6, 6, 6, 6, 6, 6, 6, 6, 6, 6, 6, 6, 6, 6, 6, 6, 6, 6, 6, 6, 6, 6, 6, 6, 6, 6, 6, 7, 7, 7, 7, 7, 7, 7, 7, 7, 7, 7, 7, 7, 7, 7, 7, 7, 7, 7, 7, 7, 7, 7, 7, 7, 7, 7, 7, 7, 7, 7, 7, 7, 7, 7, 7, 7, 7, 7, 7, 7, 7, 7, 7, 7, 7, 7, 7, 7, 7, 7, 7, 7, 7, 7, 7, 7, 7, 7, 7, 7, 7, 7, 7, 8, 8, 8, 8, 8, 8, 8, 8, 8, 8, 8, 8, 8, 8, 8, 8, 8, 8, 8, 8, 8, 8, 8, 8, 8, 8, 8, 8, 8, 8, 8, 8, 8, 8, 8, 8, 8, 8, 8, 8, 8, 8, 8, 8, 8, 8, 8, 8, 8, 8, 8, 8, 8, 8, 8, 8, 8, 8, 8, 8, 8, 8, 8, 8, 8, 8, 8, 8, 8, 8, 8, 8, 8, 8, 8, 8, 8, 8, 8, 8, 8, 8, 8, 8, 8, 8, 8, 8, 8, 8, 8, 8, 8, 8, 8, 8, 8, 8, 8, 8, 8, 8, 8, 8, 8, 8, 8, 8, 8, 8, 8, 8, 8, 8, 8, 8, 8, 8, 8, 8, 8, 8, 8, 8, 8, 8, 8, 8]⟩ : ByteArray) : Nat) : Int)) <|
  some (IntKind.i64.wrap (n2 + (IntKind.i64.wrap (bt (⟨#[0, 1, 2, 2, 3, 3, 3, 3, 4, 4, 4, 4, 4, 4, 4, 4, 5, 5, 5, 5, 5, 5, 5, 5, 5, 5, 5, 5, 5, 5, 5, 5, 6, 6, 6, 6, 6, 6, 6, 6, 6, 6, 6, 6, 6, 6, 6, 6, 6, 6, 6, 6, 6, 6, 6, 6, 6, 6, 6, 6, 6, 6, 6, 6, 7, 7, 7, 7, 7, 7, 7, 7, 7, 7, 7, 7, 7, 7, 7, 7, 7, 7, 7, 7, 7, 7, 7, 7, 7, 7, 7, 7, 7, 7, 7, 7, 7, 7, 7, 7, 7, 7, 7, 7, 7, 7, 7, 7, 7, 7, 7, 7, 7, 7, 7, 7, 7, 7, 7, 7, 7, 7, 7, 7, 7, 7, 7, 7, 8, 8, 8, 8, 8, 8, 8, 8, 8, 8, 8, 8, 8, 8, 8, 8, 8, 8, 8, 8, 8, 8, 8, 8, 8, 8, 8, 8, 8, 8, 8, 8, 8, 8, 8, 8, 8, 8, 8, 8, 8, 8, 8, 8, 8, 8, 8, 8, 8, 8, 8, 8, 8, 8, 8, 8, 8, 8, 8, 8, 8, 8, 8, 8, 8, 8, 8, 8, 8, 8, 8, 8, 8, 8, 8, 8, 8, 8, 8, 8, 8, 8, 8, 8, 8, 8, 8, 8, 8, 8, 8, 8, 8, 8, 8, 8, 8, 8, 8, 8, 8, 8, 8, 8, 8, 8, 8, 8, 8, 8, 8, 8, 8, 8, 8, 8, 8, 8, 8, 8, 8, 8, 8, 8, 8, 8, 8, 8]⟩ : ByteArray) (IntKind.u8.wrap x0)))))

noncomputable def oM (x0 : Int) (n2 : Int) : Option Int :=
  cond (decide ((256 : Int) ≤ x0))
  (aT (0 ≤ (8 : Int)) <|
  qC (Int.fdiv x0 (2 ^ (min (Int.toNat (8 : Int)) 64))) (IntKind.i64.wrap (n2 + (8 : Int))))
  (qC x0 n2)

noncomputable def oL (x0 : Int) (n2 : Int) : Option Int :=
  cond (decide ((65536 : Int) ≤ x0))
  (aT (0 ≤ (16 : Int)) <|
  oM (Int.fdiv x0 (2 ^ (min (Int.toNat (16 : Int)) 64))) (IntKind.i64.wrap (n2 + (16 : Int))))
  (oM x0 n2)

noncomputable def rV (x0 : Int) : Option Int :=
  cond (decide ((4294967296 : Int) ≤ x0))
  (aT (0 ≤ (32 : Int)) <|
  oL (Int.fdiv x0 (2 ^ (min (Int.toNat (32 : Int)) 64))) (32 : Int))
  (oL x0 (0 : Int))

noncomputable def oA (x0 : Int) : Option Int :=
  (rV x0).bind fun x2 =>
  some x2

noncomputable def eY (cmp3 : aC → aC → Option Int) (aA : List aC) (a1 : Int) (b2 : Int) (i8 : Int) : Option ((List aC × Int) ⊕ ((List aC))) :=
  some (.inl (aA, IntKind.i64.wrap (i8 + (1 : Int))))

noncomputable def gX (cmp3 : aC → aC → Option Int) (a1 : Int) (b2 : Int) (i8 : Int) (aA : List aC) (j9 : Int) : Option ((List aC × Int) ⊕ ((List aC))) :=
  aT ((((decide (a1 < j9))) = true → 0 ≤ j9 ∧ j9 < ((List.length aA : Nat) : Int))) <|
  aT ((((decide (a1 < j9))) = true → 0 ≤ (IntKind.i64.wrap (j9 - (1 : Int))) ∧ (IntKind.i64.wrap (j9 - (1 : Int))) < ((List.length aA : Nat) : Int))) <|
  (cZ (decide (a1 < j9)) (cmp3 (List.getD aA (Int.toNat j9) default) (List.getD aA (Int.toNat (IntKind.i64.wrap (j9 - (1 : Int)))) default))).bind fun x4 =>
  cond ((decide (a1 < j9)) && (decide (x4 < (0 : Int))))
  (aT (0 ≤ (IntKind.i64.wrap (j9 - (1 : Int))) ∧ (IntKind.i64.wrap (j9 - (1 : Int))) < ((List.length aA : Nat) : Int)) <|
  aT (0 ≤ j9 ∧ j9 < ((List.length aA : Nat) : Int)) <|
  aT (0 ≤ j9 ∧ j9 < ((List.length aA : Nat) : Int)) <|
  aT (0 ≤ (IntKind.i64.wrap (j9 - (1 : Int))) ∧ (IntKind.i64.wrap (j9 - (1 : Int))) < ((List.length aA : Nat) : Int)) <|
  some (.inl (List.set (List.set aA (Int.toNat j9) (List.getD aA (Int.toNat (IntKind.i64.wrap (j9 - (1 : Int)))) default)) (Int.toNat (IntKind.i64.wrap (j9 - (1 : Int)))) (List.getD aA (Int.toNat j9) default), IntKind.i64.wrap (j9 - (1 : Int)))))
  (some (.inr aA))

noncomputable def gZ (cmp3 : aC → aC → Option Int) (aA : List aC) (a1 : Int) (b2 : Int) (i8 : Int) (j9 : Int) : Option ((List aC × Int) ⊕ ((List aC))) :=
  (lp (fun s => gX cmp3 a1 b2 i8 s.1 s.2) (aA, j9)).bind (fun rr => eY cmp3 rr a1 b2 i8)

noncomputable def gS (cmp3 : aC → aC → Option Int) (a1 : Int) (b2 : Int) (aA : List aC) (i8 : Int) : Option ((List aC × Int) ⊕ ((List aC))) :=
  cond (decide (i8 < b2))
  (gZ cmp3 aA a1 b2 i8 i8)
  (some (.inr aA))

noncomputable def gV (cmp3 : aC → aC → Option Int) (aA : List aC) (a1 : Int) (b2 : Int) (i8 : Int) : Option (List aC) :=
  (lp (fun s => gS cmp3 a1 b2 s.1 s.2) (aA, i8)).bind (fun rr => some rr)

noncomputable def iL (aA : (List aC)) (a1 : Int) (b2 : Int) (cmp3 : aC → aC → Option Int) : Option (List aC) :=
  gV cmp3 aA a1 b2 (IntKind.i64.wrap (a1 + (1 : Int)))

noncomputable def gM (cmp4 : aC → aC → Option Int) (aA : List aC) (hi2 : Int) (aW : Int) (bS : Int) (dB : Int) : Option ((List aC × Int) ⊕ ((List aC) ⊕ (List aC))) :=
  aT (0 ≤ (IntKind.i64.wrap (aW + bS)) ∧ (IntKind.i64.wrap (aW + bS)) < ((List.length aA : Nat) : Int)) <|
  aT (0 ≤ (IntKind.i64.wrap (aW + dB)) ∧ (IntKind.i64.wrap (aW + dB)) < ((List.length aA : Nat) : Int)) <|
  (cmp4 (List.getD aA (Int.toNat (IntKind.i64.wrap (aW + bS))) default) (List.getD aA (Int.toNat (IntKind.i64.wrap (aW + dB))) default)).bind fun x4 =>
  cond (!(decide (x4 < (0 : Int))))
  (some (.inr (.inr aA)))
  (aT (0 ≤ (IntKind.i64.wrap (aW + dB)) ∧ (IntKind.i64.wrap (aW + dB)) < ((List.length aA : Nat) : Int)) <|
  aT (0 ≤ (IntKind.i64.wrap (aW + bS)) ∧ (IntKind.i64.wrap (aW + bS)) < ((List.length aA : Nat) : Int)) <|
  aT (0 ≤ (IntKind.i64.wrap (aW + bS)) ∧ (IntKind.i64.wrap (aW + bS)) < ((List.length aA : Nat) : Int)) <|
  aT (0 ≤ (IntKind.i64.wrap (aW + dB)) ∧ (IntKind.i64.wrap (aW + dB)) < ((List.length aA : Nat) : Int)) <|
  some (.inl (List.set (List.set aA (Int.toNat (IntKind.i64.wrap (aW + bS))) (List.getD aA (Int.toNat (IntKind.i64.wrap (aW + dB))) default)) (Int.toNat (IntKind.i64.wrap (aW + dB))) (List.getD aA (Int.toNat (IntKind.i64.wrap (aW + bS))) default), dB)))

noncomputable def kG (cmp4 : aC → aC → Option Int) (hi2 : Int) (aW : Int) (aA : List aC) (bS : Int) : Option ((List aC × Int) ⊕ ((List aC) ⊕ (List aC))) :=
  cond (decide (hi2 ≤ (IntKind.i64.wrap ((IntKind.i64.wrap ((2 : Int) * bS)) + (1 : Int)))))
  (some (.inr (.inl aA)))
  (aT ((((decide ((IntKind.i64.wrap ((IntKind.i64.wrap ((IntKind.i64.wrap ((2 : Int) * bS)) + (1 : Int))) + (1 : Int))) < hi2))) = true → 0 ≤ (IntKind.i64.wrap (aW + (IntKind.i64.wrap ((IntKind.i64.wrap ((2 : Int) * bS)) + (1 : Int))))) ∧ (IntKind.i64.wrap (aW + (IntKind.i64.wrap ((IntKind.i64.wrap ((2 : Int) * bS)) + (1 : Int))))) < ((List.length aA : Nat) : Int))) <|
  aT ((((decide ((IntKind.i64.wrap ((IntKind.i64.wrap ((IntKind.i64.wrap ((2 : Int) * bS)) + (1 : Int))) + (1 : Int))) < hi2))) = true → 0 ≤ (IntKind.i64.wrap ((IntKind.i64.wrap (aW + (IntKind.i64.wrap ((IntKind.i64.wrap ((2 : Int) * bS)) + (1 : Int))))) + (1 : Int))) ∧ (IntKind.i64.wrap ((IntKind.i64.wrap (aW + (IntKind.i64.wrap ((IntKind.i64.wrap ((2 : Int) * bS)) + (1 : Int))))) + (1 : Int))) < ((List.length aA : Nat) : Int))) <|
  (cZ (decide ((IntKind.i64.wrap ((IntKind.i64.wrap ((IntKind.i64.wrap ((2 : Int) * bS)) + (1 : Int))) + (1 : Int))) < hi2)) (cmp4 (List.getD aA (Int.toNat (IntKind.i64.wrap (aW + (IntKind.i64.wrap ((IntKind.i64.wrap ((2 : Int) * bS)) + (1 : Int)))))) default) (List.getD aA (Int.toNat (IntKind.i64.wrap ((IntKind.i64.wrap (aW + (IntKind.i64.wrap ((IntKind.i64.wrap ((2 : Int) * bS)) + (1 : Int))))) + (1 : Int)))) default))).bind fun x14 =>
  cond ((decide ((IntKind.i64.wrap ((IntKind.i64.wrap ((IntKind.i64.wrap ((2 : Int) * bS)) + (1 : Int))) + (1 : Int))) < hi2)) && (decide (x14 < (0 : Int))))
  (gM cmp4 aA hi2 aW bS (IntKind.i64.wrap ((IntKind.i64.wrap ((IntKind.i64.wrap ((2 : Int) * bS)) + (1 : Int))) + (1 : Int))))
  (gM cmp4 aA hi2 aW bS (IntKind.i64.wrap ((IntKind.i64.wrap ((2 : Int) * bS)) + (1 : Int)))))

noncomputable def kF (cmp4 : aC → aC → Option Int) (aA : List aC) (hi2 : Int) (aW : Int) (bS : Int) : Option (List aC) :=
  (lp (fun s => kG cmp4 hi2 aW s.1 s.2) (aA, bS)).bind (Sum.elim (fun rr => some rr) (fun rr => some rr))

noncomputable def iF (aA : (List aC)) (lo1 : Int) (hi2 : Int) (aW : Int) (cmp4 : aC → aC → Option Int) : Option (List aC) :=
  kF cmp4 aA hi2 aW lo1

noncomputable def kH (cmp3 : aC → aC → Option Int) (bK : Int) (lo9 : Int) (aA : List aC) (i12 : Int) : Option ((List aC × Int) ⊕ ((List aC))) :=
  cond (decide ((0 : Int) ≤ i12))
  (aT (0 ≤ (IntKind.i64.wrap (bK + i12)) ∧ (IntKind.i64.wrap (bK + i12)) < ((List.length aA : Nat) : Int)) <|
  aT (0 ≤ bK ∧ bK < ((List.length aA : Nat) : Int)) <|
  aT (0 ≤ bK ∧ bK < ((List.length aA : Nat) : Int)) <|
  aT (0 ≤ (IntKind.i64.wrap (bK + i12)) ∧ (IntKind.i64.wrap (bK + i12)) < ((List.length aA : Nat) : Int)) <|
  (iF (List.set (List.set aA (Int.toNat bK) (List.getD aA (Int.toNat (IntKind.i64.wrap (bK + i12))) default)) (Int.toNat (IntKind.i64.wrap (bK + i12))) (List.getD aA (Int.toNat bK) default)) lo9 i12 bK cmp3).bind fun x6 =>
  some (.inl (x6, IntKind.i64.wrap (i12 - (1 : Int)))))
  (some (.inr aA))

noncomputable def kD (cmp3 : aC → aC → Option Int) (aA : List aC) (bK : Int) (lo9 : Int) (i12 : Int) : Option (List aC) :=
  (lp (fun s => kH cmp3 bK lo9 s.1 s.2) (aA, i12)).bind (fun rr => some rr)

noncomputable def gP (cmp3 : aC → aC → Option Int) (aA : List aC) (bK : Int) (lo9 : Int) (hi10 : Int) : Option (List aC) :=
  kD cmp3 aA bK lo9 (IntKind.i64.wrap (hi10 - (1 : Int)))

noncomputable def kI (cmp3 : aC → aC → Option Int) (bK : Int) (lo9 : Int) (hi10 : Int) (aA : List aC) (i11 : Int) : Option ((List aC × Int) ⊕ ((List aC))) :=
  cond (decide ((0 : Int) ≤ i11))
  ((iF aA i11 hi10 bK cmp3).bind fun x11 =>
  some (.inl (x11, IntKind.i64.wrap (i11 - (1 : Int)))))
  (some (.inr aA))

noncomputable def kC (cmp3 : aC → aC → Option Int) (aA : List aC) (bK : Int) (lo9 : Int) (hi10 : Int) (i11 : Int) : Option (List aC) :=
  (lp (fun s => kI cmp3 bK lo9 hi10 s.1 s.2) (aA, i11)).bind (fun rr => gP cmp3 rr bK lo9 hi10)

noncomputable def kN (aA : (List aC)) (a1 : Int) (b2 : Int) (cmp3 : aC → aC → Option Int) : Option (List aC) :=
  aT ((2 : Int) ≠ 0) <|
  kC cmp3 aA a1 (0 : Int) (IntKind.i64.wrap (b2 - a1)) (IntKind.i64.wrap (Int.tdiv (IntKind.i64.wrap ((IntKind.i64.wrap (b2 - a1)) - (1 : Int))) (2 : Int)))

noncomputable def mX (LI : Int) : Option Int :=
  (oA (IntKind.u64.wrap LI)).bind fun x1 =>
  aT (0 ≤ x1) <|
  some (IntKind.u64.wrap ((1 : Int) * 2 ^ (min (Int.toNat x1) 64)))

noncomputable def nM (r0 : Int) : Option (Int × Int) :=
  aT (0 ≤ (13 : Int)) <|
  aT (0 ≤ (7 : Int)) <|
  aT (0 ≤ (17 : Int)) <|
  some (bM .xor .u64 (bM .xor .u64 (bM .xor .u64 r0 (IntKind.u64.wrap (r0 * 2 ^ (min (Int.toNat (13 : Int)) 64)))) (Int.fdiv (bM .xor .u64 r0 (IntKind.u64.wrap (r0 * 2 ^ (min (Int.toNat (13 : Int)) 64)))) (2 ^ (min (Int.toNat (7 : Int)) 64)))) (IntKind.u64.wrap ((bM .xor .u64 (bM .xor .u64 r0 (IntKind.u64.wrap (r0 * 2 ^ (min (Int.toNat (13 : Int)) 64)))) (Int.fdiv (bM .xor .u64 r0 (IntKind.u64.wrap (r0 * 2 ^ (min (Int.toNat (13 : Int)) 64)))) (2 ^ (min (Int.toNat (7 : Int)) 64)))) * 2 ^ (min (Int.toNat (17 : Int)) 64))), bM .xor .u64 (bM .xor .u64 (bM .xor .u64 r0 (IntKind.u64.wrap (r0 * 2 ^ (min (Int.toNat (13 : Int)) 64)))) (Int.fdiv (bM .xor .u64 r0 (IntKind.u64.wrap (r0 * 2 ^ (min (Int.toNat (13 : Int)) 64)))) (2 ^ (min (Int.toNat (7 : Int)) 64)))) (IntKind.u64.wrap ((bM .xor .u64 (bM .xor .u64 r0 (IntKind.u64.wrap (r0 * 2 ^ (min (Int.toNat (13 : Int)) 64)))) (Int.fdiv (bM .xor .u64 r0 (IntKind.u64.wrap (r0 * 2 ^ (min (Int.toNat (13 : Int)) 64)))) (2 ^ (min (Int.toNat (7 : Int)) 64)))) * 2 ^ (min (Int.toNat (17 : Int)) 64))))

noncomputable def eX (cmp3 : aC → aC → Option Int) (aA : List aC) (a1 : Int) (iX : Int) (kU : Int) (eM : Int) (eW : Int) (gO : Int) : Option ((List aC × Int × Int) ⊕ ((List aC))) :=
  aT (0 ≤ (IntKind.i64.wrap (a1 + gO)) ∧ (IntKind.i64.wrap (a1 + gO)) < ((List.length aA : Nat) : Int)) <|
  aT (0 ≤ eW ∧ eW < ((List.length aA : Nat) : Int)) <|
  aT (0 ≤ eW ∧ eW < ((List.length aA : Nat) : Int)) <|
  aT (0 ≤ (IntKind.i64.wrap (a1 + gO)) ∧ (IntKind.i64.wrap (a1 + gO)) < ((List.length aA : Nat) : Int)) <|
  some (.inl (List.set (List.set aA (Int.toNat eW) (List.getD aA (Int.toNat (IntKind.i64.wrap (a1 + gO))) default)) (Int.toNat (IntKind.i64.wrap (a1 + gO))) (List.getD aA (Int.toNat eW) default), kU, IntKind.i64.wrap (eW + (1 : Int))))

noncomputable def hY (cmp3 : aC → aC → Option Int) (a1 : Int) (iX : Int) (eM : Int) (aA : List aC) (kU : Int) (eW : Int) : Option ((List aC × Int × Int) ⊕ ((List aC))) :=
  aT ((4 : Int) ≠ 0) <|
  cond (decide (eW ≤ (IntKind.i64.wrap ((IntKind.i64.wrap (a1 + (IntKind.i64.wrap ((IntKind.i64.wrap (Int.tdiv iX (4 : Int))) * (2 : Int))))) + (1 : Int)))))
  ((nM kU).bind fun x9 =>
  cond (decide (iX ≤ (IntKind.i64.wrap (bM .and .u64 x9.1 (IntKind.u64.wrap (eM - (1 : Int)))))))
  (eX cmp3 aA a1 iX x9.2 eM eW (IntKind.i64.wrap ((IntKind.i64.wrap (bM .and .u64 x9.1 (IntKind.u64.wrap (eM - (1 : Int))))) - iX)))
  (eX cmp3 aA a1 iX x9.2 eM eW (IntKind.i64.wrap (bM .and .u64 x9.1 (IntKind.u64.wrap (eM - (1 : Int)))))))
  (some (.inr aA))

noncomputable def gU (cmp3 : aC → aC → Option Int) (aA : List aC) (a1 : Int) (iX : Int) (kU : Int) (eM : Int) (eW : Int) : Option (List aC) :=
  (lp (fun s => hY cmp3 a1 iX eM s.1 s.2.1 s.2.2) (aA, kU, eW)).bind (fun rr => some rr)

noncomputable def iK (aA : (List aC)) (a1 : Int) (b2 : Int) (cmp3 : aC → aC → Option Int) : Option (List aC) :=
  cond (decide ((8 : Int) ≤ (IntKind.i64.wrap (b2 - a1))))
  ((mX (IntKind.i64.wrap (b2 - a1))).bind fun x3 =>
  aT ((4 : Int) ≠ 0) <|
  gU cmp3 aA a1 (IntKind.i64.wrap (b2 - a1)) (IntKind.u64.wrap (IntKind.i64.wrap (b2 - a1))) x3 (IntKind.i64.wrap ((IntKind.i64.wrap (a1 + (IntKind.i64.wrap ((IntKind.i64.wrap (Int.tdiv (IntKind.i64.wrap (b2 - a1)) (4 : Int))) * (2 : Int))))) - (1 : Int))))
  (some aA)

noncomputable def fN (aA : (List aC)) (a1 : Int) (b2 : Int) (qW : Int) (cmp4 : aC → aC → Option Int) : Option ((Int × Int) × Int) :=
  aT (0 ≤ b2 ∧ b2 < ((List.length aA : Nat) : Int)) <|
  aT (0 ≤ a1 ∧ a1 < ((List.length aA : Nat) : Int)) <|
  (cmp4 (List.getD aA (Int.toNat b2) default) (List.getD aA (Int.toNat a1) default)).bind fun x3 =>
  cond (decide (x3 < (0 : Int)))
  (some ((b2, a1), IntKind.i64.wrap (qW + (1 : Int))))
  (some ((a1, b2), qW))

noncomputable def iZ (aA : (List aC)) (a1 : Int) (b2 : Int) (c3 : Int) (AO : Int) (cmp5 : aC → aC → Option Int) : Option (Int × Int) :=
  (fN aA a1 b2 AO cmp5).bind fun x1 =>
  (fN aA x1.1.2 c3 x1.2 cmp5).bind fun x6 =>
  (fN aA x1.1.1 x6.1.1 x6.2 cmp5).bind fun x11 =>
  some (x11.1.2, x11.2)

noncomputable def dL (aA : (List aC)) (a1 : Int) (AG : Int) (cmp3 : aC → aC → Option Int) : Option (Int × Int) :=
  (iZ aA (IntKind.i64.wrap (a1 - (1 : Int))) a1 (IntKind.i64.wrap (a1 + (1 : Int))) AG cmp3).bind fun x1 =>
  some (x1.1, x1.2)

noncomputable def fI (cmp3 : aC → aC → Option Int) (aA : List aC) (lV : Int) (j13 : Int) : Option (Int × Int) :=
  cond (decide (lV = (0 : Int)))
  (some (j13, (1 : Int)))
  (cond (decide (lV = (12 : Int)))
  (some (j13, (2 : Int)))
  (some (j13, (0 : Int))))

noncomputable def fH (cmp3 : aC → aC → Option Int) (aA : List aC) (lV : Int) (i12 : Int) (j13 : Int) (k14 : Int) : Option (Int × Int) :=
  (iZ aA i12 j13 k14 lV cmp3).bind fun x8 =>
  fI cmp3 aA x8.2 x8.1

noncomputable def jB (aA : (List aC)) (a1 : Int) (b2 : Int) (cmp3 : aC → aC → Option Int) : Option (Int × Int) :=
  aT ((4 : Int) ≠ 0) <|
  aT ((4 : Int) ≠ 0) <|
  aT ((4 : Int) ≠ 0) <|
  cond (decide ((8 : Int) ≤ (IntKind.i64.wrap (b2 - a1))))
  (cond (decide ((50 : Int) ≤ (IntKind.i64.wrap (b2 - a1))))
  ((dL aA (IntKind.i64.wrap (a1 + (IntKind.i64.wrap ((IntKind.i64.wrap (Int.tdiv (IntKind.i64.wrap (b2 - a1)) (4 : Int))) * (1 : Int))))) 0 cmp3).bind fun x14 =>
  (dL aA (IntKind.i64.wrap (a1 + (IntKind.i64.wrap ((IntKind.i64.wrap (Int.tdiv (IntKind.i64.wrap (b2 - a1)) (4 : Int))) * (2 : Int))))) x14.2 cmp3).bind fun x19 =>
  (dL aA (IntKind.i64.wrap (a1 + (IntKind.i64.wrap ((IntKind.i64.wrap (Int.tdiv (IntKind.i64.wrap (b2 - a1)) (4 : Int))) * (3 : Int))))) x19.2 cmp3).bind fun x24 =>
  fH cmp3 aA x24.2 x14.1 x19.1 x24.1)
  (fH cmp3 aA 0 (IntKind.i64.wrap (a1 + (IntKind.i64.wrap ((IntKind.i64.wrap (Int.tdiv (IntKind.i64.wrap (b2 - a1)) (4 : Int))) * (1 : Int))))) (IntKind.i64.wrap (a1 + (IntKind.i64.wrap ((IntKind.i64.wrap (Int.tdiv (IntKind.i64.wrap (b2 - a1)) (4 : Int))) * (2 : Int))))) (IntKind.i64.wrap (a1 + (IntKind.i64.wrap ((IntKind.i64.wrap (Int.tdiv (IntKind.i64.wrap (b2 - a1)) (4 : Int))) * (3 : Int)))))))
  (fI cmp3 aA 0 (IntKind.i64.wrap (a1 + (IntKind.i64.wrap ((IntKind.i64.wrap (Int.tdiv (IntKind.i64.wrap (b2 - a1)) (4 : Int))) * (2 : Int))))))

noncomputable def iM (cmp3 : aC → aC → Option Int)  (aA : List aC) (i8 : Int) (j9 : Int) : Option ((List aC × Int × Int) ⊕ ((List aC))) :=
  cond (decide (i8 < j9))
  (aT (0 ≤ j9 ∧ j9 < ((List.length aA : Nat) : Int)) <|
  aT (0 ≤ i8 ∧ i8 < ((List.length aA : Nat) : Int)) <|
  aT (0 ≤ i8 ∧ i8 < ((List.length aA : Nat) : Int)) <|
  aT (0 ≤ j9 ∧ j9 < ((List.length aA : Nat) : Int)) <|
  some (.inl (List.set (List.set aA (Int.toNat i8) (List.getD aA (Int.toNat j9) default)) (Int.toNat j9) (List.getD aA (Int.toNat i8) default), IntKind.i64.wrap (i8 + (1 : Int)), IntKind.i64.wrap (j9 - (1 : Int)))))
  (some (.inr aA))

noncomputable def iJ (cmp3 : aC → aC → Option Int) (aA : List aC) (i8 : Int) (j9 : Int) : Option (List aC) :=
  (lp (fun s => iM cmp3 s.1 s.2.1 s.2.2) (aA, i8, j9)).bind (fun rr => some rr)

noncomputable def iT (aA : (List aC)) (a1 : Int) (b2 : Int) (cmp3 : aC → aC → Option Int) : Option (List aC) :=
  iJ cmp3 aA a1 (IntKind.i64.wrap (b2 - (1 : Int)))

noncomputable def dH (cmp3 : aC → aC → Option Int) (aA : List aC) : Option (Bool × List aC) :=
  some (false, aA)

noncomputable def cM (cmp3 : aC → aC → Option Int) (aA : List aC) (a1 : Int) (b2 : Int) (i9 : Int) (j10 : Int) : Option ((List aC × Int × Int) ⊕ ((List aC) ⊕ (Bool × (List aC)))) :=
  some (.inl (aA, i9, IntKind.i64.wrap (j10 + (1 : Int))))

noncomputable def eO (cmp3 : aC → aC → Option Int) (a1 : Int) (b2 : Int) (i9 : Int) (j10 : Int) (aA : List aC) (j12 : Int) : Option ((List aC × Int) ⊕ ((List aC))) :=
  cond (decide (j12 < b2))
  (aT (0 ≤ j12 ∧ j12 < ((List.length aA : Nat) : Int)) <|
  aT (0 ≤ (IntKind.i64.wrap (j12 - (1 : Int))) ∧ (IntKind.i64.wrap (j12 - (1 : Int))) < ((List.length aA : Nat) : Int)) <|
  (cmp3 (List.getD aA (Int.toNat j12) default) (List.getD aA (Int.toNat (IntKind.i64.wrap (j12 - (1 : Int)))) default)).bind fun x12 =>
  cond (!(decide (x12 < (0 : Int))))
  (some (.inr aA))
  (aT (0 ≤ (IntKind.i64.wrap (j12 - (1 : Int))) ∧ (IntKind.i64.wrap (j12 - (1 : Int))) < ((List.length aA : Nat) : Int)) <|
  aT (0 ≤ j12 ∧ j12 < ((List.length aA : Nat) : Int)) <|
  aT (0 ≤ j12 ∧ j12 < ((List.length aA : Nat) : Int)) <|
  aT (0 ≤ (IntKind.i64.wrap (j12 - (1 : Int))) ∧ (IntKind.i64.wrap (j12 - (1 : Int))) < ((List.length aA : Nat) : Int)) <|
  some (.inl (List.set (List.set aA (Int.toNat j12) (List.getD aA (Int.toNat (IntKind.i64.wrap (j12 - (1 : Int)))) default)) (Int.toNat (IntKind.i64.wrap (j12 - (1 : Int)))) (List.getD aA (Int.toNat j12) default), IntKind.i64.wrap (j12 + (1 : Int))))))
  (some (.inr aA))

noncomputable def eN (cmp3 : aC → aC → Option Int) (aA : List aC) (a1 : Int) (b2 : Int) (i9 : Int) (j10 : Int) (j12 : Int) : Option ((List aC × Int × Int) ⊕ ((List aC) ⊕ (Bool × (List aC)))) :=
  (lp (fun s => eO cmp3 a1 b2 i9 j10 s.1 s.2) (aA, j12)).bind (fun rr => cM cmp3 rr a1 b2 i9 j10)

noncomputable def cL (cmp3 : aC → aC → Option Int) (aA : List aC) (a1 : Int) (b2 : Int) (i9 : Int) (j10 : Int) : Option ((List aC × Int × Int) ⊕ ((List aC) ⊕ (Bool × (List aC)))) :=
  cond (decide ((2 : Int) ≤ (IntKind.i64.wrap (b2 - i9))))
  (eN cmp3 aA a1 b2 i9 j10 (IntKind.i64.wrap (i9 + (1 : Int))))
  (cM cmp3 aA a1 b2 i9 j10)

noncomputable def eT (cmp3 : aC → aC → Option Int) (a1 : Int) (b2 : Int) (i9 : Int) (j10 : Int) (aA : List aC) (j11 : Int) : Option ((List aC × Int) ⊕ ((List aC))) :=
  cond (decide ((1 : Int) ≤ j11))
  (aT (0 ≤ j11 ∧ j11 < ((List.length aA : Nat) : Int)) <|
  aT (0 ≤ (IntKind.i64.wrap (j11 - (1 : Int))) ∧ (IntKind.i64.wrap (j11 - (1 : Int))) < ((List.length aA : Nat) : Int)) <|
  (cmp3 (List.getD aA (Int.toNat j11) default) (List.getD aA (Int.toNat (IntKind.i64.wrap (j11 - (1 : Int)))) default)).bind fun x24 =>
  cond (!(decide (x24 < (0 : Int))))
  (some (.inr aA))
  (aT (0 ≤ (IntKind.i64.wrap (j11 - (1 : Int))) ∧ (IntKind.i64.wrap (j11 - (1 : Int))) < ((List.length aA : Nat) : Int)) <|
  aT (0 ≤ j11 ∧ j11 < ((List.length aA : Nat) : Int)) <|
  aT (0 ≤ j11 ∧ j11 < ((List.length aA : Nat) : Int)) <|
  aT (0 ≤ (IntKind.i64.wrap (j11 - (1 : Int))) ∧ (IntKind.i64.wrap (j11 - (1 : Int))) < ((List.length aA : Nat) : Int)) <|
  some (.inl (List.set (List.set aA (Int.toNat j11) (List.getD aA (Int.toNat (IntKind.i64.wrap (j11 - (1 : Int)))) default)) (Int.toNat (IntKind.i64.wrap (j11 - (1 : Int)))) (List.getD aA (Int.toNat j11) default), IntKind.i64.wrap (j11 - (1 : Int))))))
  (some (.inr aA))

noncomputable def eR (cmp3 : aC → aC → Option Int) (aA : List aC) (a1 : Int) (b2 : Int) (i9 : Int) (j10 : Int) (j11 : Int) : Option ((List aC × Int × Int) ⊕ ((List aC) ⊕ (Bool × (List aC)))) :=
  (lp (fun s => eT cmp3 a1 b2 i9 j10 s.1 s.2) (aA, j11)).bind (fun rr => cL cmp3 rr a1 b2 i9 j10)

noncomputable def dG (cmp3 : aC → aC → Option Int) (aA : List aC) (a1 : Int) (b2 : Int) (i9 : Int) (j10 : Int) : Option ((List aC × Int × Int) ⊕ ((List aC) ⊕ (Bool × (List aC)))) :=
  cond (decide (i9 = b2))
  (some (.inr (.inr (true, aA))))
  (cond (decide ((IntKind.i64.wrap (b2 - a1)) < (50 : Int)))
  (some (.inr (.inr (false, aA))))
  (aT (0 ≤ (IntKind.i64.wrap (i9 - (1 : Int))) ∧ (IntKind.i64.wrap (i9 - (1 : Int))) < ((List.length aA : Nat) : Int)) <|
  aT (0 ≤ i9 ∧ i9 < ((List.length aA : Nat) : Int)) <|
  aT (0 ≤ i9 ∧ i9 < ((List.length aA : Nat) : Int)) <|
  aT (0 ≤ (IntKind.i64.wrap (i9 - (1 : Int))) ∧ (IntKind.i64.wrap (i9 - (1 : Int))) < ((List.length aA : Nat) : Int)) <|
  cond (decide ((2 : Int) ≤ (IntKind.i64.wrap (i9 - a1))))
  (eR cmp3 (List.set (List.set aA (Int.toNat i9) (List.getD aA (Int.toNat (IntKind.i64.wrap (i9 - (1 : Int)))) default)) (Int.toNat (IntKind.i64.wrap (i9 - (1 : Int)))) (List.getD aA (Int.toNat i9) default)) a1 b2 i9 j10 (IntKind.i64.wrap (i9 - (1 : Int))))
  (cL cmp3 (List.set (List.set aA (Int.toNat i9) (List.getD aA (Int.toNat (IntKind.i64.wrap (i9 - (1 : Int)))) default)) (Int.toNat (IntKind.i64.wrap (i9 - (1 : Int)))) (List.getD aA (Int.toNat i9) default)) a1 b2 i9 j10)))

noncomputable def eS (cmp3 : aC → aC → Option Int) (a1 : Int) (b2 : Int) (j10 : Int) (aA : List aC) (i9 : Int) : Option ((List aC × Int) ⊕ ((List aC × Int))) :=
  aT ((((decide (i9 < b2))) = true → 0 ≤ i9 ∧ i9 < ((List.length aA : Nat) : Int))) <|
  aT ((((decide (i9 < b2))) = true → 0 ≤ (IntKind.i64.wrap (i9 - (1 : Int))) ∧ (IntKind.i64.wrap (i9 - (1 : Int))) < ((List.length aA : Nat) : Int))) <|
  (cZ (decide (i9 < b2)) (cmp3 (List.getD aA (Int.toNat i9) default) (List.getD aA (Int.toNat (IntKind.i64.wrap (i9 - (1 : Int)))) default))).bind fun x34 =>
  cond ((decide (i9 < b2)) && (!(decide (x34 < (0 : Int)))))
  (some (.inl (aA, IntKind.i64.wrap (i9 + (1 : Int)))))
  (some (.inr (aA, i9)))

noncomputable def eV (cmp3 : aC → aC → Option Int) (aA : List aC) (a1 : Int) (b2 : Int) (i9 : Int) (j10 : Int) : Option ((List aC × Int × Int) ⊕ ((List aC) ⊕ (Bool × (List aC)))) :=
  (lp (fun s => eS cmp3 a1 b2 j10 s.1 s.2) (aA, i9)).bind (fun rr => dG cmp3 rr.1 a1 b2 rr.2 j10)

noncomputable def eP (cmp3 : aC → aC → Option Int) (a1 : Int) (b2 : Int) (aA : List aC) (i9 : Int) (j10 : Int) : Option ((List aC × Int × Int) ⊕ ((List aC) ⊕ (Bool × (List aC)))) :=
  cond (decide (j10 < (5 : Int)))
  (eV cmp3 aA a1 b2 i9 j10)
  (some (.inr (.inl aA)))

noncomputable def eU (cmp3 : aC → aC → Option Int) (aA : List aC) (a1 : Int) (b2 : Int) (i9 : Int) (j10 : Int) : Option (Bool × List aC) :=
  (lp (fun s => eP cmp3 a1 b2 s.1 s.2.1 s.2.2) (aA, i9, j10)).bind (Sum.elim (fun rr => dH cmp3 rr) (fun rr => some (rr.1, rr.2)))

noncomputable def fB (aA : (List aC)) (a1 : Int) (b2 : Int) (cmp3 : aC → aC → Option Int) : Option (Bool × List aC) :=
  eU cmp3 aA a1 b2 (IntKind.i64.wrap (a1 + (1 : Int))) (0 : Int)

noncomputable def eJ (cmp4 : aC → aC → Option Int) (aA : List aC) (i11 : Int) : Option (Int × List aC) :=
  some (i11, aA)

noncomputable def eK (cmp4 : aC → aC → Option Int) (aA : List aC) (a1 : Int) (i11 : Int) (j12 : Int) : Option ((List aC × Int × Int) ⊕ ((List aC × Int))) :=
  cond (decide (j12 < i11))
  (some (.inr (aA, i11)))
  (aT (0 ≤ j12 ∧ j12 < ((List.length aA : Nat) : Int)) <|
  aT (0 ≤ i11 ∧ i11 < ((List.length aA : Nat) : Int)) <|
  aT (0 ≤ i11 ∧ i11 < ((List.length aA : Nat) : Int)) <|
  aT (0 ≤ j12 ∧ j12 < ((List.length aA : Nat) : Int)) <|
  some (.inl (List.set (List.set aA (Int.toNat i11) (List.getD aA (Int.toNat j12) default)) (Int.toNat j12) (List.getD aA (Int.toNat i11) default), IntKind.i64.wrap (i11 + (1 : Int)), IntKind.i64.wrap (j12 - (1 : Int)))))

noncomputable def gH (cmp4 : aC → aC → Option Int) (a1 : Int) (i11 : Int) (aA : List aC) (j12 : Int) : Option ((List aC × Int) ⊕ ((List aC × Int))) :=
  aT ((((decide (i11 ≤ j12))) = true → 0 ≤ a1 ∧ a1 < ((List.length aA : Nat) : Int))) <|
  aT ((((decide (i11 ≤ j12))) = true → 0 ≤ j12 ∧ j12 < ((List.length aA : Nat) : Int))) <|
  (cZ (decide (i11 ≤ j12)) (cmp4 (List.getD aA (Int.toNat a1) default) (List.getD aA (Int.toNat j12) default))).bind fun x12 =>
  cond ((decide (i11 ≤ j12)) && (decide (x12 < (0 : Int))))
  (some (.inl (aA, IntKind.i64.wrap (j12 - (1 : Int)))))
  (some (.inr (aA, j12)))

noncomputable def gF (cmp4 : aC → aC → Option Int) (aA : List aC) (a1 : Int) (i11 : Int) (j12 : Int) : Option ((List aC × Int × Int) ⊕ ((List aC × Int))) :=
  (lp (fun s => gH cmp4 a1 i11 s.1 s.2) (aA, j12)).bind (fun rr => eK cmp4 rr.1 a1 i11 rr.2)

noncomputable def eG (cmp4 : aC → aC → Option Int) (aA : List aC) (a1 : Int) (i11 : Int) (j12 : Int) : Option ((List aC × Int × Int) ⊕ ((List aC × Int))) :=
  gF cmp4 aA a1 i11 j12

noncomputable def gI (cmp4 : aC → aC → Option Int) (a1 : Int) (j12 : Int) (aA : List aC) (i11 : Int) : Option ((List aC × Int) ⊕ ((List aC × Int))) :=
  aT ((((decide (i11 ≤ j12))) = true → 0 ≤ a1 ∧ a1 < ((List.length aA : Nat) : Int))) <|
  aT ((((decide (i11 ≤ j12))) = true → 0 ≤ i11 ∧ i11 < ((List.length aA : Nat) : Int))) <|
  (cZ (decide (i11 ≤ j12)) (cmp4 (List.getD aA (Int.toNat a1) default) (List.getD aA (Int.toNat i11) default))).bind fun x18 =>
  cond ((decide (i11 ≤ j12)) && (!(decide (x18 < (0 : Int)))))
  (some (.inl (aA, IntKind.i64.wrap (i11 + (1 : Int)))))
  (some (.inr (aA, i11)))

noncomputable def gG (cmp4 : aC → aC → Option Int) (aA : List aC) (a1 : Int) (i11 : Int) (j12 : Int) : Option ((List aC × Int × Int) ⊕ ((List aC × Int))) :=
  (lp (fun s => gI cmp4 a1 j12 s.1 s.2) (aA, i11)).bind (fun rr => eG cmp4 rr.1 a1 rr.2 j12)

noncomputable def gE (cmp4 : aC → aC → Option Int) (a1 : Int) (aA : List aC) (i11 : Int) (j12 : Int) : Option ((List aC × Int × Int) ⊕ ((List aC × Int))) :=
  gG cmp4 aA a1 i11 j12

noncomputable def fZ (cmp4 : aC → aC → Option Int) (aA : List aC) (a1 : Int) (i11 : Int) (j12 : Int) : Option (Int × List aC) :=
  (lp (fun s => gE cmp4 a1 s.1 s.2.1 s.2.2) (aA, i11, j12)).bind (fun rr => eJ cmp4 rr.1 rr.2)

noncomputable def gW (aA : (List aC)) (a1 : Int) (b2 : Int) (bX : Int) (cmp4 : aC → aC → Option Int) : Option (Int × List aC) :=
  aT (0 ≤ bX ∧ bX < ((List.length aA : Nat) : Int)) <|
  aT (0 ≤ a1 ∧ a1 < ((List.length aA : Nat) : Int)) <|
  aT (0 ≤ a1 ∧ a1 < ((List.length aA : Nat) : Int)) <|
  aT (0 ≤ bX ∧ bX < ((List.length aA : Nat) : Int)) <|
  fZ cmp4 (List.set (List.set aA (Int.toNat a1) (List.getD aA (Int.toNat bX) default)) (Int.toNat bX) (List.getD aA (Int.toNat a1) default)) a1 (IntKind.i64.wrap (a1 + (1 : Int))) (IntKind.i64.wrap (b2 - (1 : Int)))

noncomputable def fR (cmp4 : aC → aC → Option Int) (aA : List aC) (a1 : Int) (j13 : Int) : Option ((Int × Bool) × List aC) :=
  aT (0 ≤ a1 ∧ a1 < ((List.length aA : Nat) : Int)) <|
  aT (0 ≤ j13 ∧ j13 < ((List.length aA : Nat) : Int)) <|
  aT (0 ≤ j13 ∧ j13 < ((List.length aA : Nat) : Int)) <|
  aT (0 ≤ a1 ∧ a1 < ((List.length aA : Nat) : Int)) <|
  some ((j13, false), (List.set (List.set aA (Int.toNat j13) (List.getD aA (Int.toNat a1) default)) (Int.toNat a1) (List.getD aA (Int.toNat j13) default)))

noncomputable def fW (cmp4 : aC → aC → Option Int) (aA : List aC) (a1 : Int) (i12 : Int) (j13 : Int) : Option ((List aC × Int × Int) ⊕ ((List aC × Int))) :=
  cond (decide (j13 < i12))
  (some (.inr (aA, j13)))
  (aT (0 ≤ j13 ∧ j13 < ((List.length aA : Nat) : Int)) <|
  aT (0 ≤ i12 ∧ i12 < ((List.length aA : Nat) : Int)) <|
  aT (0 ≤ i12 ∧ i12 < ((List.length aA : Nat) : Int)) <|
  aT (0 ≤ j13 ∧ j13 < ((List.length aA : Nat) : Int)) <|
  some (.inl (List.set (List.set aA (Int.toNat i12) (List.getD aA (Int.toNat j13) default)) (Int.toNat j13) (List.getD aA (Int.toNat i12) default), IntKind.i64.wrap (i12 + (1 : Int)), IntKind.i64.wrap (j13 - (1 : Int)))))

noncomputable def jJ (cmp4 : aC → aC → Option Int) (a1 : Int) (i12 : Int) (aA : List aC) (j13 : Int) : Option ((List aC × Int) ⊕ ((List aC × Int))) :=
  aT ((((decide (i12 ≤ j13))) = true → 0 ≤ j13 ∧ j13 < ((List.length aA : Nat) : Int))) <|
  aT ((((decide (i12 ≤ j13))) = true → 0 ≤ a1 ∧ a1 < ((List.length aA : Nat) : Int))) <|
  (cZ (decide (i12 ≤ j13)) (cmp4 (List.getD aA (Int.toNat j13) default) (List.getD aA (Int.toNat a1) default))).bind fun x25 =>
  cond ((decide (i12 ≤ j13)) && (!(decide (x25 < (0 : Int)))))
  (some (.inl (aA, IntKind.i64.wrap (j13 - (1 : Int)))))
  (some (.inr (aA, j13)))

noncomputable def jK (cmp4 : aC → aC → Option Int) (aA : List aC) (a1 : Int) (i12 : Int) (j13 : Int) : Option ((List aC × Int × Int) ⊕ ((List aC × Int))) :=
  (lp (fun s => jJ cmp4 a1 i12 s.1 s.2) (aA, j13)).bind (fun rr => fW cmp4 rr.1 a1 i12 rr.2)

noncomputable def fT (cmp4 : aC → aC → Option Int) (aA : List aC) (a1 : Int) (i12 : Int) (j13 : Int) : Option ((List aC × Int × Int) ⊕ ((List aC × Int))) :=
  jK cmp4 aA a1 i12 j13

noncomputable def jP (cmp4 : aC → aC → Option Int) (a1 : Int) (j13 : Int) (aA : List aC) (i12 : Int) : Option ((List aC × Int) ⊕ ((List aC × Int))) :=
  aT ((((decide (i12 ≤ j13))) = true → 0 ≤ i12 ∧ i12 < ((List.length aA : Nat) : Int))) <|
  aT ((((decide (i12 ≤ j13))) = true → 0 ≤ a1 ∧ a1 < ((List.length aA : Nat) : Int))) <|
  (cZ (decide (i12 ≤ j13)) (cmp4 (List.getD aA (Int.toNat i12) default) (List.getD aA (Int.toNat a1) default))).bind fun x31 =>
  cond ((decide (i12 ≤ j13)) && (decide (x31 < (0 : Int))))
  (some (.inl (aA, IntKind.i64.wrap (i12 + (1 : Int)))))
  (some (.inr (aA, i12)))

noncomputable def jD (cmp4 : aC → aC → Option Int) (aA : List aC) (a1 : Int) (i12 : Int) (j13 : Int) : Option ((List aC × Int × Int) ⊕ ((List aC × Int))) :=
  (lp (fun s => jP cmp4 a1 j13 s.1 s.2) (aA, i12)).bind (fun rr => fT cmp4 rr.1 a1 rr.2 j13)

noncomputable def jH (cmp4 : aC → aC → Option Int) (a1 : Int) (aA : List aC) (i12 : Int) (j13 : Int) : Option ((List aC × Int × Int) ⊕ ((List aC × Int))) :=
  jD cmp4 aA a1 i12 j13

noncomputable def jG (cmp4 : aC → aC → Option Int) (aA : List aC) (a1 : Int) (i12 : Int) (j13 : Int) : Option ((Int × Bool) × List aC) :=
  (lp (fun s => jH cmp4 a1 s.1 s.2.1 s.2.2) (aA, i12, j13)).bind (fun rr => fR cmp4 rr.1 a1 rr.2)

noncomputable def fS (cmp4 : aC → aC → Option Int) (aA : List aC) (a1 : Int) (i12 : Int) (j13 : Int) : Option ((Int × Bool) × List aC) :=
  cond (decide (j13 < i12))
  (aT (0 ≤ a1 ∧ a1 < ((List.length aA : Nat) : Int)) <|
  aT (0 ≤ j13 ∧ j13 < ((List.length aA : Nat) : Int)) <|
  aT (0 ≤ j13 ∧ j13 < ((List.length aA : Nat) : Int)) <|
  aT (0 ≤ a1 ∧ a1 < ((List.length aA : Nat) : Int)) <|
  some ((j13, true), (List.set (List.set aA (Int.toNat j13) (List.getD aA (Int.toNat a1) default)) (Int.toNat a1) (List.getD aA (Int.toNat j13) default))))
  (aT (0 ≤ j13 ∧ j13 < ((List.length aA : Nat) : Int)) <|
  aT (0 ≤ i12 ∧ i12 < ((List.length aA : Nat) : Int)) <|
  aT (0 ≤ i12 ∧ i12 < ((List.length aA : Nat) : Int)) <|
  aT (0 ≤ j13 ∧ j13 < ((List.length aA : Nat) : Int)) <|
  jG cmp4 (List.set (List.set aA (Int.toNat i12) (List.getD aA (Int.toNat j13) default)) (Int.toNat j13) (List.getD aA (Int.toNat i12) default)) a1 (IntKind.i64.wrap (i12 + (1 : Int))) (IntKind.i64.wrap (j13 - (1 : Int))))

noncomputable def jF (cmp4 : aC → aC → Option Int) (a1 : Int) (i12 : Int) (aA : List aC) (j13 : Int) : Option ((List aC × Int) ⊕ ((List aC × Int))) :=
  aT ((((decide (i12 ≤ j13))) = true → 0 ≤ j13 ∧ j13 < ((List.length aA : Nat) : Int))) <|
  aT ((((decide (i12 ≤ j13))) = true → 0 ≤ a1 ∧ a1 < ((List.length aA : Nat) : Int))) <|
  (cZ (decide (i12 ≤ j13)) (cmp4 (List.getD aA (Int.toNat j13) default) (List.getD aA (Int.toNat a1) default))).bind fun x37 =>
  cond ((decide (i12 ≤ j13)) && (!(decide (x37 < (0 : Int)))))
  (some (.inl (aA, IntKind.i64.wrap (j13 - (1 : Int)))))
  (some (.inr (aA, j13)))

noncomputable def jI (cmp4 : aC → aC → Option Int) (aA : List aC) (a1 : Int) (i12 : Int) (j13 : Int) : Option ((Int × Bool) × List aC) :=
  (lp (fun s => jF cmp4 a1 i12 s.1 s.2) (aA, j13)).bind (fun rr => fS cmp4 rr.1 a1 i12 rr.2)

noncomputable def fX (cmp4 : aC → aC → Option Int) (aA : List aC) (a1 : Int) (i12 : Int) (j13 : Int) : Option ((Int × Bool) × List aC) :=
  jI cmp4 aA a1 i12 j13

noncomputable def jC (cmp4 : aC → aC → Option Int) (a1 : Int) (j13 : Int) (aA : List aC) (i12 : Int) : Option ((List aC × Int) ⊕ ((List aC × Int))) :=
  aT ((((decide (i12 ≤ j13))) = true → 0 ≤ i12 ∧ i12 < ((List.length aA : Nat) : Int))) <|
  aT ((((decide (i12 ≤ j13))) = true → 0 ≤ a1 ∧ a1 < ((List.length aA : Nat) : Int))) <|
  (cZ (decide (i12 ≤ j13)) (cmp4 (List.getD aA (Int.toNat i12) default) (List.getD aA (Int.toNat a1) default))).bind fun x43 =>
  cond ((decide (i12 ≤ j13)) && (decide (x43 < (0 : Int))))
  (some (.inl (aA, IntKind.i64.wrap (i12 + (1 : Int)))))
  (some (.inr (aA, i12)))

noncomputable def jA (cmp4 : aC → aC → Option Int) (aA : List aC) (a1 : Int) (i12 : Int) (j13 : Int) : Option ((Int × Bool) × List aC) :=
  (lp (fun s => jC cmp4 a1 j13 s.1 s.2) (aA, i12)).bind (fun rr => fX cmp4 rr.1 a1 rr.2 j13)

noncomputable def kE (aA : (List aC)) (a1 : Int) (b2 : Int) (bX : Int) (cmp4 : aC → aC → Option Int) : Option ((Int × Bool) × List aC) :=
  aT (0 ≤ bX ∧ bX < ((List.length aA : Nat) : Int)) <|
  aT (0 ≤ a1 ∧ a1 < ((List.length aA : Nat) : Int)) <|
  aT (0 ≤ a1 ∧ a1 < ((List.length aA : Nat) : Int)) <|
  aT (0 ≤ bX ∧ bX < ((List.length aA : Nat) : Int)) <|
  jA cmp4 (List.set (List.set aA (Int.toNat a1) (List.getD aA (Int.toNat bX) default)) (Int.toNat bX) (List.getD aA (Int.toNat a1) default)) a1 (IntKind.i64.wrap (a1 + (1 : Int))) (IntKind.i64.wrap (b2 - (1 : Int)))

noncomputable def iH (cmp4 : aC → aC → Option Int) (rec : (List aC) → Int → Int → Int → Option (List aC)) (aA : List aC) (a1 : Int) (b2 : Int) (bJ : Int) (bH : Bool) (bA : Bool) (cX : Int) (fL : Int) : Option ((List aC × Int × Int × Int × Bool × Bool) ⊕ ((List aC))) :=
  aT ((((decide ((0 : Int) < a1))) = true → 0 ≤ (IntKind.i64.wrap (a1 - (1 : Int))) ∧ (IntKind.i64.wrap (a1 - (1 : Int))) < ((List.length aA : Nat) : Int))) <|
  aT ((((decide ((0 : Int) < a1))) = true → 0 ≤ fL ∧ fL < ((List.length aA : Nat) : Int))) <|
  (cZ (decide ((0 : Int) < a1)) (cmp4 (List.getD aA (Int.toNat (IntKind.i64.wrap (a1 - (1 : Int)))) default) (List.getD aA (Int.toNat fL) default))).bind fun x16 =>
  cond ((decide ((0 : Int) < a1)) && (!(decide (x16 < (0 : Int)))))
  ((gW aA a1 b2 fL cmp4).bind fun x20 =>
  some (.inl (x20.2, x20.1, b2, bJ, bH, bA)))
  ((kE aA a1 b2 fL cmp4).bind fun x23 =>
  aT ((8 : Int) ≠ 0) <|
  cond (decide ((IntKind.i64.wrap (x23.1.1 - a1)) < (IntKind.i64.wrap (b2 - x23.1.1))))
  ((rec x23.2 a1 x23.1.1 bJ).bind fun x28 =>
  some (.inl (x28, IntKind.i64.wrap (x23.1.1 + (1 : Int)), b2, bJ, decide ((IntKind.i64.wrap (Int.tdiv cX (8 : Int))) ≤ (IntKind.i64.wrap (x23.1.1 - a1))), x23.1.2)))
  ((rec x23.2 (IntKind.i64.wrap (x23.1.1 + (1 : Int))) b2 bJ).bind fun x31 =>
  some (.inl (x31, a1, x23.1.1, bJ, decide ((IntKind.i64.wrap (Int.tdiv cX (8 : Int))) ≤ (IntKind.i64.wrap (b2 - x23.1.1))), x23.1.2))))

noncomputable def iE (cmp4 : aC → aC → Option Int) (rec : (List aC) → Int → Int → Int → Option (List aC)) (aA : List aC) (a1 : Int) (b2 : Int) (bJ : Int) (bH : Bool) (bA : Bool) (cX : Int) (fL : Int) (CL : Int) : Option ((List aC × Int × Int × Int × Bool × Bool) ⊕ ((List aC))) :=
  cond ((bH && bA) && (decide (CL = (1 : Int))))
  ((fB aA a1 b2 cmp4).bind fun x35 =>
  cond x35.1
  (some (.inr x35.2))
  (iH cmp4 rec x35.2 a1 b2 bJ bH bA cX fL))
  (iH cmp4 rec aA a1 b2 bJ bH bA cX fL)

noncomputable def iD (cmp4 : aC → aC → Option Int) (rec : (List aC) → Int → Int → Int → Option (List aC)) (aA : List aC) (a1 : Int) (b2 : Int) (bJ : Int) (bH : Bool) (bA : Bool) (cX : Int) : Option ((List aC × Int × Int × Int × Bool × Bool) ⊕ ((List aC))) :=
  (jB aA a1 b2 cmp4).bind fun x9 =>
  cond (decide (x9.2 = (2 : Int)))
  ((iT aA a1 b2 cmp4).bind fun x40 =>
  iE cmp4 rec x40 a1 b2 bJ bH bA cX (IntKind.i64.wrap ((IntKind.i64.wrap (b2 - (1 : Int))) - (IntKind.i64.wrap (x9.1 - a1)))) (1 : Int))
  (iE cmp4 rec aA a1 b2 bJ bH bA cX x9.1 x9.2)

noncomputable def kS (cmp4 : aC → aC → Option Int) (rec : (List aC) → Int → Int → Int → Option (List aC))  (aA : List aC) (a1 : Int) (b2 : Int) (bJ : Int) (bH : Bool) (bA : Bool) : Option ((List aC × Int × Int × Int × Bool × Bool) ⊕ ((List aC))) :=
  cond (decide ((IntKind.i64.wrap (b2 - a1)) ≤ (12 : Int)))
  ((iL aA a1 b2 cmp4).bind fun x2 =>
  some (.inr x2))
  (cond (decide (bJ = (0 : Int)))
  ((kN aA a1 b2 cmp4).bind fun x6 =>
  some (.inr x6))
  (cond (!bH)
  ((iK aA a1 b2 cmp4).bind fun x44 =>
  iD cmp4 rec x44 a1 b2 (IntKind.i64.wrap (bJ - (1 : Int))) bH bA (IntKind.i64.wrap (b2 - a1)))
  (iD cmp4 rec aA a1 b2 bJ bH bA (IntKind.i64.wrap (b2 - a1)))))

noncomputable def kQ (cmp4 : aC → aC → Option Int) (rec : (List aC) → Int → Int → Int → Option (List aC)) (aA : List aC) (a1 : Int) (b2 : Int) (bJ : Int) (bH : Bool) (bA : Bool) : Option (List aC) :=
  (lp (fun s => kS cmp4 rec s.1 s.2.1 s.2.2.1 s.2.2.2.1 s.2.2.2.2.1 s.2.2.2.2.2) (aA, a1, b2, bJ, bH, bA)).bind (fun rr => some rr)

noncomputable def jL (cmp4 : aC → aC → Option Int) (rec : (List aC) → Int → Int → Int → Option (List aC)) (aA : (List aC)) (a1 : Int) (b2 : Int) (bJ : Int) : Option (List aC) :=
  kQ cmp4 rec aA a1 b2 bJ true true

noncomputable def iC (cmp4 : aC → aC → Option Int) : Nat → (List aC) → Int → Int → Int → Option (List aC)
  | 0 => fun _ _ _ _ => none
  | k + 1 => jL cmp4 (iC cmp4 k)

noncomputable def pZ (aA : (List aC)) (a1 : Int) (b2 : Int) (bJ : Int) (cmp4 : aC → aC → Option Int) : Option (List aC) := aAs (fun k => iC cmp4 k aA a1 b2 bJ)

noncomputable def fU (x0 : (List aC)) (cmp1 : aC → aC → Option Int) : Option (List aC) :=
  (oA (IntKind.u64.wrap ((List.length x0 : Nat) : Int))).bind fun x1 =>
  (pZ x0 (0 : Int) ((List.length x0 : Nat) : Int) x1 cmp1).bind fun x4 =>
  some x4

noncomputable def pJ (x0 : aC) (y1 : aC) : Option Int :=
  (tB x0.row y1.row).bind fun x1 =>
  some x1

noncomputable def ED (l0 : List aM) : Option (List aM) :=
  some l0

noncomputable def sI (r1 : (List aE)) (t9 : (List aD)) (t10 : Int) (l0 : List aM) (t11 : Int) : Option ((List aM × Int) ⊕ ((List aM))) :=
  cond (decide (t11 < t10))
  (aT (0 ≤ t11 ∧ t11 < ((List.length t9 : Nat) : Int)) <|
  (yM r1).bind fun x7 =>
  aT ((List.length l0 + List.length ([aM.mk x7 ((List.getD t9 (Int.toNat t11) default).At) ((List.getD t9 (Int.toNat t11) default).Net)])) * 40 ≤ 140737488355328 ∧ List.length l0 + List.length ([aM.mk x7 ((List.getD t9 (Int.toNat t11) default).At) ((List.getD t9 (Int.toNat t11) default).Net)]) ≤ 9223372036854775807) <|
  some (.inl (l0 ++ ([aM.mk x7 ((List.getD t9 (Int.toNat t11) default).At) ((List.getD t9 (Int.toNat t11) default).Net)]), IntKind.i64.wrap (t11 + (1 : Int)))))
  (some (.inr l0))

noncomputable def DY (l0 : List aM) (r1 : (List aE)) (t9 : (List aD)) (t10 : Int) (t11 : Int) : Option (List aM) :=
  (lp (fun s => sI r1 t9 t10 s.1 s.2) (l0, t11)).bind (fun rr => ED rr)

noncomputable def CA (l0 : (List aM)) (r1 : (List aE)) (f2 : (List aD)) : Option (List aM) :=
  DY l0 r1 f2 ((List.length f2 : Nat) : Int) (0 : Int)

noncomputable def xM (r0 : (List aE)) (f1 : (List aD)) : Option (List aM) :=
  (tM r0).bind fun x1 =>
  (cZ (!(!x1)) (pY f1)).bind fun x4 =>
  cond ((!x1) || (!x4))
  (some ([]))
  ((CA [] r0 f1).bind fun x8 =>
  some x8)

noncomputable def AI (rows : List aC) (n : Int) (out : List aM) (i : Int) : Option ((List aM × Int) ⊕ List aM) :=
  cond (decide (i < n))
  (aT (0 ≤ i ∧ i < (lN rows)) <|
  (xM (gD rows i).row (gD rows i).jumps).bind fun x =>
  aT ((List.length out + List.length x) * 40 ≤ 140737488355328 ∧ List.length out + List.length x ≤ 9223372036854775807) <|
  some (.inl (out ++ x, wR (i + (1 : Int)))))
  (some (.inr out))

noncomputable def KH (rows : List aC) : Option (List aM) :=
  (fU rows (fun x y => pJ x y)).bind fun rows =>
  lp (fun s => AI rows (lN rows) s.1 s.2) (([] : List aM), (0 : Int))

noncomputable def sF (s : List aC) (p : ByteArray × aC) : Option (List aC) :=
  aT ((List.length s + List.length ([p.2])) * 48 ≤ 140737488355328 ∧ List.length s + List.length ([p.2]) ≤ 9223372036854775807) <|
  some (s ++ [p.2])

noncomputable def uB (b : bY) : Option (List aM) :=
  aT (0 ≤ (lN b.cells) ∧ (48 : Int) * (lN b.cells) ≤ 281474976710656 ∧ (lN b.cells) ≤ 9223372036854775807) <|
  uY b.cells (fun q => (mS sF ([] : List aC) q).bind KH)

noncomputable def vQ  : Option Bool :=
  some true

noncomputable def tI (a0 : (List aE)) (b1 : (List aE)) (i5 : Int) : Option ((Int) ⊕ (Unit ⊕ Bool)) :=
  cond (decide (i5 < ((List.length a0 : Nat) : Int)))
  (aT (0 ≤ i5 ∧ i5 < ((List.length a0 : Nat) : Int)) <|
  aT (0 ≤ i5 ∧ i5 < ((List.length b1 : Nat) : Int)) <|
  cond (!((decide (((List.getD a0 (Int.toNat i5) default).Kind) = ((List.getD b1 (Int.toNat i5) default).Kind))) && ((decide (((List.getD a0 (Int.toNat i5) default).Num) = ((List.getD b1 (Int.toNat i5) default).Num))) && ((sB ((List.getD a0 (Int.toNat i5) default).Text) ((List.getD b1 (Int.toNat i5) default).Text)) && true))))
  (some (.inr (.inr false)))
  (some (.inl (IntKind.i64.wrap (i5 + (1 : Int))))))
  (some (.inr (.inl ())))

noncomputable def AS (a0 : (List aE)) (b1 : (List aE)) (i5 : Int) : Option Bool :=
  (lp (fun s => tI a0 b1 s) i5).bind (Sum.elim (fun rr => vQ ) (fun rr => some rr))

noncomputable def xS (a0 : (List aE)) (b1 : (List aE)) : Option Bool :=
  cond (!decide (((List.length a0 : Nat) : Int) = ((List.length b1 : Nat) : Int)))
  (some false)
  (AS a0 b1 (0 : Int))

noncomputable def vS  : Option Bool :=
  some true

noncomputable def tA (a0 : (List aM)) (b1 : (List aM)) (i5 : Int) : Option ((Int) ⊕ (Unit ⊕ Bool)) :=
  cond (decide (i5 < ((List.length a0 : Nat) : Int)))
  (aT (0 ≤ i5 ∧ i5 < ((List.length a0 : Nat) : Int)) <|
  aT (0 ≤ i5 ∧ i5 < ((List.length b1 : Nat) : Int)) <|
  aT ((((!(!decide (((List.getD a0 (Int.toNat i5) default).At) = ((List.getD b1 (Int.toNat i5) default).At))))) = true → 0 ≤ i5 ∧ i5 < ((List.length a0 : Nat) : Int))) <|
  aT ((((!(!decide (((List.getD a0 (Int.toNat i5) default).At) = ((List.getD b1 (Int.toNat i5) default).At))))) = true → 0 ≤ i5 ∧ i5 < ((List.length b1 : Nat) : Int))) <|
  aT ((((!((!decide (((List.getD a0 (Int.toNat i5) default).At) = ((List.getD b1 (Int.toNat i5) default).At))) || (!decide (((List.getD a0 (Int.toNat i5) default).Net) = ((List.getD b1 (Int.toNat i5) default).Net)))))) = true → 0 ≤ i5 ∧ i5 < ((List.length a0 : Nat) : Int))) <|
  aT ((((!((!decide (((List.getD a0 (Int.toNat i5) default).At) = ((List.getD b1 (Int.toNat i5) default).At))) || (!decide (((List.getD a0 (Int.toNat i5) default).Net) = ((List.getD b1 (Int.toNat i5) default).Net)))))) = true → 0 ≤ i5 ∧ i5 < ((List.length b1 : Nat) : Int))) <|
  (cZ (!((!decide (((List.getD a0 (Int.toNat i5) default).At) = ((List.getD b1 (Int.toNat i5) default).At))) || (!decide (((List.getD a0 (Int.toNat i5) default).Net) = ((List.getD b1 (Int.toNat i5) default).Net))))) (xS ((List.getD a0 (Int.toNat i5) default).Row) ((List.getD b1 (Int.toNat i5) default).Row))).bind fun x9 =>
  cond (((!decide (((List.getD a0 (Int.toNat i5) default).At) = ((List.getD b1 (Int.toNat i5) default).At))) || (!decide (((List.getD a0 (Int.toNat i5) default).Net) = ((List.getD b1 (Int.toNat i5) default).Net)))) || (!x9))
  (some (.inr (.inr false)))
  (some (.inl (IntKind.i64.wrap (i5 + (1 : Int))))))
  (some (.inr (.inl ())))

noncomputable def AR (a0 : (List aM)) (b1 : (List aM)) (i5 : Int) : Option Bool :=
  (lp (fun s => tA a0 b1 s) i5).bind (Sum.elim (fun rr => vS ) (fun rr => some rr))

noncomputable def uM (a0 : (List aM)) (b1 : (List aM)) : Option Bool :=
  cond (!decide (((List.length a0 : Nat) : Int) = ((List.length b1 : Nat) : Int)))
  (some false)
  (AR a0 b1 (0 : Int))

noncomputable def pQ  : Option Bool :=
  (xQ).bind fun x1 =>
  (rG x1 ([aM.mk ([aE.mk (1 : Int) (1 : Int) ByteArray.empty]) (2 : Int) (1 : Int), aM.mk ([aE.mk (1 : Int) (1 : Int) ByteArray.empty]) (9 : Int) (-1 : Int)])).bind fun x9 =>
  (mO x9.2 (5 : Int)).bind fun x15 =>
  (rG x15.2 ([aM.mk ([aE.mk (1 : Int) (1 : Int) ByteArray.empty]) (4 : Int) (1 : Int)])).bind fun x21 =>
  (cond (((decide (x9.1 = (0 : Int))) && (decide (x15.1 = (0 : Int)))) && (decide (x21.1 = (16 : Int)))) (yA x21.2) (some (0 : Int))).bind fun x27 =>
  (cond ((((decide (x9.1 = (0 : Int))) && (decide (x15.1 = (0 : Int)))) && (decide (x21.1 = (16 : Int)))) && (decide (x27 = (5 : Int)))) (zY x21.2) (some (0 : Int))).bind fun x33 =>
  (cond (((((decide (x9.1 = (0 : Int))) && (decide (x15.1 = (0 : Int)))) && (decide (x21.1 = (16 : Int)))) && (decide (x27 = (5 : Int)))) && (decide (x33 = (1 : Int)))) (uB x21.2) (some ([]))).bind fun x39 =>
  (cZ (((((decide (x9.1 = (0 : Int))) && (decide (x15.1 = (0 : Int)))) && (decide (x21.1 = (16 : Int)))) && (decide (x27 = (5 : Int)))) && (decide (x33 = (1 : Int)))) (uM x39 ([aM.mk ([aE.mk (1 : Int) (1 : Int) ByteArray.empty]) (-1 : Int) (1 : Int), aM.mk ([aE.mk (1 : Int) (1 : Int) ByteArray.empty]) (9 : Int) (-1 : Int)]))).bind fun x45 =>
  some ((((((decide (x9.1 = (0 : Int))) && (decide (x15.1 = (0 : Int)))) && (decide (x21.1 = (16 : Int)))) && (decide (x27 = (5 : Int)))) && (decide (x33 = (1 : Int)))) && x45)

noncomputable def tJ (AH : (List aM)) (AT : (List aM)) (t2 : Int) : Option Bool :=
  cond ((((decide ((2000 : Int) < ((List.length AH : Nat) : Int))) || (decide ((2000 : Int) < ((List.length AT : Nat) : Int)))) || (decide (t2 < (0 : Int)))) || (decide ((1125899906842624 : Int) ≤ t2)))
  ((pQ ).bind fun x2 =>
  some x2)
  ((xQ).bind fun x5 =>
  (xQ).bind fun x13 =>
  (rG x5 AH).bind fun x21 =>
  (cond (!(!decide (x21.1 = (0 : Int)))) (rG x13 AH) (some ((0 : Int), x13))).bind fun x27 =>
  (cond (!((!decide (x21.1 = (0 : Int))) || (!decide (x27.1 = (0 : Int))))) (mO x21.2 t2) (some ((0 : Int), x21.2))).bind fun x33 =>
  cond (((!decide (x21.1 = (0 : Int))) || (!decide (x27.1 = (0 : Int)))) || (!decide (x33.1 = (0 : Int))))
  ((pQ ).bind fun x40 =>
  some x40)
  ((rG x33.2 AT).bind fun x43 =>
  cond (decide (x43.1 = (16 : Int)))
  ((pQ ).bind fun x50 =>
  (cond x50 (yA x43.2) (some (0 : Int))).bind fun x53 =>
  some (x50 && (decide (x53 = t2))))
  ((rG x27.2 AT).bind fun x59 =>
  cond ((decide (x43.1 = (0 : Int))) && (decide (x59.1 = (0 : Int))))
  ((mO x59.2 t2).bind fun x66 =>
  cond (decide (x66.1 = (0 : Int)))
  ((pQ ).bind fun x73 =>
  (cond x73 (uB x43.2) (some ([]))).bind fun x76 =>
  (cond x73 (uB x66.2) (some ([]))).bind fun x82 =>
  (cZ x73 (uM x76 x82)).bind fun x88 =>
  some (x73 && x88))
  ((pQ ).bind fun x91 =>
  some (x91 && (decide (x66.1 = (7 : Int))))))
  ((pQ ).bind fun x94 =>
  some (x94 && (((decide (x43.1 = x59.1)) || (decide (x59.1 = (7 : Int)))) || (decide (x43.1 = (7 : Int)))))))))

end Go.Abs
namespace Go.Abs
open Go Go.RowKit
def HK (x : aE) : Prop := tY x.Kind ∧ tY x.Num ∧ (fun s => s.size ≤ maxLen) x.Text ∧ True

def sJ (x : aM) : Prop := (fun l => (∀ a ∈ l, HK a) ∧ l.length * 32 ≤ 140737488351232) x.Row ∧ tY x.At ∧ tY x.Net ∧ True

end Go.Abs
namespace Go.Abs
open Go Go.RowKit Go.Proofs
noncomputable def tt : TT := ⟨aCe Try.prog, ZR Try.prog⟩

theorem aF : iN Try.prog tt := iN.of Try.prog

theorem ND (r : bY) (h0 : xQ = some r) : wQ Try.prog 6 [] [] [] (fun x M L => ∃ lo lm, x = .lp lo 0 0 ∧ M = [dQ lm r] ∧ L = [iB lo lm r]) := by
  intro F H0 hO
  obtain ⟨Fh, Fe, Fg⟩ := F
  refine dP Try.func6 ?_
  unfold xQ at h0
  obtain rfl := oI h0
  refine aX aF 1 [] [] ?_
  refine aO ?_
  refine aU aF 4 ?_
  refine aA8 (β := aC) aB (t := 40) hO ?_
  intro lm H hO
  refine bO 2 ?_
  refine qY 3 (.agg [.mp lm, eI 0, eI (-1)]) (by kernel_rfl) (by kernel_rfl) hO ?_
  intro lo H hO
  refine bE ?_
  refine bB [(0, (.lp lo 0 0))] ?_
  refine bQ ?_
  exact aI (MK (M := [dQ lm ⟨[], 0, -1⟩]) hO ⟨lo, lm, rfl, rfl, rfl⟩)

theorem QE (l0 : (List aM)) (r : (List aM)) (h0 : wB l0 = some r) : dK Try.prog 31 [(eL aR l0)] (.fn (.func 47) [] [(.rp (eL aR r))]) := by
  intro H0
  refine dP Try.func31 ?_
  have hO := aN.start H0
  unfold wB at h0
  refine aO ?_
  refine aU aF 2 ?_
  refine xP 1 (eL aR l0) ?_
  refine bE ?_
  refine bB [(1, (.rp (eL aR l0)))] ?_
  refine cJ aF 2 [(2, (.fn (.func 47) [] [(.rp (eL aR l0))]))] ?_
  refine bQ ?_
  obtain rfl := oI h0
  exact aI (nL (x := (.fn (.func 47) [] [(.rp (eL aR l0))])) (by kernel_rfl) (aP.refl _) ⟨rfl, hO.out⟩)

theorem AY (s10 : (List aE)) (s21 : (List aE)) (r : Bool) (h0 : mZ s10 s21 = some r) : dK Try.prog 68 [(eL aL s10), (eL aL s21)] (aG r) := by
  intro H0
  refine dP Try.func68 ?_
  have hO := aN.start H0
  unfold mZ at h0
  refine aX aF 1 [] [] ?_
  refine aO ?_
  refine aX aF 5 [] [(10, (aG (!decide ((lN s10) = (lN s21)))))] ?_
  refine bV h0 (fun h0 => ?_) (fun h0 => ?_)
  · refine cJ aF 1 [(4, (aG false))] ?_
    refine bQ ?_
    obtain rfl := oI h0
    exact aI (aV (Q_r hO))
  refine bT ?_
  refine bB [(0, (eL aL s10)), (1, (eL aL s21))] ?_
  refine lY (fun T H => Has T [] ∧ aN ⟨H0, [], []⟩ H [] ∧ kT  = some r) ?_ ?_
  · clear hO h0
    rintro T H ⟨hT, hO, h0⟩
    refine bR hT ?_
    clear hT
    unfold kT at h0
    refine cJ aF 1 [(4, (aG true))] ?_
    refine bQ ?_
    obtain rfl := oI h0
    exact aI (Q_r hO)
  refine aX aF 3 [] [(12, (eI (lN s10))), (13, (eI (0 : Int)))] ?_
  refine cI 0 ?_
  refine mI [(0, (eL aL s10)), (1, (eL aL s21)), (12, (eI (lN s10))), (13, (eI (0 : Int)))] ?_
  refine lK (fun T H => ∃ t12 : Int, ∃ t13 : Int, Has T [(0, (eL aL s10)), (1, (eL aL s21)), (12, (eI t12)), (13, (eI t13))] ∧ aN ⟨H0, [], []⟩ H [] ∧ mT s10 s21 t12 t13 = some r) ?_ ⟨(lN s10), (0 : Int), bG, hO, h0⟩
  clear hO h0
  rintro T H ⟨t12, t13, hT, hO, h0⟩
  refine bR hT ?_
  clear hT
  unfold mT at h0
  obtain ⟨rr0, hl0, h0⟩ := aY h0
  refine mV (fun (s : Int) T H => Has T [(0, (eL aL s10)), (1, (eL aL s21)), (12, (eI t12)), (13, (eI s))] ∧ aN ⟨H0, [], []⟩ H []) hl0 ⟨bG, hO⟩ ?_
  clear hO
  rintro k0 s out1 T H ⟨hT, hO⟩ h1 ho0
  obtain ⟨t13, rfl⟩ : ∃ x, x = s := ⟨_, rfl⟩
  replace h1 : iG s10 s21 t12 t13 = some out1 := h1
  refine bR hT ?_
  clear hT
  unfold iG at h1
  refine aX aF 1 [] [(14, (aG (decide (t13 < t12))))] ?_
  refine aO ?_
  refine bV h1 (fun h1 => ?_) (fun h1 => ?_)
  · refine bT ?_
    refine bB [(0, (eL aL s10)), (1, (eL aL s21)), (12, (eI t12)), (13, (eI t13))] ?_
    refine aO ?_
    refine cI 1 ?_
    refine aX aF 2 [] [(5, (eI t13))] ?_
    refine aO ?_
    refine kB (jS [19, 23]) aF 9 ?_
    obtain ⟨c3, h1⟩ := bC h1
    obtain ⟨c4, h1⟩ := bC h1
    refine LX (Ds := [0 ≤ t13 ∧ t13 < (lN s10), 0 ≤ t13 ∧ t13 < (lN s21)]) (by kernel_rfl) ⟨c3, c4, trivial⟩ ?_
    refine cO [5] [(24, (aG (!((decide (((gD s10 t13).Kind) = ((gD s21 t13).Kind))) && ((decide (((gD s10 t13).Num) = ((gD s21 t13).Num))) && ((sB ((gD s10 t13).Text) ((gD s21 t13).Text)) && true))))))] ?_
    refine bV h1 (fun h1 => ?_) (fun h1 => ?_)
    · refine cJ aF 1 [(4, (aG false))] ?_
      refine bQ ?_
      obtain rfl := oI h1
      obtain rfl : _ = rr0 := ho0
      replace h0 : some false = some r := h0
      obtain rfl := oI h0
      exact aI (bW (aV (aV (bW (aV (Q_r hO))))))
    refine bT ?_
    refine fG [(0, (eL aL s10)), (1, (eL aL s21)), (12, (eI t12)), (13, (eI t13))] ?_
    refine aI (bD (aJ (?_)))
    refine aU aF 2 ?_
    refine bE ?_
    exact aI (aJ (⟨rfl, _, (oI h1).symm, bG, hO⟩))
  refine lS 0 ?_
  obtain rfl := oI h1
  obtain rfl : _ = rr0 := ho0
  replace h0 : kT  = some r := h0
  exact aI (aZ (aZ (cC (aJ (⟨rfl, bG, hO, h0⟩)))))

theorem aB6 (a0 : (List aE)) (b1 : (List aE)) (r : Bool) (h0 : CO a0 b1 = some r) : dK Try.prog 48 [(eL aL a0), (eL aL b1)] (aG r) := by
  intro H0
  refine dP Try.func48 ?_
  have hO := aN.start H0
  unfold CO at h0
  refine aX aF 1 [] [] ?_
  refine aO ?_
  refine aU aF 4 ?_
  refine bO 2 ?_
  obtain ⟨x1, hx2, h0⟩ := aY h0
  refine iI (AY a0 b1 _ hx2) hO ?_
  intro H hO
  refine bE ?_
  refine bB [(4, (aG x1))] ?_
  refine bQ ?_
  obtain rfl := oI h0
  exact aI (Q_r hO)

theorem TO (r0 : (List aE)) (r : (List aE)) (h0 : yM r0 = some r) : dK Try.prog 49 [(eL aL r0)] (eL aL r) := by
  intro H0
  refine dP Try.func49 ?_
  have hO := aN.start H0
  unfold yM at h0
  refine aX aF 1 [] [] ?_
  refine aO ?_
  refine aU aF 6 ?_
  refine bO 2 ?_
  obtain ⟨c1, h0⟩ := bC h0
  refine aBI 3 32 (lN r0) (by kernel_rfl) (by kernel_rfl) c1 hO ?_
  intro lo2 H hO
  refine bO 4 ?_
  obtain ⟨c4, h0⟩ := bC h0
  refine FD aL ([] : List aE) r0 0 lo2 3 32 (eL aL r0) (fun lo3 => [(lo3, 3, List.map aL (([] : List aE) ++ r0))]) hO (DB (fun _ => by kernel_rfl)) c4 ?_
  intro lo3 H hO
  refine bE ?_
  refine bB [(2, (.msl 3 lo3 0 (List.length (([] : List aE) ++ r0))))] ?_
  refine bQ ?_
  refine fG [(2, (.msl 3 lo3 0 (List.length (([] : List aE) ++ r0))))] ?_
  refine tV (en := aL) (([] : List aE) ++ r0) 0 0 2 3 lo3 (List.length (([] : List aE) ++ r0)) hO (by kernel_rfl) (by kernel_rfl) (by kernel_rfl) (L' := []) (by kernel_rfl) ?_
  intro H5 hO
  obtain rfl := oI h0
  exact aI (Q_r hO)

theorem JO {σ : Type} (I : σ → Gs → Prop) (yield0_b : Nat) (kP : σ → (List aE) → (List aD) → Option (σ × Bool)) (yield0_h : ∀ st a0 a1 st2 r, kP st a0 a1 = some (st2, r) → FW Try.prog (yv yield0_b) I st [(eL aL a0), (eL aK a1)] st2 (aG r)) (t1 : (List aM)) (sg0 : σ) (r : σ) (h0 : rK kP t1 sg0 = some r) : vC Try.prog 47 I sg0 [(yv yield0_b), (.rp (eL aR t1))] r (.tup []) := by
  intro H0 G0 hI hg
  refine dP Try.func47 ?_
  obtain ⟨G, hO, hI⟩ : ∃ G, aN ⟨H0, List.map (fun p : Nat × dS => p.1) G0, G⟩ H0 [] ∧ I sg0 G := ⟨G0, aN.LC hg, hI⟩
  clear hg
  unfold rK at h0
  refine aX aF 1 [] [(3, (eI (0 : Int)))] ?_
  refine cI 0 ?_
  refine mI [(0, (yv yield0_b)), (1, (.rp (eL aR t1))), (3, (eI (0 : Int)))] ?_
  refine lK (fun T H => ∃ sg : σ, ∃ i3 : Int, ∃ G : Gs, Has T [(0, (yv yield0_b)), (1, (.rp (eL aR t1))), (3, (eI i3))] ∧ aN ⟨H0, List.map (fun p : Nat × dS => p.1) G0, G⟩ H [] ∧ I sg G ∧ vA kP sg t1 i3 = some r) ?_ ⟨sg0, (0 : Int), G, bG, hO, hI, h0⟩
  clear hO hI h0
  rintro T H ⟨sg, i3, G, hT, hO, hI, h0⟩
  refine bR hT ?_
  clear hT
  unfold vA at h0
  obtain ⟨rr0, hl0, h0⟩ := aY h0
  refine mV (fun (s : σ × Int) T H => ∃ G : Gs, Has T [(0, (yv yield0_b)), (1, (.rp (eL aR t1))), (3, (eI s.2))] ∧ aN ⟨H0, List.map (fun p : Nat × dS => p.1) G0, G⟩ H [] ∧ I s.1 G) hl0 ⟨G, bG, hO, hI⟩ ?_
  clear hO hI
  rintro k0 s out1 T H ⟨G, hT, hO, hI⟩ h1 ho0
  obtain ⟨sg, i3⟩ := s
  replace h1 : mD kP t1 sg i3 = some out1 := h1
  try dsimp only at hT
  refine bR hT ?_
  clear hT
  unfold mD at h1
  refine aO ?_
  refine aX aF 4 [] [(9, (aG (decide (i3 < (lN t1)))))] ?_
  refine bV h1 (fun h1 => ?_) (fun h1 => ?_)
  · refine bT ?_
    refine bB [(0, (yv yield0_b)), (1, (.rp (eL aR t1))), (3, (eI i3))] ?_
    refine cI 1 ?_
    refine aO ?_
    refine aU aF 6 ?_
    obtain ⟨c2, h1⟩ := bC h1
    refine sV [0 ≤ i3 ∧ i3 < (lN t1)] ⟨c2, trivial⟩ ?_
    refine cO [] [(4, (eL aL ((gD t1 i3).Row)))] ?_
    refine aO ?_
    refine aU aF 2 ?_
    refine xL [] 2 ?_
    refine bE ?_
    refine cO [] [(5, (.sl true 0 (fun _ => .bad)))] ?_
    refine lY (fun T H => ∃ sg : σ, ∃ i3 : Int, ∃ r4 : (List aE), ∃ f5 : List aD, ∃ lo3 : Nat, ∃ G : Gs, Has T [(0, (yv yield0_b)), (1, (.rp (eL aR t1))), (3, (eI i3)), (4, (eL aL r4)), (5, (.msl 2 lo3 0 (List.length f5)))] ∧ aN ⟨H0, List.map (fun p : Nat × dS => p.1) G0, G⟩ H [(lo3, 2, List.map aK f5)] ∧ I sg G ∧ sN kP sg t1 i3 r4 f5 = some out1) ?_ ?_
    · clear hO hI h1
      rintro T H ⟨sg, i3, r4, f5, lo3, G, hT, hO, hI, h1⟩
      refine bR hT ?_
      clear hT
      unfold sN at h1
      refine aO ?_
      refine aU aF 6 ?_
      refine NL (e := aK) f5 0 5 2 lo3 (List.length f5) [] (by kernel_rfl) hO (by kernel_rfl) (by kernel_rfl) (by kernel_rfl) (by kernel_rfl) ?_
      intro H hO
      refine bO 2 ?_
      obtain ⟨x7, hx8, h1⟩ := aY h1
      refine iI (TO r4 _ hx8) hO ?_
      intro H hO
      refine bO 4 ?_
      obtain ⟨x10, hx11, h1⟩ := aY h1
      refine PM (I := I) (yv yield0_b) [(eL aL x7), (eL aK f5)] (aG x10.2) (by kernel_rfl) (by kernel_rfl) (yield0_h _ x7 f5 x10.1 x10.2 hx11) hO hI ?_
      intro G H hO hI
      refine bE ?_
      refine cO [4, 5] [(50, (aG (!x10.2)))] ?_
      refine bV h1 (fun h1 => ?_) (fun h1 => ?_)
      · refine bQ ?_
        obtain rfl := oI h1
        obtain rfl : _ = rr0 := ho0
        replace h0 : some x10.1 = some r := h0
        obtain rfl := oI h0
        exact aI (bW (aV (bW (nL (x := (.tup [])) (by kernel_rfl) (aP.refl _) ⟨rfl, G, hI, hO.HE⟩))))
      refine bT ?_
      exact aI (bD (aJ (⟨rfl, _, (oI h1).symm, _, bG, hO, hI⟩)))
    refine cI 2 ?_
    refine mI [(0, (yv yield0_b)), (1, (.rp (eL aR t1))), (3, (eI i3)), (4, (eL aL ((gD t1 i3).Row))), (5, (.sl true 0 (fun _ => .bad)))] ?_
    refine aAb (el := (fun _ => .bad)) 4 5 2 hO (by kernel_rfl) ?_
    intro lo24 H25 hO
    refine lK (fun T H => ∃ sg : σ, ∃ i3 : Int, ∃ r4 : (List aE), ∃ f5 : List aD, ∃ lo14 : Nat, ∃ G : Gs, Has T [(0, (yv yield0_b)), (1, (.rp (eL aR t1))), (3, (eI i3)), (4, (eL aL r4)), (5, (.msl 2 lo14 0 (List.length f5)))] ∧ aN ⟨H0, List.map (fun p : Nat × dS => p.1) G0, G⟩ H [(lo14, 2, List.map aK f5)] ∧ I sg G ∧ vI kP sg t1 i3 r4 f5 = some out1) ?_ ⟨sg, i3, (gD t1 i3).Row, ([] : List aD), lo24, G, bG, hO, hI, h1⟩
    clear hO hI h1
    rintro T H ⟨sg, i3, r4, f5, lo14, G, hT, hO, hI, h1⟩
    refine bR hT ?_
    clear hT
    unfold vI at h1
    obtain ⟨rr1, hl1, h1⟩ := aY h1
    refine mV (fun (s : σ × Int × List aD) T H => ∃ lo14 : Nat, ∃ G : Gs, Has T [(0, (yv yield0_b)), (1, (.rp (eL aR t1))), (3, (eI s.2.1)), (4, (eL aL r4)), (5, (.msl 2 lo14 0 (List.length s.2.2)))] ∧ aN ⟨H0, List.map (fun p : Nat × dS => p.1) G0, G⟩ H [(lo14, 2, List.map aK s.2.2)] ∧ I s.1 G) hl1 ⟨lo14, G, bG, hO, hI⟩ ?_
    clear hO hI
    rintro k1 s out2 T H ⟨lo14, G, hT, hO, hI⟩ h2 ho1
    obtain ⟨sg, i3, f5⟩ := s
    replace h2 : nE kP t1 r4 sg i3 f5 = some out2 := h2
    try dsimp only at hT
    refine bR hT ?_
    clear hT
    unfold nE at h2
    refine aO ?_
    refine aO ?_
    refine aU aF 13 ?_
    obtain ⟨c15, h2⟩ := bC h2
    refine BD 11 [(((decide (i3 < (lN t1)))) = true → 0 ≤ i3 ∧ i3 < (lN t1))] ⟨c15, trivial⟩ ?_
    obtain ⟨x16, hx17, h2⟩ := aY h2
    refine uQ [(20, true)] 48 [(eL aL ((gD t1 i3).Row)), (eL aL r4)] (aG x16) (decide (i3 < (lN t1))) (by kernel_rfl) (by kernel_rfl) (by kernel_rfl) (fun hb18 => (aB6 ((gD t1 i3).Row) r4 _ (pS hx17 hb18))) hO ?_
    intro H hO
    refine bE ?_
    refine cO [] [(28, (aG ((decide (i3 < (lN t1))) && x16)))] ?_
    refine bV h2 (fun h2 => ?_) (fun h2 => ?_)
    · refine bT ?_
      refine bB [(0, (yv yield0_b)), (1, (.rp (eL aR t1))), (3, (eI i3)), (4, (eL aL r4)), (5, (.msl 2 lo14 0 (List.length f5)))] ?_
      refine aO ?_
      refine cI 3 ?_
      refine kB (jS [32, 36, 37, 41, 43]) aF 15 ?_
      obtain ⟨c20, h2⟩ := bC h2
      obtain ⟨c21, h2⟩ := bC h2
      refine cQ 12 [0 ≤ i3 ∧ i3 < (lN t1), 0 ≤ i3 ∧ i3 < (lN t1)] ⟨c20, c21, trivial⟩ ?_
      refine aB4 (xs := [(aK (aD.mk ((gD t1 i3).At) ((gD t1 i3).Net)))]) (k := 2) (by kernel_rfl) (by kernel_rfl) ?_
      obtain ⟨c23, h2⟩ := bC h2
      refine aBV (e := aK) f5 ([aD.mk ((gD t1 i3).At) ((gD t1 i3).Net)]) 0 lo14 2 16 (dW [(aK (aD.mk ((gD t1 i3).At) ((gD t1 i3).Net)))]) (fun lo22 => [(lo22, 2, List.map aK (f5 ++ ([aD.mk ((gD t1 i3).At) ((gD t1 i3).Net)])))]) (by kernel_rfl) (by kernel_rfl) hO (by kernel_rfl) (by kernel_rfl) c23 (fun _ => by kernel_rfl) ?_
      intro lo22 H hO
      refine oK ?_
      refine fG [(0, (yv yield0_b)), (1, (.rp (eL aR t1))), (3, (eI i3)), (4, (eL aL r4)), (5, (.msl 2 lo22 0 (List.length (f5 ++ ([aD.mk ((gD t1 i3).At) ((gD t1 i3).Net)])))))] ?_
      refine aI (bD (aJ (?_)))
      refine aU aF 3 ?_
      refine bE ?_
      exact aI (aJ (⟨rfl, _, (oI h2).symm, _, _, bG, hO, hI⟩))
    refine lS 2 ?_
    obtain rfl := oI h2
    obtain rfl : _ = rr1 := ho1
    replace h1 : sN kP sg t1 i3 r4 f5 = some out1 := h1
    exact aI (aZ (aZ (cC (aJ (⟨rfl, _, _, _, _, _, _, bG, hO, hI, h1⟩)))))
  refine lS 0 ?_
  obtain rfl := oI h1
  obtain rfl : _ = rr0 := ho0
  replace h0 : some sg = some r := h0
  obtain rfl := oI h0
  exact aI (aZ (aZ (cC (FP (x := (.tup [])) (by kernel_rfl) (aP.refl _) ⟨rfl, G, hI, hO.HE⟩))))

theorem xC (s0 : (List aE)) (f1_f : Nat) (f1_a f1_c : List V) (f1 : aE → Option Bool) (f1_h : ∀ a0 r, f1 a0 = some r → dK Try.prog f1_f (f1_a ++ [(aL a0)] ++ f1_c) (aG r)) (r : Int) (h0 : mA s0 f1 = some r) : dK Try.prog 40 [(eL aL s0), (.fn (.func f1_f) f1_a f1_c)] (eI r) := by
  intro H0
  refine dP Try.func40 ?_
  have hO := aN.start H0
  unfold mA at h0
  refine aX aF 1 [] [] ?_
  refine lY (fun T H => Has T [] ∧ aN ⟨H0, [], []⟩ H [] ∧ iS f1  = some r) ?_ ?_
  · clear hO h0
    rintro T H ⟨hT, hO, h0⟩
    refine bR hT ?_
    clear hT
    unfold iS at h0
    refine cJ aF 1 [(4, (eI (-1 : Int)))] ?_
    refine bQ ?_
    obtain rfl := oI h0
    exact aI (Q_r hO)
  refine aX aF 3 [] [(7, (eI (lN s0))), (8, (eI (0 : Int)))] ?_
  refine cI 0 ?_
  refine mI [(0, (eL aL s0)), (1, (.fn (.func f1_f) f1_a f1_c)), (7, (eI (lN s0))), (8, (eI (0 : Int)))] ?_
  refine lK (fun T H => ∃ t7 : Int, ∃ t8 : Int, Has T [(0, (eL aL s0)), (1, (.fn (.func f1_f) f1_a f1_c)), (7, (eI t7)), (8, (eI t8))] ∧ aN ⟨H0, [], []⟩ H [] ∧ lR f1 s0 t7 t8 = some r) ?_ ⟨(lN s0), (0 : Int), bG, hO, h0⟩
  clear hO h0
  rintro T H ⟨t7, t8, hT, hO, h0⟩
  refine bR hT ?_
  clear hT
  unfold lR at h0
  obtain ⟨rr0, hl0, h0⟩ := aY h0
  refine mV (fun (s : Int) T H => Has T [(0, (eL aL s0)), (1, (.fn (.func f1_f) f1_a f1_c)), (7, (eI t7)), (8, (eI s))] ∧ aN ⟨H0, [], []⟩ H []) hl0 ⟨bG, hO⟩ ?_
  clear hO
  rintro k0 s out1 T H ⟨hT, hO⟩ h1 ho0
  obtain ⟨t8, rfl⟩ : ∃ x, x = s := ⟨_, rfl⟩
  replace h1 : lQ f1 s0 t7 t8 = some out1 := h1
  refine bR hT ?_
  clear hT
  unfold lQ at h1
  refine aX aF 1 [] [(9, (aG (decide (t8 < t7))))] ?_
  refine aO ?_
  refine bV h1 (fun h1 => ?_) (fun h1 => ?_)
  · refine bT ?_
    refine bB [(0, (eL aL s0)), (1, (.fn (.func f1_f) f1_a f1_c)), (7, (eI t7)), (8, (eI t8))] ?_
    refine aO ?_
    refine cI 1 ?_
    refine aX aF 2 [] [(5, (eI t8))] ?_
    refine aO ?_
    refine aU aF 6 ?_
    obtain ⟨c2, h1⟩ := bC h1
    refine BD 5 [0 ≤ t8 ∧ t8 < (lN s0)] ⟨c2, trivial⟩ ?_
    obtain ⟨x3, hx4, h1⟩ := aY h1
    refine iI (f1_h (gD s0 t8) _ hx4) hO ?_
    intro H hO
    refine fC ?_
    refine cO [] [(16, (aG x3))] ?_
    refine bV h1 (fun h1 => ?_) (fun h1 => ?_)
    · refine cJ aF 2 [(4, (eI t8))] ?_
      refine bQ ?_
      obtain rfl := oI h1
      obtain rfl : _ = rr0 := ho0
      replace h0 : some t8 = some r := h0
      obtain rfl := oI h0
      exact aI (bW (aV (aV (bW (aV (Q_r hO))))))
    refine bT ?_
    refine fG [(0, (eL aL s0)), (1, (.fn (.func f1_f) f1_a f1_c)), (7, (eI t7)), (8, (eI t8))] ?_
    refine aI (bD (aJ (?_)))
    refine aU aF 2 ?_
    refine bE ?_
    exact aI (aJ (⟨rfl, _, (oI h1).symm, bG, hO⟩))
  refine lS 0 ?_
  obtain rfl := oI h1
  obtain rfl : _ = rr0 := ho0
  replace h0 : iS f1  = some r := h0
  exact aI (aZ (aZ (cC (aJ (⟨rfl, bG, hO, h0⟩)))))

theorem vY (s0 : (List aE)) (f1_f : Nat) (f1_a f1_c : List V) (f1 : aE → Option Bool) (f1_h : ∀ a0 r, f1 a0 = some r → dK Try.prog f1_f (f1_a ++ [(aL a0)] ++ f1_c) (aG r)) (r : Bool) (h0 : gT s0 f1 = some r) : dK Try.prog 61 [(eL aL s0), (.fn (.func f1_f) f1_a f1_c)] (aG r) := by
  intro H0
  refine dP Try.func61 ?_
  have hO := aN.start H0
  unfold gT at h0
  refine aX aF 1 [] [] ?_
  refine aO ?_
  refine aU aF 5 ?_
  refine bO 2 ?_
  obtain ⟨x1, hx2, h0⟩ := aY h0
  refine iI (xC s0 f1_f f1_a f1_c f1 f1_h _ hx2) hO ?_
  intro H hO
  refine bE ?_
  refine bB [(4, (aG (decide ((0 : Int) ≤ x1))))] ?_
  refine bQ ?_
  obtain rfl := oI h0
  exact aI (Q_r hO)

theorem yE (v0 : aE) (r : (bI × Bool)) (h0 : oX v0 = some r) : dK Try.prog 65 [(aL v0)] (.tup [(bF r.1), (aG r.2)]) := by
  intro H0
  refine dP Try.func65 ?_
  have hO := aN.start H0
  unfold oX at h0
  refine aO ?_
  refine aU aF 3 ?_
  refine xP 3 (aL v0) ?_
  refine bE ?_
  refine bB [(1, (.rp (aL v0)))] ?_
  refine aO ?_
  refine cI 0 ?_
  refine aX aF 9 [] [(4, (aG ((decide (v0.Kind = (1 : Int))) && (sB v0.Text (⟨#[]⟩ : ByteArray)))))] ?_
  refine bV h0 (fun h0 => ?_) (fun h0 => ?_)
  · refine cJ aF 5 [(2, (bF (bI.k_number v0.Num))), (3, (aG true))] ?_
    refine bQ ?_
    obtain rfl := oI h0
    exact aI (bW (aV (Q_r hO)))
  refine aX aF 15 [4] [(16, (aG (((decide (v0.Kind = (2 : Int))) && (decide (v0.Num = (0 : Int)))) && (decide (((ByteArray.size v0.Text : Nat) : Int) ≤ (64 : Int))))))] ?_
  refine bV h0 (fun h0 => ?_) (fun h0 => ?_)
  · refine cJ aF 5 [(2, (bF (bI.k_words v0.Text))), (3, (aG true))] ?_
    refine bQ ?_
    obtain rfl := oI h0
    exact aI (bW (aV (Q_r hO)))
  refine bT ?_
  refine fG [] ?_
  refine aI (bD (aJ (?_)))
  refine cJ aF 2 [(2, (bF bI.none_)), (3, (aG false))] ?_
  refine bQ ?_
  obtain rfl := oI h0
  exact aI (Q_r hO)

theorem aBj (v0 : aE) (r : Bool) (h0 : AN v0 = some r) : dK Try.prog 63 [(aL v0)] (aG r) := by
  intro H0
  refine dP Try.func63 ?_
  have hO := aN.start H0
  unfold AN at h0
  refine aO ?_
  refine aU aF 2 ?_
  refine xP 3 (aL v0) ?_
  refine bE ?_
  refine bB [(1, (.rp (aL v0)))] ?_
  refine aO ?_
  refine aU aF 7 ?_
  refine bO 1 ?_
  obtain ⟨⟨x1_0, x1_1⟩, hx2, h0⟩ := aY h0
  refine iI (yE v0 _ hx2) hO ?_
  intro H hO
  rcases x1_0 with _ | y4 | y5
  · replace h0 : (some x1_1) = some r := h0
    refine bE ?_
    refine bB [(4, (aG x1_1))] ?_
    refine cJ aF 2 [(2, (aG x1_1))] ?_
    refine bQ ?_
    obtain rfl := oI h0
    exact aI (Q_r hO)
  · replace h0 : (some x1_1) = some r := h0
    refine bE ?_
    refine bB [(4, (aG x1_1))] ?_
    refine cJ aF 2 [(2, (aG x1_1))] ?_
    refine bQ ?_
    obtain rfl := oI h0
    exact aI (Q_r hO)
  · replace h0 : (some x1_1) = some r := h0
    refine bE ?_
    refine bB [(4, (aG x1_1))] ?_
    refine cJ aF 2 [(2, (aG x1_1))] ?_
    refine bQ ?_
    obtain rfl := oI h0
    exact aI (Q_r hO)

theorem aA2 (v0 : aE) (r : Bool) (h0 : AD v0 = some r) : dK Try.prog 62 [(aL v0)] (aG r) := by
  intro H0
  refine dP Try.func62 ?_
  have hO := aN.start H0
  unfold AD at h0
  refine aO ?_
  refine aU aF 2 ?_
  refine xP 3 (aL v0) ?_
  refine bE ?_
  refine bB [(1, (.rp (aL v0)))] ?_
  refine aO ?_
  refine aU aF 4 ?_
  refine bO 1 ?_
  obtain ⟨x1, hx2, h0⟩ := aY h0
  refine iI (aBj v0 _ hx2) hO ?_
  intro H hO
  refine bE ?_
  refine bB [(2, (aG (!x1)))] ?_
  refine bQ ?_
  obtain rfl := oI h0
  exact aI (Q_r hO)

theorem EG (r0 : (List aE)) (r : Bool) (h0 : tM r0 = some r) : dK Try.prog 39 [(eL aL r0)] (aG r) := by
  intro H0
  refine dP Try.func39 ?_
  have hO := aN.start H0
  unfold tM at h0
  refine aX aF 1 [] [] ?_
  refine aO ?_
  refine aX aF 3 [] [(5, (aG (decide ((8 : Int) < (lN r0)))))] ?_
  refine bV h0 (fun h0 => ?_) (fun h0 => ?_)
  · refine cJ aF 1 [(2, (aG false))] ?_
    refine bQ ?_
    obtain rfl := oI h0
    exact aI (aV (Q_r hO))
  refine bT ?_
  refine bB [(0, (eL aL r0))] ?_
  refine aO ?_
  refine aU aF 4 ?_
  refine bO 1 ?_
  obtain ⟨x2, hx3, h0⟩ := aY h0
  refine iI (vY r0 62 [] [] (fun y0 => AD y0) (fun y0 r h => aA2 y0 r h) _ hx3) hO ?_
  intro H hO
  refine bE ?_
  refine bB [(2, (aG (!x2)))] ?_
  refine bQ ?_
  obtain rfl := oI h0
  exact aI (Q_r hO)

theorem SP (t0 : (List aE)) (r : (Int × (List aE))) (h0 : wN t0 = some r) : ME Try.prog 41 [(.rp (eL aL t0))] (fun lo => (.fn (.func 42) [] [(.lp lo 0 0), (.rp (eL aL r.2))])) 1 [(eI r.1)] := by
  intro H0
  refine dP Try.func41 ?_
  have hO := aN.start H0
  unfold wN at h0
  refine aX aF 1 [] [] ?_
  refine aO ?_
  refine aU aF 2 ?_
  refine qY 1 (eI 0) (by kernel_rfl) (by kernel_rfl) hO ?_
  intro lo1 H hO
  refine pN 0 lo1 1 0 (eI 0) (eI (-1 : Int)) [(eI 0)] [(lo1, 1, [(eI (-1 : Int))])] hO rfl (by kernel_rfl) ?_
  intro H hO
  refine fC ?_
  refine cO [] [(2, (.lp lo1 0 0))] ?_
  refine aX aF 2 [0] [(1, (.fn (.func 42) [] [(.lp lo1 0 0), (.rp (eL aL t0))]))] ?_
  refine bQ ?_
  obtain rfl := oI h0
  exact aI (nL (x := (.fn (.func 42) [] [(.lp lo1 0 0), (.rp (eL aL t0))])) (by kernel_rfl) (aP.refl _) ⟨lo1, rfl, hO⟩)

theorem wL {σ : Type} (I : σ → Gs → Prop) (s0 : (List aE)) (f1_v : V) (f1 : σ → aE → Option (σ × Bool)) (f1_h : ∀ st a0 st2 r, f1 st a0 = some (st2, r) → FW Try.prog f1_v I st [(aL a0)] st2 (aG r)) (sg0 : σ) (r : (σ × Int)) (h0 : lI s0 f1 sg0 = some r) : vC Try.prog 40 I sg0 [(eL aL s0), f1_v] r.1 (eI r.2) := by
  intro H0 G0 hI hg
  refine dP Try.func40 ?_
  obtain ⟨G, hO, hI⟩ : ∃ G, aN ⟨H0, List.map (fun p : Nat × dS => p.1) G0, G⟩ H0 [] ∧ I sg0 G := ⟨G0, aN.LC hg, hI⟩
  clear hg
  unfold lI at h0
  refine aX aF 1 [] [] ?_
  refine lY (fun T H => ∃ sg : σ, ∃ G : Gs, Has T [] ∧ aN ⟨H0, List.map (fun p : Nat × dS => p.1) G0, G⟩ H [] ∧ I sg G ∧ gY f1 sg = some r) ?_ ?_
  · clear hO hI h0
    rintro T H ⟨sg, G, hT, hO, hI, h0⟩
    refine bR hT ?_
    clear hT
    unfold gY at h0
    refine cJ aF 1 [(4, (eI (-1 : Int)))] ?_
    refine bQ ?_
    obtain rfl := oI h0
    exact aI (nL (x := (eI (-1 : Int))) (by kernel_rfl) (aP.refl _) ⟨rfl, G, hI, hO.HE⟩)
  refine aX aF 3 [] [(7, (eI (lN s0))), (8, (eI (0 : Int)))] ?_
  refine cI 0 ?_
  refine mI [(0, (eL aL s0)), (1, f1_v), (7, (eI (lN s0))), (8, (eI (0 : Int)))] ?_
  refine lK (fun T H => ∃ sg : σ, ∃ t7 : Int, ∃ t8 : Int, ∃ G : Gs, Has T [(0, (eL aL s0)), (1, f1_v), (7, (eI t7)), (8, (eI t8))] ∧ aN ⟨H0, List.map (fun p : Nat × dS => p.1) G0, G⟩ H [] ∧ I sg G ∧ lA f1 sg s0 t7 t8 = some r) ?_ ⟨sg0, (lN s0), (0 : Int), G, bG, hO, hI, h0⟩
  clear hO hI h0
  rintro T H ⟨sg, t7, t8, G, hT, hO, hI, h0⟩
  refine bR hT ?_
  clear hT
  unfold lA at h0
  obtain ⟨rr0, hl0, h0⟩ := aY h0
  refine mV (fun (s : σ × Int) T H => ∃ G : Gs, Has T [(0, (eL aL s0)), (1, f1_v), (7, (eI t7)), (8, (eI s.2))] ∧ aN ⟨H0, List.map (fun p : Nat × dS => p.1) G0, G⟩ H [] ∧ I s.1 G) hl0 ⟨G, bG, hO, hI⟩ ?_
  clear hO hI
  rintro k0 s out1 T H ⟨G, hT, hO, hI⟩ h1 ho0
  obtain ⟨sg, t8⟩ := s
  replace h1 : cK f1 s0 t7 sg t8 = some out1 := h1
  try dsimp only at hT
  refine bR hT ?_
  clear hT
  unfold cK at h1
  refine aX aF 1 [] [(9, (aG (decide (t8 < t7))))] ?_
  refine aO ?_
  refine bV h1 (fun h1 => ?_) (fun h1 => ?_)
  · refine bT ?_
    refine bB [(0, (eL aL s0)), (1, f1_v), (7, (eI t7)), (8, (eI t8))] ?_
    refine aO ?_
    refine cI 1 ?_
    refine aX aF 2 [] [(5, (eI t8))] ?_
    refine aO ?_
    refine aU aF 6 ?_
    obtain ⟨c2, h1⟩ := bC h1
    refine BD 5 [0 ≤ t8 ∧ t8 < (lN s0)] ⟨c2, trivial⟩ ?_
    obtain ⟨x3, hx4, h1⟩ := aY h1
    refine PM (I := I) f1_v [(aL (gD s0 t8))] (aG x3.2) (by kernel_rfl) (by kernel_rfl) (f1_h _ (gD s0 t8) x3.1 x3.2 hx4) hO hI ?_
    intro G H hO hI
    refine fC ?_
    refine cO [] [(16, (aG x3.2))] ?_
    refine bV h1 (fun h1 => ?_) (fun h1 => ?_)
    · refine cJ aF 2 [(4, (eI t8))] ?_
      refine bQ ?_
      obtain rfl := oI h1
      obtain rfl : _ = rr0 := ho0
      replace h0 : some (x3.1, t8) = some r := h0
      obtain rfl := oI h0
      exact aI (bW (aV (aV (bW (aV (nL (x := (eI t8)) (by kernel_rfl) (aP.refl _) ⟨rfl, G, hI, hO.HE⟩))))))
    refine bT ?_
    refine fG [(0, (eL aL s0)), (1, f1_v), (7, (eI t7)), (8, (eI t8))] ?_
    refine aI (bD (aJ (?_)))
    refine aU aF 2 ?_
    refine bE ?_
    exact aI (aJ (⟨rfl, _, (oI h1).symm, _, bG, hO, hI⟩))
  refine lS 0 ?_
  obtain rfl := oI h1
  obtain rfl : _ = rr0 := ho0
  replace h0 : gY f1 sg = some r := h0
  exact aI (aZ (aZ (cC (aJ (⟨rfl, _, _, bG, hO, hI, h0⟩)))))

theorem PW (v0 : aE) (lo1p : Nat) (t1 : Int) (t2 : (List aE)) (r : (Bool × Int)) (h0 : nP v0 t1 t2 = some r) : sA Try.prog 42 lo1p 1 [(eI t1)] [(eI r.2)] [(aL v0), (.lp lo1p 0 0), (.rp (eL aL t2))] (aG r.1) := by
  intro H0 hl0
  refine dP Try.func42 ?_
  have hO := aN.uL hl0
  clear hl0
  unfold nP at h0
  refine aO ?_
  refine aU aF 2 ?_
  refine xP 3 (aL v0) ?_
  refine bE ?_
  refine cO [0] [(3, (.rp (aL v0)))] ?_
  refine aO ?_
  refine aU aF 3 ?_
  refine oO 0 lo1p 1 0 (eI t1) (eI t1) [(eI t1)] hO rfl ?_
  refine bO 2 ?_
  refine pN 0 lo1p 1 0 (eI t1) (eI (wR (t1 + (1 : Int)))) [(eI t1)] [(lo1p, 1, [(eI (wR (t1 + (1 : Int))))])] hO rfl (by kernel_rfl) ?_
  intro H hO
  refine fC ?_
  refine cO [] [] ?_
  refine aO ?_
  refine kB (jS [7, 8, 11]) aF 7 ?_
  refine qE 2 ?_
  refine jT 0 lo1p 1 0 (eI (wR (t1 + (1 : Int)))) (eI (wR (t1 + (1 : Int)))) [(eI (wR (t1 + (1 : Int))))] hO rfl ?_
  obtain ⟨c1, h0⟩ := bC h0
  refine LX (Ds := [0 ≤ (wR (t1 + (1 : Int))) ∧ (wR (t1 + (1 : Int))) < (lN t2)]) (by kernel_rfl) ⟨c1, trivial⟩ ?_
  refine bB [(1, (.lp lo1p 0 0)), (4, (aG (!((decide (v0.Kind = ((gD t2 (wR (t1 + (1 : Int)))).Kind))) && ((decide (v0.Num = ((gD t2 (wR (t1 + (1 : Int)))).Num))) && ((sB v0.Text ((gD t2 (wR (t1 + (1 : Int)))).Text)) && true))))))] ?_
  refine bQ ?_
  obtain rfl := oI h0
  exact aI (nL (x := (aG (!((decide (v0.Kind = ((gD t2 (wR (t1 + (1 : Int)))).Kind))) && ((decide (v0.Num = ((gD t2 (wR (t1 + (1 : Int)))).Num))) && ((sB v0.Text ((gD t2 (wR (t1 + (1 : Int)))).Text)) && true)))))) (by kernel_rfl) (aP.refl _) ⟨rfl, hO.ext, hO.at 0 (by kernel_rfl), rfl⟩)

theorem JI (x0 : Int) (r : Bool) (h0 : pP x0 = some r) : dK Try.prog 64 [(eI x0)] (aG r) := by
  intro H0
  refine dP Try.func64 ?_
  have hO := aN.start H0
  unfold pP at h0
  refine aX aF 1 [] [] ?_
  refine cJ aF 4 [(2, (aG (!decide (x0 = x0))))] ?_
  refine bQ ?_
  obtain rfl := oI h0
  exact aI (Q_r hO)

theorem PN (x0 : Int) (y1 : Int) (r : Int) (h0 : rW x0 y1 = some r) : dK Try.prog 43 [(eI x0), (eI y1)] (eI r) := by
  intro H0
  refine dP Try.func43 ?_
  have hO := aN.start H0
  unfold rW at h0
  refine aX aF 1 [] [] ?_
  refine aO ?_
  refine aU aF 3 ?_
  refine bO 1 ?_
  obtain ⟨x1, hx2, h0⟩ := aY h0
  refine iI (JI x0 _ hx2) hO ?_
  intro H hO
  refine bE ?_
  refine cO [] [(5, (aG x1))] ?_
  refine aO ?_
  refine aU aF 3 ?_
  refine bO 1 ?_
  obtain ⟨x4, hx5, h0⟩ := aY h0
  refine iI (JI y1 _ hx5) hO ?_
  intro H hO
  refine bE ?_
  refine cO [] [(6, (aG x4))] ?_
  refine aO ?_
  refine aX aF 1 [5] [(11, (aG x1))] ?_
  refine bV h0 (fun h0 => ?_) (fun h0 => ?_)
  · refine aO ?_
    refine cJ aF 1 [(12, (aG x4))] ?_
    refine bV h0 (fun h0 => ?_) (fun h0 => ?_)
    · refine cJ aF 1 [(4, (eI (0 : Int)))] ?_
      refine bQ ?_
      obtain rfl := oI h0
      exact aI (aV (aV (Q_r hO)))
    refine bT ?_
    refine bB [] ?_
    refine cJ aF 1 [(4, (eI (-1 : Int)))] ?_
    refine bQ ?_
    obtain rfl := oI h0
    exact aI (aV (Q_r hO))
  refine bT ?_
  refine bB [(0, (eI x0)), (1, (eI y1)), (6, (aG x4))] ?_
  refine aO ?_
  refine aX aF 1 [6] [(13, (aG x4))] ?_
  refine bV h0 (fun h0 => ?_) (fun h0 => ?_)
  · refine cJ aF 1 [(4, (eI (1 : Int)))] ?_
    refine bQ ?_
    obtain rfl := oI h0
    exact aI (aV (Q_r hO))
  refine bT ?_
  refine bB [(0, (eI x0)), (1, (eI y1))] ?_
  refine aO ?_
  refine aX aF 3 [] [(16, (aG (decide (x0 < y1))))] ?_
  refine bV h0 (fun h0 => ?_) (fun h0 => ?_)
  · refine cJ aF 1 [(4, (eI (-1 : Int)))] ?_
    refine bQ ?_
    obtain rfl := oI h0
    exact aI (aV (Q_r hO))
  refine bT ?_
  refine bB [(0, (eI x0)), (1, (eI y1))] ?_
  refine aO ?_
  refine cJ aF 3 [(19, (aG (decide (y1 < x0))))] ?_
  refine bV h0 (fun h0 => ?_) (fun h0 => ?_)
  · refine cJ aF 1 [(4, (eI (1 : Int)))] ?_
    refine bQ ?_
    obtain rfl := oI h0
    exact aI (aV (Q_r hO))
  refine bT ?_
  refine bB [] ?_
  refine cJ aF 1 [(4, (eI (0 : Int)))] ?_
  refine bQ ?_
  obtain rfl := oI h0
  exact aI (Q_r hO)

theorem xV (x0 : Int) (r : Bool) (h0 : oN x0 = some r) : dK Try.prog 74 [(eI x0)] (aG r) := by
  intro H0
  refine dP Try.func74 ?_
  have hO := aN.start H0
  unfold oN at h0
  refine aX aF 1 [] [] ?_
  refine cJ aF 4 [(2, (aG (!decide (x0 = x0))))] ?_
  refine bQ ?_
  obtain rfl := oI h0
  exact aI (Q_r hO)

theorem FK (x0 : Int) (y1 : Int) (r : Int) (h0 : jU x0 y1 = some r) : dK Try.prog 66 [(eI x0), (eI y1)] (eI r) := by
  intro H0
  refine dP Try.func66 ?_
  have hO := aN.start H0
  unfold jU at h0
  refine aX aF 1 [] [] ?_
  refine aO ?_
  refine aU aF 3 ?_
  refine bO 1 ?_
  obtain ⟨x1, hx2, h0⟩ := aY h0
  refine iI (xV x0 _ hx2) hO ?_
  intro H hO
  refine bE ?_
  refine cO [] [(5, (aG x1))] ?_
  refine aO ?_
  refine aU aF 3 ?_
  refine bO 1 ?_
  obtain ⟨x4, hx5, h0⟩ := aY h0
  refine iI (xV y1 _ hx5) hO ?_
  intro H hO
  refine bE ?_
  refine cO [] [(6, (aG x4))] ?_
  refine aO ?_
  refine aX aF 1 [5] [(11, (aG x1))] ?_
  refine bV h0 (fun h0 => ?_) (fun h0 => ?_)
  · refine aO ?_
    refine cJ aF 1 [(12, (aG x4))] ?_
    refine bV h0 (fun h0 => ?_) (fun h0 => ?_)
    · refine cJ aF 1 [(4, (eI (0 : Int)))] ?_
      refine bQ ?_
      obtain rfl := oI h0
      exact aI (aV (aV (Q_r hO)))
    refine bT ?_
    refine bB [] ?_
    refine cJ aF 1 [(4, (eI (-1 : Int)))] ?_
    refine bQ ?_
    obtain rfl := oI h0
    exact aI (aV (Q_r hO))
  refine bT ?_
  refine bB [(0, (eI x0)), (1, (eI y1)), (6, (aG x4))] ?_
  refine aO ?_
  refine aX aF 1 [6] [(13, (aG x4))] ?_
  refine bV h0 (fun h0 => ?_) (fun h0 => ?_)
  · refine cJ aF 1 [(4, (eI (1 : Int)))] ?_
    refine bQ ?_
    obtain rfl := oI h0
    exact aI (aV (Q_r hO))
  refine bT ?_
  refine bB [(0, (eI x0)), (1, (eI y1))] ?_
  refine aO ?_
  refine aX aF 3 [] [(16, (aG (decide (x0 < y1))))] ?_
  refine bV h0 (fun h0 => ?_) (fun h0 => ?_)
  · refine cJ aF 1 [(4, (eI (-1 : Int)))] ?_
    refine bQ ?_
    obtain rfl := oI h0
    exact aI (aV (Q_r hO))
  refine bT ?_
  refine bB [(0, (eI x0)), (1, (eI y1))] ?_
  refine aO ?_
  refine cJ aF 3 [(19, (aG (decide (y1 < x0))))] ?_
  refine bV h0 (fun h0 => ?_) (fun h0 => ?_)
  · refine cJ aF 1 [(4, (eI (1 : Int)))] ?_
    refine bQ ?_
    obtain rfl := oI h0
    exact aI (aV (Q_r hO))
  refine bT ?_
  refine bB [] ?_
  refine cJ aF 1 [(4, (eI (0 : Int)))] ?_
  refine bQ ?_
  obtain rfl := oI h0
  exact aI (Q_r hO)

theorem BA (a0 : ByteArray) (b1 : ByteArray) (r : Int) (h0 : nD a0 b1 = some r) : dK Try.prog 75 [(qF a0), (qF b1)] (eI r) := by
  intro H0
  refine dP Try.func75 ?_
  have hO := aN.start H0
  unfold nD at h0
  refine aX aF 1 [] [] ?_
  refine aO ?_
  refine aU aF 4 ?_
  refine bO 2 ?_
  refine aFW 77 [(qF a0), (qF b1)] (eI (VB a0 b1)) (by kernel_rfl) (by kernel_rfl) (aER Try.func77 (by kernel_rfl) (by kernel_rfl) (by kernel_rfl) (by kernel_rfl) a0 b1) hO ?_
  intro H hO
  refine bE ?_
  refine bB [(4, (eI (VB a0 b1)))] ?_
  refine bQ ?_
  obtain rfl := oI h0
  exact aI (Q_r hO)

theorem PV (a0 : ByteArray) (b1 : ByteArray) (r : Int) (h0 : qO a0 b1 = some r) : dK Try.prog 67 [(qF a0), (qF b1)] (eI r) := by
  intro H0
  refine dP Try.func67 ?_
  have hO := aN.start H0
  unfold qO at h0
  refine aX aF 1 [] [] ?_
  refine aO ?_
  refine aU aF 4 ?_
  refine bO 2 ?_
  obtain ⟨x1, hx2, h0⟩ := aY h0
  refine iI (BA a0 b1 _ hx2) hO ?_
  intro H hO
  refine bE ?_
  refine bB [(4, (eI x1))] ?_
  refine bQ ?_
  obtain rfl := oI h0
  exact aI (Q_r hO)

theorem TM (a0 : aE) (b1 : aE) (r : Int) (h0 : tN a0 b1 = some r) : dK Try.prog 44 [(aL a0), (aL b1)] (eI r) := by
  intro H0
  refine dP Try.func44 ?_
  have hO := aN.start H0
  unfold tN at h0
  refine aO ?_
  refine aU aF 3 ?_
  refine xP 3 (aL a0) ?_
  refine xP 3 (aL b1) ?_
  refine bE ?_
  refine bB [(2, (.rp (aL a0))), (3, (.rp (aL b1)))] ?_
  refine aO ?_
  refine aU aF 7 ?_
  refine bO 1 ?_
  obtain ⟨⟨x1_0, x1_1⟩, hx2, h0⟩ := aY h0
  refine iI (yE a0 _ hx2) hO ?_
  intro H hO
  rcases x1_0 with _ | y4 | y5
  · replace h0 : ((oX b1).bind fun (x6_0, x6_1) => match x6_0 with | .none_ => (cond ((!x1_1) || (!x6_1)) (some (0 : Int)) (none)) | .k_number y9 => (cond ((!x1_1) || (!x6_1)) (some (0 : Int)) (some (1 : Int))) | .k_words y10 => (cond ((!x1_1) || (!x6_1)) (some (0 : Int)) (none))) = some r := h0
    refine bE ?_
    refine cO [2] [(5, (bF bI.none_)), (6, (aG x1_1))] ?_
    refine aO ?_
    refine aU aF 7 ?_
    refine bO 1 ?_
    obtain ⟨⟨x6_0, x6_1⟩, hx7, h0⟩ := aY h0
    refine iI (yE b1 _ hx7) hO ?_
    intro H hO
    rcases x6_0 with _ | y9 | y10
    · replace h0 : (cond ((!x1_1) || (!x6_1)) (some (0 : Int)) (none)) = some r := h0
      refine bE ?_
      refine cO [3] [(7, (bF bI.none_)), (8, (aG x6_1))] ?_
      refine aO ?_
      refine aX aF 6 [6, 8] [(28, (aG ((!x1_1) || (!x6_1))))] ?_
      refine bV h0 (fun h0 => ?_) (fun h0 => ?_)
      · refine cJ aF 1 [(4, (eI (0 : Int)))] ?_
        refine bQ ?_
        obtain rfl := oI h0
        exact aI (aV (Q_r hO))
      refine bT ?_
      refine bB [(5, (bF bI.none_)), (7, (bF bI.none_))] ?_
      refine aX aF 7 [] [(9, (eI 0)), (10, (aG false))] ?_
      refine aX aF 7 [] [(11, (eI 0)), (12, (aG false))] ?_
      refine aO ?_
      refine cI 0 ?_
      refine aX aF 5 [] [(39, (aG false))] ?_
      refine oB (false) (fun hc12 => ?_) (fun hc12 => ?_)
      · cases hc12
      · refine aX aF 2 [9, 10, 11, 39] [(47, (aG false))] ?_
        refine oB (false) (fun hc13 => ?_) (fun hc13 => ?_)
        · cases hc13
        · refine cJ aF 2 [(5, (bF bI.none_)), (7, (bF bI.none_)), (49, (aG false))] ?_
          refine oB (false) (fun hc14 => ?_) (fun hc14 => ?_)
          · cases hc14
          · refine bT ?_
            refine fG [(5, (bF bI.none_)), (7, (bF bI.none_))] ?_
            refine aI (bD (aJ (?_)))
            refine aO ?_
            refine kB (jS []) aF 6 ?_
            cases h0
    · replace h0 : (cond ((!x1_1) || (!x6_1)) (some (0 : Int)) (some (1 : Int))) = some r := h0
      refine bE ?_
      refine cO [3] [(7, (bF (bI.k_number y9))), (8, (aG x6_1))] ?_
      refine aO ?_
      refine aX aF 6 [6, 8] [(28, (aG ((!x1_1) || (!x6_1))))] ?_
      refine bV h0 (fun h0 => ?_) (fun h0 => ?_)
      · refine cJ aF 1 [(4, (eI (0 : Int)))] ?_
        refine bQ ?_
        obtain rfl := oI h0
        exact aI (aV (Q_r hO))
      refine bT ?_
      refine bB [(5, (bF bI.none_)), (7, (bF (bI.k_number y9)))] ?_
      refine aX aF 7 [] [(9, (eI 0)), (10, (aG false))] ?_
      refine aX aF 7 [] [(11, (eI y9)), (12, (aG true))] ?_
      refine aO ?_
      refine cI 0 ?_
      refine aX aF 5 [] [(39, (aG false))] ?_
      refine oB (false) (fun hc16 => ?_) (fun hc16 => ?_)
      · cases hc16
      · refine aX aF 2 [9, 10, 11, 39] [(47, (aG false))] ?_
        refine oB (false) (fun hc17 => ?_) (fun hc17 => ?_)
        · cases hc17
        · refine cJ aF 2 [(5, (bF bI.none_)), (7, (bF (bI.k_number y9))), (49, (aG true))] ?_
          refine oB (true) (fun hc18 => ?_) (fun hc18 => ?_)
          · refine cJ aF 1 [(4, (eI (1 : Int)))] ?_
            refine bQ ?_
            obtain rfl := oI h0
            exact aI (bW (aV (Q_r hO)))
          · cases hc18
    · replace h0 : (cond ((!x1_1) || (!x6_1)) (some (0 : Int)) (none)) = some r := h0
      refine bE ?_
      refine cO [3] [(7, (bF (bI.k_words y10))), (8, (aG x6_1))] ?_
      refine aO ?_
      refine aX aF 6 [6, 8] [(28, (aG ((!x1_1) || (!x6_1))))] ?_
      refine bV h0 (fun h0 => ?_) (fun h0 => ?_)
      · refine cJ aF 1 [(4, (eI (0 : Int)))] ?_
        refine bQ ?_
        obtain rfl := oI h0
        exact aI (aV (Q_r hO))
      refine bT ?_
      refine bB [(5, (bF bI.none_)), (7, (bF (bI.k_words y10)))] ?_
      refine aX aF 7 [] [(9, (eI 0)), (10, (aG false))] ?_
      refine aX aF 7 [] [(11, (eI 0)), (12, (aG false))] ?_
      refine aO ?_
      refine cI 0 ?_
      refine aX aF 5 [] [(39, (aG false))] ?_
      refine oB (false) (fun hc20 => ?_) (fun hc20 => ?_)
      · cases hc20
      · refine aX aF 2 [9, 10, 11, 39] [(47, (aG false))] ?_
        refine oB (false) (fun hc21 => ?_) (fun hc21 => ?_)
        · cases hc21
        · refine cJ aF 2 [(5, (bF bI.none_)), (7, (bF (bI.k_words y10))), (49, (aG false))] ?_
          refine oB (false) (fun hc22 => ?_) (fun hc22 => ?_)
          · cases hc22
          · refine bT ?_
            refine fG [(5, (bF bI.none_)), (7, (bF (bI.k_words y10)))] ?_
            refine aI (bD (aJ (?_)))
            refine aO ?_
            refine kB (jS []) aF 6 ?_
            cases h0
  · replace h0 : ((oX b1).bind fun (x23_0, x23_1) => match x23_0 with | .none_ => (cond ((!x1_1) || (!x23_1)) (some (0 : Int)) (some (-1 : Int))) | .k_number y26 => (cond ((!x1_1) || (!x23_1)) (some (0 : Int)) ((jU y4 y26).bind fun x33 => some x33)) | .k_words y27 => (cond ((!x1_1) || (!x23_1)) (some (0 : Int)) (some (-1 : Int)))) = some r := h0
    refine bE ?_
    refine cO [2] [(5, (bF (bI.k_number y4))), (6, (aG x1_1))] ?_
    refine aO ?_
    refine aU aF 7 ?_
    refine bO 1 ?_
    obtain ⟨⟨x23_0, x23_1⟩, hx24, h0⟩ := aY h0
    refine iI (yE b1 _ hx24) hO ?_
    intro H hO
    rcases x23_0 with _ | y26 | y27
    · replace h0 : (cond ((!x1_1) || (!x23_1)) (some (0 : Int)) (some (-1 : Int))) = some r := h0
      refine bE ?_
      refine cO [3] [(7, (bF bI.none_)), (8, (aG x23_1))] ?_
      refine aO ?_
      refine aX aF 6 [6, 8] [(28, (aG ((!x1_1) || (!x23_1))))] ?_
      refine bV h0 (fun h0 => ?_) (fun h0 => ?_)
      · refine cJ aF 1 [(4, (eI (0 : Int)))] ?_
        refine bQ ?_
        obtain rfl := oI h0
        exact aI (aV (Q_r hO))
      refine bT ?_
      refine bB [(5, (bF (bI.k_number y4))), (7, (bF bI.none_))] ?_
      refine aX aF 7 [] [(9, (eI y4)), (10, (aG true))] ?_
      refine aX aF 7 [] [(11, (eI 0)), (12, (aG false))] ?_
      refine aO ?_
      refine cI 0 ?_
      refine aX aF 5 [] [(39, (aG false))] ?_
      refine oB (false) (fun hc29 => ?_) (fun hc29 => ?_)
      · cases hc29
      · refine aX aF 2 [9, 10, 11, 39] [(47, (aG true))] ?_
        refine oB (true) (fun hc30 => ?_) (fun hc30 => ?_)
        · refine cJ aF 1 [(4, (eI (-1 : Int)))] ?_
          refine bQ ?_
          obtain rfl := oI h0
          exact aI (bW (aV (Q_r hO)))
        · cases hc30
    · replace h0 : (cond ((!x1_1) || (!x23_1)) (some (0 : Int)) ((jU y4 y26).bind fun x33 => some x33)) = some r := h0
      refine bE ?_
      refine cO [3] [(7, (bF (bI.k_number y26))), (8, (aG x23_1))] ?_
      refine aO ?_
      refine aX aF 6 [6, 8] [(28, (aG ((!x1_1) || (!x23_1))))] ?_
      refine bV h0 (fun h0 => ?_) (fun h0 => ?_)
      · refine cJ aF 1 [(4, (eI (0 : Int)))] ?_
        refine bQ ?_
        obtain rfl := oI h0
        exact aI (aV (Q_r hO))
      refine bT ?_
      refine bB [(5, (bF (bI.k_number y4))), (7, (bF (bI.k_number y26)))] ?_
      refine aX aF 7 [] [(9, (eI y4)), (10, (aG true))] ?_
      refine aX aF 7 [] [(11, (eI y26)), (12, (aG true))] ?_
      refine aO ?_
      refine cI 0 ?_
      refine aX aF 5 [] [(39, (aG true))] ?_
      refine oB (true) (fun hc32 => ?_) (fun hc32 => ?_)
      · refine aO ?_
        refine aU aF 4 ?_
        refine bO 2 ?_
        obtain ⟨x33, hx34, h0⟩ := aY h0
        refine iI (FK y4 y26 _ hx34) hO ?_
        intro H hO
        refine bE ?_
        refine bB [(4, (eI x33))] ?_
        refine bQ ?_
        obtain rfl := oI h0
        exact aI (bW (aV (Q_r hO)))
      · cases hc32
    · replace h0 : (cond ((!x1_1) || (!x23_1)) (some (0 : Int)) (some (-1 : Int))) = some r := h0
      refine bE ?_
      refine cO [3] [(7, (bF (bI.k_words y27))), (8, (aG x23_1))] ?_
      refine aO ?_
      refine aX aF 6 [6, 8] [(28, (aG ((!x1_1) || (!x23_1))))] ?_
      refine bV h0 (fun h0 => ?_) (fun h0 => ?_)
      · refine cJ aF 1 [(4, (eI (0 : Int)))] ?_
        refine bQ ?_
        obtain rfl := oI h0
        exact aI (aV (Q_r hO))
      refine bT ?_
      refine bB [(5, (bF (bI.k_number y4))), (7, (bF (bI.k_words y27)))] ?_
      refine aX aF 7 [] [(9, (eI y4)), (10, (aG true))] ?_
      refine aX aF 7 [] [(11, (eI 0)), (12, (aG false))] ?_
      refine aO ?_
      refine cI 0 ?_
      refine aX aF 5 [] [(39, (aG false))] ?_
      refine oB (false) (fun hc37 => ?_) (fun hc37 => ?_)
      · cases hc37
      · refine aX aF 2 [9, 10, 11, 39] [(47, (aG true))] ?_
        refine oB (true) (fun hc38 => ?_) (fun hc38 => ?_)
        · refine cJ aF 1 [(4, (eI (-1 : Int)))] ?_
          refine bQ ?_
          obtain rfl := oI h0
          exact aI (bW (aV (Q_r hO)))
        · cases hc38
  · replace h0 : ((oX b1).bind fun (x39_0, x39_1) => match x39_0 with | .none_ => (cond ((!x1_1) || (!x39_1)) (some (0 : Int)) (none)) | .k_number y42 => (cond ((!x1_1) || (!x39_1)) (some (0 : Int)) (some (1 : Int))) | .k_words y43 => (cond ((!x1_1) || (!x39_1)) (some (0 : Int)) ((qO y5 y43).bind fun x56 => some x56))) = some r := h0
    refine bE ?_
    refine cO [2] [(5, (bF (bI.k_words y5))), (6, (aG x1_1))] ?_
    refine aO ?_
    refine aU aF 7 ?_
    refine bO 1 ?_
    obtain ⟨⟨x39_0, x39_1⟩, hx40, h0⟩ := aY h0
    refine iI (yE b1 _ hx40) hO ?_
    intro H hO
    rcases x39_0 with _ | y42 | y43
    · replace h0 : (cond ((!x1_1) || (!x39_1)) (some (0 : Int)) (none)) = some r := h0
      refine bE ?_
      refine cO [3] [(7, (bF bI.none_)), (8, (aG x39_1))] ?_
      refine aO ?_
      refine aX aF 6 [6, 8] [(28, (aG ((!x1_1) || (!x39_1))))] ?_
      refine bV h0 (fun h0 => ?_) (fun h0 => ?_)
      · refine cJ aF 1 [(4, (eI (0 : Int)))] ?_
        refine bQ ?_
        obtain rfl := oI h0
        exact aI (aV (Q_r hO))
      refine bT ?_
      refine bB [(5, (bF (bI.k_words y5))), (7, (bF bI.none_))] ?_
      refine aX aF 7 [] [(9, (eI 0)), (10, (aG false))] ?_
      refine aX aF 7 [] [(11, (eI 0)), (12, (aG false))] ?_
      refine aO ?_
      refine cI 0 ?_
      refine aX aF 5 [] [(39, (aG false))] ?_
      refine oB (false) (fun hc45 => ?_) (fun hc45 => ?_)
      · cases hc45
      · refine aX aF 2 [9, 10, 11, 39] [(47, (aG false))] ?_
        refine oB (false) (fun hc46 => ?_) (fun hc46 => ?_)
        · cases hc46
        · refine cJ aF 2 [(5, (bF (bI.k_words y5))), (7, (bF bI.none_)), (49, (aG false))] ?_
          refine oB (false) (fun hc47 => ?_) (fun hc47 => ?_)
          · cases hc47
          · refine bT ?_
            refine fG [(5, (bF (bI.k_words y5))), (7, (bF bI.none_))] ?_
            refine aI (bD (aJ (?_)))
            refine aO ?_
            refine kB (jS []) aF 6 ?_
            cases h0
    · replace h0 : (cond ((!x1_1) || (!x39_1)) (some (0 : Int)) (some (1 : Int))) = some r := h0
      refine bE ?_
      refine cO [3] [(7, (bF (bI.k_number y42))), (8, (aG x39_1))] ?_
      refine aO ?_
      refine aX aF 6 [6, 8] [(28, (aG ((!x1_1) || (!x39_1))))] ?_
      refine bV h0 (fun h0 => ?_) (fun h0 => ?_)
      · refine cJ aF 1 [(4, (eI (0 : Int)))] ?_
        refine bQ ?_
        obtain rfl := oI h0
        exact aI (aV (Q_r hO))
      refine bT ?_
      refine bB [(5, (bF (bI.k_words y5))), (7, (bF (bI.k_number y42)))] ?_
      refine aX aF 7 [] [(9, (eI 0)), (10, (aG false))] ?_
      refine aX aF 7 [] [(11, (eI y42)), (12, (aG true))] ?_
      refine aO ?_
      refine cI 0 ?_
      refine aX aF 5 [] [(39, (aG false))] ?_
      refine oB (false) (fun hc49 => ?_) (fun hc49 => ?_)
      · cases hc49
      · refine aX aF 2 [9, 10, 11, 39] [(47, (aG false))] ?_
        refine oB (false) (fun hc50 => ?_) (fun hc50 => ?_)
        · cases hc50
        · refine cJ aF 2 [(5, (bF (bI.k_words y5))), (7, (bF (bI.k_number y42))), (49, (aG true))] ?_
          refine oB (true) (fun hc51 => ?_) (fun hc51 => ?_)
          · refine cJ aF 1 [(4, (eI (1 : Int)))] ?_
            refine bQ ?_
            obtain rfl := oI h0
            exact aI (bW (aV (Q_r hO)))
          · cases hc51
    · replace h0 : (cond ((!x1_1) || (!x39_1)) (some (0 : Int)) ((qO y5 y43).bind fun x56 => some x56)) = some r := h0
      refine bE ?_
      refine cO [3] [(7, (bF (bI.k_words y43))), (8, (aG x39_1))] ?_
      refine aO ?_
      refine aX aF 6 [6, 8] [(28, (aG ((!x1_1) || (!x39_1))))] ?_
      refine bV h0 (fun h0 => ?_) (fun h0 => ?_)
      · refine cJ aF 1 [(4, (eI (0 : Int)))] ?_
        refine bQ ?_
        obtain rfl := oI h0
        exact aI (aV (Q_r hO))
      refine bT ?_
      refine bB [(5, (bF (bI.k_words y5))), (7, (bF (bI.k_words y43)))] ?_
      refine aX aF 7 [] [(9, (eI 0)), (10, (aG false))] ?_
      refine aX aF 7 [] [(11, (eI 0)), (12, (aG false))] ?_
      refine aO ?_
      refine cI 0 ?_
      refine aX aF 5 [] [(39, (aG false))] ?_
      refine oB (false) (fun hc53 => ?_) (fun hc53 => ?_)
      · cases hc53
      · refine aX aF 2 [9, 10, 11, 39] [(47, (aG false))] ?_
        refine oB (false) (fun hc54 => ?_) (fun hc54 => ?_)
        · cases hc54
        · refine cJ aF 2 [(5, (bF (bI.k_words y5))), (7, (bF (bI.k_words y43))), (49, (aG false))] ?_
          refine oB (false) (fun hc55 => ?_) (fun hc55 => ?_)
          · cases hc55
          · refine bT ?_
            refine fG [(5, (bF (bI.k_words y5))), (7, (bF (bI.k_words y43)))] ?_
            refine aI (bD (aJ (?_)))
            refine aO ?_
            refine kB (jS []) aF 6 ?_
            refine qE 4 ?_
            obtain ⟨x56, hx57, h0⟩ := aY h0
            refine MX (PV y5 y43 _ hx57) hO ?_
            intro H hO
            refine oK ?_
            refine bB [(4, (eI x56))] ?_
            refine bQ ?_
            obtain rfl := oI h0
            exact aI (Q_r hO)

theorem MT (a0 : (List aE)) (b1 : (List aE)) (r : Int) (h0 : tB a0 b1 = some r) : dK Try.prog 25 [(eL aL a0), (eL aL b1)] (eI r) := by
  intro H0
  refine dP Try.func25 ?_
  have hO := aN.start H0
  unfold tB at h0
  refine aO ?_
  refine aU aF 2 ?_
  refine xP 1 (eL aL b1) ?_
  refine bE ?_
  refine cO [1] [(3, (.rp (eL aL b1)))] ?_
  refine aO ?_
  refine aO ?_
  refine aU aF 8 ?_
  refine bO 1 ?_
  obtain ⟨x1, hx2, h0⟩ := aY h0
  refine iI (EG a0 _ hx2) hO ?_
  intro H hO
  refine bO 5 ?_
  obtain ⟨x4, hx5, h0⟩ := aY h0
  refine uQ [(10, false)] 39 [(eL aL b1)] (aG x4) (!(!x1)) (by kernel_rfl) (by kernel_rfl) (by kernel_rfl) (fun hb6 => (EG b1 _ (pS hx5 hb6))) hO ?_
  intro H hO
  refine bE ?_
  refine cO [] [(14, (aG ((!x1) || (!x4))))] ?_
  refine bV h0 (fun h0 => ?_) (fun h0 => ?_)
  · refine cJ aF 1 [(4, (eI (0 : Int)))] ?_
    refine bQ ?_
    obtain rfl := oI h0
    exact aI (aV (Q_r hO))
  refine bT ?_
  refine bB [(0, (eL aL a0)), (3, (.rp (eL aL b1)))] ?_
  refine aX aF 6 [] [(5, (eI (if (lN b1) < (lN a0) then (lN b1) else (lN a0))))] ?_
  refine aO ?_
  refine kB (jS []) aF 7 ?_
  obtain ⟨c8, h0⟩ := bC h0
  refine cQ 4 [0 ≤ (if (lN b1) < (lN a0) then (lN b1) else (lN a0)) ∧ (if (lN b1) < (lN a0) then (lN b1) else (lN a0)) ≤ (lN a0)] ⟨c8, trivial⟩ ?_
  obtain ⟨x9, hx10, h0⟩ := aY h0
  refine aFN (L' := fun lo11 => [(lo11, 1, [(eI x9.1)])]) 1 [(eI x9.1)] 41 [(.rp (eL aL b1))] (fun lo11 => (.fn (.func 42) [] [(.lp lo11 0 0), (.rp (eL aL x9.2))])) (by kernel_rfl) (by kernel_rfl) (SP b1 _ hx10) hO (fun _ => by kernel_rfl) ?_
  intro lo11 H hO
  obtain ⟨x12, hx13, h0⟩ := aY h0
  refine aGf (fun st G' => G' = up [(lo11, 1, [(eI st)])] ++ []) [(lo11, 1, [(eI x12.1)])] x9.1 x12.1 40 [(.sl false (Int.toNat (if (lN b1) < (lN a0) then (lN b1) else (lN a0))) (fun i => aL (List.getD a0 i default))), (.fn (.func 42) [] [(.lp lo11 0 0), (.rp (eL aL x9.2))])] (eI x12.2) (by kernel_rfl) (by kernel_rfl) (vC.sub (as0' := [(eL aL (List.take (Int.toNat (if (lN b1) < (lN a0) then (lN b1) else (lN a0))) a0)), (.fn (.func 42) [] [(.lp lo11 0 0), (.rp (eL aL x9.2))])]) (wL _ (List.take (Int.toNat (if (lN b1) < (lN a0) then (lN b1) else (lN a0))) a0) (.fn (.func 42) [] [(.lp lo11 0 0), (.rp (eL aL x9.2))]) (fun st y0 => (nP y0 st x9.2).bind fun o => some (o.2, o.1)) (fun st y0 st2 rr hr => (PW y0 lo11 st x9.2 _ (aHo hr)).toV (ys := []) (zs := [(aL y0)]) (cs := [(.lp lo11 0 0), (.rp (eL aL x9.2))]) (fun Gx hG => ⟨up [], up [] ++ [], hG, rfl⟩)) _ _ hx13) ⟨aFT (Int.toNat_le.2 (And.right c8)), aP.refl _, trivial⟩) hO rfl (fun _ h => h) ?_
  intro H hO
  refine oK ?_
  replace hO := hO.pick (L' := []) [] (by decide) (by kernel_rfl)
  refine cO [5] [(6, (eI x12.2))] ?_
  refine aO ?_
  refine aX aF 2 [] [(27, (aG (decide (x12.2 < (0 : Int)))))] ?_
  refine bV h0 (fun h0 => ?_) (fun h0 => ?_)
  · refine aO ?_
    refine aU aF 6 ?_
    refine bO 4 ?_
    obtain ⟨x15, hx16, h0⟩ := aY h0
    refine iI (PN (lN a0) (lN b1) _ hx16) hO ?_
    intro H hO
    refine bE ?_
    refine bB [(4, (eI x15))] ?_
    refine bQ ?_
    obtain rfl := oI h0
    exact aI (aV (Q_r hO))
  refine bT ?_
  refine bB [(0, (eL aL a0)), (3, (.rp (eL aL b1))), (6, (eI x12.2))] ?_
  refine aO ?_
  refine kB (jS [36, 37, 40, 41]) aF 10 ?_
  obtain ⟨c18, h0⟩ := bC h0
  obtain ⟨c19, h0⟩ := bC h0
  refine cQ 8 [0 ≤ x12.2 ∧ x12.2 < (lN a0), 0 ≤ x12.2 ∧ x12.2 < (lN b1)] ⟨c18, c19, trivial⟩ ?_
  obtain ⟨x20, hx21, h0⟩ := aY h0
  refine MX (TM (gD a0 x12.2) (gD b1 x12.2) _ hx21) hO ?_
  intro H hO
  refine oK ?_
  refine bB [(4, (eI x20))] ?_
  refine bQ ?_
  obtain rfl := oI h0
  exact aI (Q_r hO)

theorem aBq (l0 : (List aM)) (holds1_f : Nat) (holds1_a holds1_c : List V) (xG : (List aD) → Option Bool) (holds1_h : ∀ a0 r, xG a0 = some r → dK Try.prog holds1_f (holds1_a ++ [(eL aK a0)] ++ holds1_c) (aG r)) (r : Bool) (h0 : AA l0 xG = some r) : dK Try.prog 27 [(eL aR l0), (.fn (.func holds1_f) holds1_a holds1_c)] (aG r) := by
  intro H0
  refine UK aF Try.func27 (by kernel_rfl) (by kernel_rfl) (by kernel_rfl) ?_
  have hO := aN.start H0
  unfold AA at h0
  refine aO ?_
  refine aU aF 2 ?_
  refine xP 1 (.fn (.func holds1_f) holds1_a holds1_c) ?_
  refine qY 1 (aG false) (by kernel_rfl) (by kernel_rfl) hO ?_
  intro lo1 H hO
  refine fC ?_
  refine cO [1] [(3, (.rp (.fn (.func holds1_f) holds1_a holds1_c))), (4, (.lp lo1 0 0))] ?_
  refine aO ?_
  refine aX aF 3 [] [(11, (aG (decide ((4096 : Int) < (lN l0)))))] ?_
  refine bV h0 (fun h0 => ?_) (fun h0 => ?_)
  · refine aO ?_
    refine aU aF 1 ?_
    refine pN 0 lo1 1 0 (aG false) (aG false) [(aG false)] [(lo1, 1, [(aG false)])] hO rfl (by kernel_rfl) ?_
    intro H hO
    refine fC ?_
    refine bB [(4, (.lp lo1 0 0))] ?_
    refine bQ ?_
    obtain rfl := oI h0
    exact aI (aV (QM0 (.inr rfl) (rs := [.cell 4 4]) (xs := [(aG false)]) (x := (aG false)) (by kernel_rfl) (xY (lo := lo1) (k := 1) (y := (aG false)) (x := (aG false)) 0 hO (by kernel_rfl) (by kernel_rfl) (by kernel_rfl) (by kernel_rfl) vP) (by kernel_rfl) ⟨rfl, hO.out⟩))
  refine bT ?_
  refine bB [(0, (eL aR l0)), (3, (.rp (.fn (.func holds1_f) holds1_a holds1_c))), (4, (.lp lo1 0 0))] ?_
  refine aO ?_
  refine aU aF 1 ?_
  refine xE 1 (.sl true 0 (fun _ => .bad)) (eL aL ([])) (by kernel_rfl) (by kernel_rfl) (by kernel_rfl) (lU) (by kernel_rfl) (by kernel_rfl) hO ?_
  intro lo3 H hO
  refine fC ?_
  refine cO [] [(5, (.lp lo3 0 0))] ?_
  refine aO ?_
  refine aU aF 2 ?_
  refine qY 1 (aG false) (by kernel_rfl) (by kernel_rfl) hO ?_
  intro lo4 H hO
  refine pN 2 lo4 1 0 (aG false) (aG false) [(aG false)] [(lo1, 1, [(aG false)]), (lo3, 1, [(eL aL ([]))]), (lo4, 1, [(aG false)])] hO rfl (by kernel_rfl) ?_
  intro H hO
  refine fC ?_
  refine cO [] [(6, (.lp lo4 0 0))] ?_
  refine aO ?_
  refine aO ?_
  refine aU aF 2 ?_
  refine bO 1 ?_
  obtain ⟨x5, hx6, h0⟩ := aY h0
  refine iI (QE l0 _ hx6) hO ?_
  intro H hO
  refine fC ?_
  refine cO [0] [(13, (.fn (.func 47) [] [(.rp (eL aR x5))]))] ?_
  refine cI 0 ?_
  refine mI [(3, (.rp (.fn (.func holds1_f) holds1_a holds1_c))), (4, (.lp lo1 0 0)), (5, (.lp lo3 0 0)), (6, (.lp lo4 0 0)), (13, (.fn (.func 47) [] [(.rp (eL aR x5))]))] ?_
  refine lK (fun T H => ∃ t4 : Bool, ∃ sC : (List aE), ∃ nZ : Bool, ∃ yN : (List aM), Has T [(3, (.rp (.fn (.func holds1_f) holds1_a holds1_c))), (4, (.lp lo1 0 0)), (5, (.lp lo3 0 0)), (6, (.lp lo4 0 0)), (13, (.fn (.func 47) [] [(.rp (eL aR yN))]))] ∧ aN ⟨H0, [], []⟩ H [(lo1, 1, [(aG t4)]), (lo3, 1, [(eL aL sC)]), (lo4, 1, [(aG nZ)])] ∧ CB xG t4 sC nZ yN = some r) ?_ ⟨false, [], false, x5, bG, hO, h0⟩
  clear hO h0
  rintro T H ⟨t4, sC, nZ, yN, hT, hO, h0⟩
  refine bR (l := [(3, (.rp (.fn (.func holds1_f) holds1_a holds1_c))), (4, (.lp lo1 0 0)), (5, (.lp lo3 0 0)), (6, (.lp lo4 0 0)), (13, (.fn (.func 47) [] [(.rp (eL aR yN))]))]) hT ?_
  clear hT
  unfold CB at h0
  obtain ⟨o0, hl0, h0⟩ := aY h0
  refine QY (fid := 47) (ys := []) (cs := [(.rp (eL aR yN))]) #[14, 15] (fun (A : IU) (b lL : Nat) (st : (Bool × (List aE) × Bool) ⊕ (Bool × (List aE) × Bool)) (G' : Gs) => Sum.elim (fun (s : Bool × (List aE) × Bool) => G' = (lL, .raw (pX b A .ready none)) :: (up [(lo1, 1, [(aG s.1)]), (lo3, 1, [(eL aL s.2.1)]), (lo4, 1, [(aG s.2.2)])] ++ [])) (fun (s : Bool × (List aE) × Bool) => G' = (lL, .raw (pX b A .done (some .ret))) :: (up [(lo1, 1, [(aG s.1)]), (lo3, 1, [(eL aL s.2.1)]), (lo4, 1, [(aG s.2.2)])] ++ [])) st) (.inl (t4, sC, nZ)) o0 (.tup []) (by kernel_rfl) (by kernel_rfl) (by kernel_rfl) hO (fun _ _ => rfl) ?_ ?_
  · intro b lL
    clear hO h0
    refine JO _ b (fun st t14 t15 => rnd (fun (s : Bool × (List aE) × Bool) => sP xG yN s.1 s.2.1 s.2.2 t14 t15) st) ?_ yN _ _ hl0
    intro st t14 t15 out1 rr hr
    obtain ⟨s, rfl, h1, rfl⟩ := aEL hr
    clear hr
    intro Hr Gr hi hg
    obtain ⟨t4, sC, nZ⟩ := s
    dsimp only [Sum.elim_inl] at hi
    obtain rfl := hi
    replace h1 : sP xG yN t4 sC nZ t14 t15 = some out1 := h1
    unfold sP at h1
    obtain ⟨E1, hE, hO⟩ := JX hg
    refine KI (RJ (hO.gm 0 _ rfl).2 (by kernel_rfl) (by kernel_rfl) ?_)
    refine mI [(3, (.rp (.fn (.func holds1_f) holds1_a holds1_c))), (4, (.lp lo1 0 0)), (5, (.lp lo3 0 0)), (6, (.lp lo4 0 0)), (13, (.fn (.func 47) [] [(.rp (eL aR yN))])), (14, (eL aL t14)), (15, (eL aK t15))] ?_
    refine aX aF 1 [13, 14] [(7, (eL aL t14))] ?_
    refine aU aF 1 ?_
    refine bE ?_
    refine fG [(3, (.rp (.fn (.func holds1_f) holds1_a holds1_c))), (4, (.lp lo1 0 0)), (5, (.lp lo3 0 0)), (6, (.lp lo4 0 0)), (7, (eL aL t14)), (8, (eL aK t15))] ?_
    refine aI (⟨rfl, rfl, (hO.gm 0 _ rfl).2, ?_⟩)
    intro o1 ho1
    replace hO := hO.vH o1
    refine cI 1 ?_
    refine aO ?_
    refine aO ?_
    refine aU aF 18 ?_
    refine bO 1 ?_
    obtain ⟨x7, hx8, h1⟩ := aY h1
    refine iI (EG t14 _ hx8) hO ?_
    intro H hO
    refine bO 4 ?_
    refine GC [(19, false)] 2 lo4 1 0 (aG nZ) (aG nZ) [(aG nZ)] (by kernel_rfl) (by kernel_rfl) hO (by kernel_rfl) (!(!x7)) (by kernel_rfl) (fun hb10 => rfl) ?_
    refine bO 6 ?_
    refine GC [(21, true), (19, false)] 1 lo3 1 0 (eL aL sC) (eL aL sC) [(eL aL sC)] (by kernel_rfl) (by kernel_rfl) hO (by kernel_rfl) (nZ && (!(!x7))) (by kernel_rfl) (fun hb11 => rfl) ?_
    refine bO 8 ?_
    obtain ⟨x12, hx13, h1⟩ := aY h1
    refine uQ [(21, true), (19, false)] 25 [(eL aL sC), (eL aL t14)] (eI x12) (nZ && (!(!x7))) (by kernel_rfl) (by kernel_rfl) (by kernel_rfl) (fun hb14 => (MT sC t14 _ (pS hx13 hb14))) hO ?_
    intro H hO
    refine bO 15 ?_
    obtain ⟨x15, hx16, h1⟩ := aY h1
    refine uQ [(28, false)] holds1_f (holds1_a ++ [(eL aK t15)] ++ holds1_c) (aG x15) (!((!x7) || (nZ && (decide ((0 : Int) ≤ x12))))) (by kernel_rfl) (by kernel_rfl) (by kernel_rfl) (fun hb17 => (holds1_h t15 _ (pS hx16 hb17))) hO ?_
    intro H hO
    refine bE ?_
    refine cO [3, 8] [(33, (aG (((!x7) || (nZ && (decide ((0 : Int) ≤ x12)))) || (!x15))))] ?_
    refine bV h1 (fun h1 => ?_) (fun h1 => ?_)
    · refine aO ?_
      refine aU aF 1 ?_
      refine pN 0 lo1 1 0 (aG t4) (aG false) [(aG t4)] [(lo1, 1, [(aG false)]), (lo3, 1, [(eL aL sC)]), (lo4, 1, [(aG nZ)])] hO rfl (by kernel_rfl) ?_
      intro H hO
      refine fC ?_
      refine cO [7, 33] [] ?_
      refine bQ ?_
      refine fG [(4, (.lp lo1 0 0)), (5, (.lp lo3 0 0)), (6, (.lp lo4 0 0))] ?_
      obtain rfl := oI h1
      exact aI (aV (bW (⟨(qR hO hE ho1 .dead).1, rfl, _, rfl, (qR hO hE ho1 _).2⟩)))
    refine bT ?_
    refine bB [(4, (.lp lo1 0 0)), (5, (.lp lo3 0 0)), (6, (.lp lo4 0 0)), (7, (eL aL t14))] ?_
    refine aU aF 3 ?_
    refine bO 1 ?_
    refine pN 1 lo3 1 0 (eL aL sC) (eL aL t14) [(eL aL sC)] [(lo1, 1, [(aG t4)]), (lo3, 1, [(eL aL t14)]), (lo4, 1, [(aG nZ)])] hO rfl (by kernel_rfl) ?_
    intro H hO
    refine pN 2 lo4 1 0 (aG nZ) (aG true) [(aG nZ)] [(lo1, 1, [(aG t4)]), (lo3, 1, [(eL aL t14)]), (lo4, 1, [(aG true)])] hO rfl (by kernel_rfl) ?_
    intro H hO
    refine fC ?_
    refine fG [(4, (.lp lo1 0 0)), (5, (.lp lo3 0 0)), (6, (.lp lo4 0 0))] ?_
    obtain rfl := oI h1
    exact aI (bD (⟨(qR hO hE ho1 .dead).1, rfl, _, rfl, (qR hO hE ho1 _).2⟩))
  · intro b lD19 lL H' G' hi hO
    rcases o0 with s | s
    · dsimp only [Sum.elim_inl] at hi
      obtain rfl := hi
      replace h0 : (some true) = some r := h0
      obtain ⟨hlL, hO⟩ := yD hO
      refine ⟨_, _, hlL, (by intro e; cases e), ?_⟩
      refine fG [(4, (.lp lo1 0 0))] ?_
      replace hO := hO.pick (L' := [(lo1, 1, [(aG s.1)])]) [0] (by decide) (by kernel_rfl)
      refine aI (bD (aJ (?_)))
      refine aO ?_
      refine aU aF 1 ?_
      refine pN 0 lo1 1 0 (aG s.1) (aG true) [(aG s.1)] [(lo1, 1, [(aG true)])] hO rfl (by kernel_rfl) ?_
      intro H hO
      refine fC ?_
      refine bB [(4, (.lp lo1 0 0))] ?_
      refine bQ ?_
      obtain rfl := oI h0
      have hD := (hO.gm 0 _ rfl).2
      replace hO := (hO.vH .dead).pG
      exact aI (QM1 (.inr rfl) hD (rs := [.cell 4 4]) (xs := [(aG true)]) (x := (aG true)) (by kernel_rfl) (xY (lo := lo1) (k := 1) (y := (aG true)) (x := (aG true)) 0 hO (by kernel_rfl) (by kernel_rfl) (by kernel_rfl) (by kernel_rfl) vP) (by kernel_rfl) ⟨rfl, hO.out⟩)
    · dsimp only [Sum.elim_inr] at hi
      obtain rfl := hi
      replace h0 : (some s.1) = some r := h0
      obtain ⟨hlL, hO⟩ := yD hO
      refine ⟨_, _, hlL, (by intro e; cases e), ?_⟩
      refine bQ ?_
      replace hO := hO.pick (L' := [(lo1, 1, [(aG s.1)])]) [0] (by decide) (by kernel_rfl)
      obtain rfl := oI h0
      have hD := (hO.gm 0 _ rfl).2
      replace hO := (hO.vH .dead).pG
      exact aI (bW (aV (QM1 (.inr rfl) hD (rs := [.cell 4 4]) (xs := [(aG s.1)]) (x := (aG s.1)) (by kernel_rfl) (xY (lo := lo1) (k := 1) (y := (aG s.1)) (x := (aG s.1)) 0 hO (by kernel_rfl) (by kernel_rfl) (by kernel_rfl) (by kernel_rfl) vP) (by kernel_rfl) ⟨rfl, hO.out⟩)))

theorem aBc (n0 : Int) (r : Bool) (h0 : DW n0 = some r) : dK Try.prog 46 [(eI n0)] (aG r) := by
  intro H0
  refine dP Try.func46 ?_
  have hO := aN.start H0
  unfold DW at h0
  refine aX aF 1 [] [] ?_
  refine cJ aF 7 [(2, (aG ((decide (n0 ≤ (1048576 : Int))) && (decide ((-1048576 : Int) ≤ n0)))))] ?_
  refine bQ ?_
  obtain rfl := oI h0
  exact aI (Q_r hO)

theorem vE (f0 : (List aD)) (r : Bool) (h0 : pY f0 = some r) : dK Try.prog 28 [(eL aK f0)] (aG r) := by
  intro H0
  refine dP Try.func28 ?_
  have hO := aN.start H0
  unfold pY at h0
  refine aX aF 1 [] [] ?_
  refine aO ?_
  refine aX aF 3 [] [(8, (aG (decide ((1024 : Int) < (lN f0)))))] ?_
  refine bV h0 (fun h0 => ?_) (fun h0 => ?_)
  · refine cJ aF 1 [(2, (aG false))] ?_
    refine bQ ?_
    obtain rfl := oI h0
    exact aI (aV (Q_r hO))
  refine bT ?_
  refine bB [(0, (eL aK f0))] ?_
  refine aX aF 1 [] [(3, (eI (-2 : Int)))] ?_
  refine lY (fun T H => Has T [] ∧ aN ⟨H0, [], []⟩ H [] ∧ AM  = some r) ?_ ?_
  · clear hO h0
    rintro T H ⟨hT, hO, h0⟩
    refine bR hT ?_
    clear hT
    unfold AM at h0
    refine cJ aF 1 [(2, (aG true))] ?_
    refine bQ ?_
    obtain rfl := oI h0
    exact aI (Q_r hO)
  refine aX aF 3 [0] [(9, (eL aK f0)), (10, (eI (lN f0))), (11, (eI (0 : Int)))] ?_
  refine cI 0 ?_
  refine mI [(3, (eI (-2 : Int))), (9, (eL aK f0)), (10, (eI (lN f0))), (11, (eI (0 : Int)))] ?_
  refine lK (fun T H => ∃ uG : Int, ∃ t9 : (List aD), ∃ t10 : Int, ∃ t11 : Int, Has T [(3, (eI uG)), (9, (eL aK t9)), (10, (eI t10)), (11, (eI t11))] ∧ aN ⟨H0, [], []⟩ H [] ∧ DR uG t9 t10 t11 = some r) ?_ ⟨(-2 : Int), f0, (lN f0), (0 : Int), bG, hO, h0⟩
  clear hO h0
  rintro T H ⟨uG, t9, t10, t11, hT, hO, h0⟩
  refine bR hT ?_
  clear hT
  unfold DR at h0
  obtain ⟨rr0, hl0, h0⟩ := aY h0
  refine mV (fun (s : Int × Int) T H => Has T [(3, (eI s.1)), (9, (eL aK t9)), (10, (eI t10)), (11, (eI s.2))] ∧ aN ⟨H0, [], []⟩ H []) hl0 ⟨bG, hO⟩ ?_
  clear hO
  rintro k0 s out1 T H ⟨hT, hO⟩ h1 ho0
  obtain ⟨uG, t11⟩ := s
  replace h1 : qJ t9 t10 uG t11 = some out1 := h1
  try dsimp only at hT
  refine bR hT ?_
  clear hT
  unfold qJ at h1
  refine aX aF 1 [] [(12, (aG (decide (t11 < t10))))] ?_
  refine aO ?_
  refine bV h1 (fun h1 => ?_) (fun h1 => ?_)
  · refine bT ?_
    refine bB [(3, (eI uG)), (9, (eL aK t9)), (10, (eI t10)), (11, (eI t11))] ?_
    refine aO ?_
    refine cI 1 ?_
    refine aO ?_
    refine aU aF 4 ?_
    obtain ⟨c3, h1⟩ := bC h1
    refine BD 2 [0 ≤ t11 ∧ t11 < (lN t9)] ⟨c3, trivial⟩ ?_
    refine qY 2 (aK (aD.mk 0 0)) (by kernel_rfl) (by kernel_rfl) hO ?_
    intro lo4 H hO
    refine pN 0 lo4 2 0 (aK (aD.mk 0 0)) (aK (gD t9 t11)) [(aK (aD.mk 0 0))] [(lo4, 2, [(aK (gD t9 t11))])] hO rfl (by kernel_rfl) ?_
    intro H hO
    refine fC ?_
    refine cO [] [(5, (.lp lo4 0 0))] ?_
    refine aO ?_
    refine aO ?_
    refine aU aF 20 ?_
    refine bO 1 ?_
    refine oO 0 lo4 2 0 (aK (gD t9 t11)) (eI ((gD t9 t11).At)) [(aK (gD t9 t11))] hO rfl ?_
    refine bO 6 ?_
    refine GC [(19, false)] 0 lo4 2 0 (aK (gD t9 t11)) (eI ((gD t9 t11).At)) [(aK (gD t9 t11))] (by kernel_rfl) (by kernel_rfl) hO (by kernel_rfl) (!(decide (((gD t9 t11).At) ≤ uG))) (by kernel_rfl) (fun hb5 => rfl) ?_
    refine bO 11 ?_
    refine GC [(24, false)] 0 lo4 2 0 (aK (gD t9 t11)) (eI ((gD t9 t11).Net)) [(aK (gD t9 t11))] (by kernel_rfl) (by kernel_rfl) hO (by kernel_rfl) (!((decide (((gD t9 t11).At) ≤ uG)) || (decide ((1125899906842624 : Int) ≤ ((gD t9 t11).At))))) (by kernel_rfl) (fun hb6 => rfl) ?_
    refine bO 16 ?_
    refine GC [(29, false)] 0 lo4 2 0 (aK (gD t9 t11)) (eI ((gD t9 t11).Net)) [(aK (gD t9 t11))] (by kernel_rfl) (by kernel_rfl) hO (by kernel_rfl) (!(((decide (((gD t9 t11).At) ≤ uG)) || (decide ((1125899906842624 : Int) ≤ ((gD t9 t11).At)))) || (decide (((gD t9 t11).Net) = (0 : Int))))) (by kernel_rfl) (fun hb7 => rfl) ?_
    obtain ⟨x8, hx9, h1⟩ := aY h1
    refine uQ [(29, false)] 46 [(eI ((gD t9 t11).Net))] (aG x8) (!(((decide (((gD t9 t11).At) ≤ uG)) || (decide ((1125899906842624 : Int) ≤ ((gD t9 t11).At)))) || (decide (((gD t9 t11).Net) = (0 : Int))))) (by kernel_rfl) (by kernel_rfl) (by kernel_rfl) (fun hb10 => (aBc ((gD t9 t11).Net) _ (pS hx9 hb10))) hO ?_
    intro H hO
    refine bE ?_
    refine cO [3] [(34, (aG ((((decide (((gD t9 t11).At) ≤ uG)) || (decide ((1125899906842624 : Int) ≤ ((gD t9 t11).At)))) || (decide (((gD t9 t11).Net) = (0 : Int)))) || (!x8))))] ?_
    refine bV h1 (fun h1 => ?_) (fun h1 => ?_)
    · refine aO ?_
      refine aU aF 1 ?_
      refine bE ?_
      refine fG [(2, (aG false))] ?_
      replace hO := hO.pick (L' := []) [] (by decide) (by kernel_rfl)
      refine aI (aJ (?_))
      refine bQ ?_
      obtain rfl := oI h1
      obtain rfl : _ = rr0 := ho0
      replace h0 : some false = some r := h0
      obtain rfl := oI h0
      exact aI (aV (bW (aV (aV (bW (aV (Q_r hO)))))))
    refine bT ?_
    refine bB [(5, (.lp lo4 0 0)), (9, (eL aK t9)), (10, (eI t10)), (11, (eI t11))] ?_
    refine aU aF 3 ?_
    refine bO 1 ?_
    refine oO 0 lo4 2 0 (aK (gD t9 t11)) (eI ((gD t9 t11).At)) [(aK (gD t9 t11))] hO rfl ?_
    refine bE ?_
    refine fG [(3, (eI ((gD t9 t11).At))), (9, (eL aK t9)), (10, (eI t10)), (11, (eI t11))] ?_
    replace hO := hO.pick (L' := []) [] (by decide) (by kernel_rfl)
    refine aI (bD (aJ (?_)))
    refine aU aF 2 ?_
    refine bE ?_
    exact aI (aJ (⟨rfl, _, (oI h1).symm, bG, hO⟩))
  refine lS 0 ?_
  obtain rfl := oI h1
  obtain rfl : _ = rr0 := ho0
  replace h0 : AM  = some r := h0
  exact aI (aZ (aZ (cC (aJ (⟨rfl, bG, hO, h0⟩)))))

theorem TG (l0 : (List aM)) (r : Bool) (h0 : yO l0 = some r) : dK Try.prog 13 [(eL aR l0)] (aG r) := by
  intro H0
  refine dP Try.func13 ?_
  have hO := aN.start H0
  unfold yO at h0
  refine aX aF 1 [] [] ?_
  refine aO ?_
  refine aU aF 3 ?_
  refine bO 1 ?_
  obtain ⟨x1, hx2, h0⟩ := aY h0
  refine iI (aBq l0 28 [] [] (fun y0 => pY y0) (fun y0 r h => vE y0 r h) _ hx2) hO ?_
  intro H hO
  refine bE ?_
  refine bB [(2, (aG x1))] ?_
  refine bQ ?_
  obtain rfl := oI h0
  exact aI (Q_r hO)

theorem PU {σ : Type} (I : σ → Gs → Prop) (yield0_b : Nat) (kP : σ → (List aE) → (List aD) → Option (σ × Bool)) (yield0_h : ∀ st a0 a1 st2 r, kP st a0 a1 = some (st2, r) → FW Try.prog (yv yield0_b) I st [(eL aL a0), (eL aK a1)] st2 (aG r)) (t1 : (List aM)) (sg0 : σ) (r : σ) (h0 : rX kP t1 sg0 = some r) : vC Try.prog 30 I sg0 [(yv yield0_b), (.rp (eL aR t1))] r (.tup []) := by
  intro H0 G0 hI hg
  refine UK aF Try.func30 (by kernel_rfl) (by kernel_rfl) (by kernel_rfl) ?_
  obtain ⟨G, hO, hI⟩ : ∃ G, aN ⟨H0, List.map (fun p : Nat × dS => p.1) G0, G⟩ H0 [] ∧ I sg0 G := ⟨G0, aN.LC hg, hI⟩
  clear hg
  unfold rX at h0
  refine aO ?_
  refine aU aF 1 ?_
  refine xP 1 (yv yield0_b) ?_
  refine fC ?_
  refine cO [0] [(2, (.rp (yv yield0_b)))] ?_
  refine aO ?_
  refine aO ?_
  refine aU aF 3 ?_
  refine bO 1 ?_
  obtain ⟨x1, hx2, h0⟩ := aY h0
  refine iI (TG t1 _ hx2) hO ?_
  intro H hO
  refine bE ?_
  refine cO [] [(7, (aG (!x1)))] ?_
  refine bV h0 (fun h0 => ?_) (fun h0 => ?_)
  · refine bQ ?_
    obtain rfl := oI h0
    exact aI (aV (QM0 (.inr rfl) (rs := []) (xs := []) (x := (.tup [])) (by kernel_rfl) vP (by kernel_rfl) ⟨rfl, G, hI, hO.HE⟩))
  refine bT ?_
  refine bB [(1, (.rp (eL aR t1))), (2, (.rp (yv yield0_b)))] ?_
  refine aO ?_
  refine aU aF 2 ?_
  refine bO 1 ?_
  obtain ⟨x5, hx6, h0⟩ := aY h0
  refine iI (QE t1 _ hx6) hO ?_
  intro H hO
  refine fC ?_
  refine cO [1] [(9, (.fn (.func 47) [] [(.rp (eL aR x5))]))] ?_
  refine cI 0 ?_
  refine mI [(2, (.rp (yv yield0_b))), (9, (.fn (.func 47) [] [(.rp (eL aR x5))]))] ?_
  refine lK (fun T H => ∃ sg : σ, ∃ t9c0 : (List aM), ∃ G : Gs, Has T [(2, (.rp (yv yield0_b))), (9, (.fn (.func 47) [] [(.rp (eL aR t9c0))]))] ∧ aN ⟨H0, List.map (fun p : Nat × dS => p.1) G0, G⟩ H [] ∧ I sg G ∧ tR kP sg t9c0 = some r) ?_ ⟨sg0, x5, G, bG, hO, hI, h0⟩
  clear hO hI h0
  rintro T H ⟨sg, t9c0, G, hT, hO, hI, h0⟩
  refine bR (l := [(2, (.rp (yv yield0_b))), (9, (.fn (.func 47) [] [(.rp (eL aR t9c0))]))]) hT ?_
  clear hT
  unfold tR at h0
  obtain ⟨o0, hl0, h0⟩ := aY h0
  refine QY (fid := 47) (ys := []) (cs := [(.rp (eL aR t9c0))]) #[10, 11] (fun (A : IU) (b lL : Nat) (st : (σ) ⊕ (σ)) (G' : Gs) => Sum.elim (fun (s : σ) => ∃ G : Gs, I s G ∧ G' = (lL, .raw (pX b A .ready none)) :: (up [] ++ G)) (fun (s : σ) => ∃ G : Gs, I s G ∧ G' = (lL, .raw (pX b A .done (some .ret))) :: (up [] ++ G)) st) (.inl sg) o0 (.tup []) (by kernel_rfl) (by kernel_rfl) (by kernel_rfl) hO (fun _ _ => ⟨G, hI, rfl⟩) ?_ ?_
  · intro b lL
    clear hO hI h0
    refine JO _ b (fun st t10 t11 => rnd (fun (s : σ) => oQ kP t9c0 s t10 t11) st) ?_ t9c0 _ _ hl0
    intro st t10 t11 out1 rr hr
    obtain ⟨s, rfl, h1, rfl⟩ := aEL hr
    clear hr
    intro Hr Gr hi hg
    obtain ⟨sg, rfl⟩ : ∃ x, x = s := ⟨_, rfl⟩
    dsimp only [Sum.elim_inl] at hi
    obtain ⟨G, hI, rfl⟩ := hi
    replace h1 : oQ kP t9c0 sg t10 t11 = some out1 := h1
    unfold oQ at h1
    obtain ⟨E1, hE, hO⟩ := JX hg
    refine KI (RJ (hO.gm 0 _ rfl).2 (by kernel_rfl) (by kernel_rfl) ?_)
    refine mI [(2, (.rp (yv yield0_b))), (9, (.fn (.func 47) [] [(.rp (eL aR t9c0))])), (10, (eL aL t10)), (11, (eL aK t11))] ?_
    refine aX aF 1 [9, 10] [(3, (eL aL t10))] ?_
    refine aU aF 1 ?_
    refine bE ?_
    refine fG [(2, (.rp (yv yield0_b))), (3, (eL aL t10)), (4, (eL aK t11))] ?_
    refine aI (⟨rfl, rfl, (hO.gm 0 _ rfl).2, ?_⟩)
    intro o1 ho1
    replace hO := hO.vH o1
    refine cI 1 ?_
    refine aO ?_
    refine aU aF 5 ?_
    refine bO 3 ?_
    obtain ⟨x7, hx8, h1⟩ := aY h1
    refine aE6 (I := I) (yv yield0_b) [(eL aL t10), (eL aK t11)] (aG x7.2) (by kernel_rfl) (by kernel_rfl) (yield0_h _ t10 t11 x7.1 x7.2 hx8) hO hI ?_
    intro G H hO hI
    refine bE ?_
    refine bB [(16, (aG (!x7.2)))] ?_
    refine bV h1 (fun h1 => ?_) (fun h1 => ?_)
    · refine bQ ?_
      refine fG [] ?_
      obtain rfl := oI h1
      exact aI (bW (⟨(qR hO hE ho1 .dead).1, rfl, _, ⟨G, hI, rfl⟩, (qR hO hE ho1 _).2⟩))
    refine bT ?_
    refine fG [] ?_
    obtain rfl := oI h1
    exact aI (bD (⟨(qR hO hE ho1 .dead).1, rfl, _, ⟨G, hI, rfl⟩, (qR hO hE ho1 _).2⟩))
  · intro b lD10 lL H' G' hi hO
    rcases o0 with s | s
    · dsimp only [Sum.elim_inl] at hi
      obtain ⟨G, hI, rfl⟩ := hi
      replace h0 : (some s) = some r := h0
      obtain ⟨hlL, hO⟩ := yD hO
      refine ⟨_, _, hlL, (by intro e; cases e), ?_⟩
      obtain rfl := oI h0
      have hD := (hO.gm 0 _ rfl).2
      replace hO := (hO.vH .dead).pG
      exact aI (bD (QM1 (.inl rfl) hD (rs := []) (xs := []) (x := (.tup [])) (by kernel_rfl) vP (by kernel_rfl) ⟨rfl, G, hI, hO.HE⟩))
    · dsimp only [Sum.elim_inr] at hi
      obtain ⟨G, hI, rfl⟩ := hi
      replace h0 : (some s) = some r := h0
      obtain ⟨hlL, hO⟩ := yD hO
      refine ⟨_, _, hlL, (by intro e; cases e), ?_⟩
      refine bQ ?_
      obtain rfl := oI h0
      have hD := (hO.gm 0 _ rfl).2
      replace hO := (hO.vH .dead).pG
      exact aI (bW (QM1 (.inr rfl) hD (rs := []) (xs := []) (x := (.tup [])) (by kernel_rfl) vP (by kernel_rfl) ⟨rfl, G, hI, hO.HE⟩))

theorem wJ {σ : Type} (I : σ → Gs → Prop) (s0 : (List aM)) (f1_v : V) (f1 : σ → aM → Option (σ × Bool)) (f1_h : ∀ st a0 st2 r, f1 st a0 = some (st2, r) → FW Try.prog f1_v I st [(aR a0)] st2 (aG r)) (sg0 : σ) (r : (σ × Int)) (h0 : lJ s0 f1 sg0 = some r) : vC Try.prog 29 I sg0 [(eL aR s0), f1_v] r.1 (eI r.2) := by
  intro H0 G0 hI hg
  refine dP Try.func29 ?_
  obtain ⟨G, hO, hI⟩ : ∃ G, aN ⟨H0, List.map (fun p : Nat × dS => p.1) G0, G⟩ H0 [] ∧ I sg0 G := ⟨G0, aN.LC hg, hI⟩
  clear hg
  unfold lJ at h0
  refine aX aF 1 [] [] ?_
  refine lY (fun T H => ∃ sg : σ, ∃ G : Gs, Has T [] ∧ aN ⟨H0, List.map (fun p : Nat × dS => p.1) G0, G⟩ H [] ∧ I sg G ∧ kZ f1 sg = some r) ?_ ?_
  · clear hO hI h0
    rintro T H ⟨sg, G, hT, hO, hI, h0⟩
    refine bR hT ?_
    clear hT
    unfold kZ at h0
    refine cJ aF 1 [(4, (eI (-1 : Int)))] ?_
    refine bQ ?_
    obtain rfl := oI h0
    exact aI (nL (x := (eI (-1 : Int))) (by kernel_rfl) (aP.refl _) ⟨rfl, G, hI, hO.HE⟩)
  refine aX aF 3 [] [(7, (eI (lN s0))), (8, (eI (0 : Int)))] ?_
  refine cI 0 ?_
  refine mI [(0, (eL aR s0)), (1, f1_v), (7, (eI (lN s0))), (8, (eI (0 : Int)))] ?_
  refine lK (fun T H => ∃ sg : σ, ∃ t7 : Int, ∃ t8 : Int, ∃ G : Gs, Has T [(0, (eL aR s0)), (1, f1_v), (7, (eI t7)), (8, (eI t8))] ∧ aN ⟨H0, List.map (fun p : Nat × dS => p.1) G0, G⟩ H [] ∧ I sg G ∧ lB f1 sg s0 t7 t8 = some r) ?_ ⟨sg0, (lN s0), (0 : Int), G, bG, hO, hI, h0⟩
  clear hO hI h0
  rintro T H ⟨sg, t7, t8, G, hT, hO, hI, h0⟩
  refine bR hT ?_
  clear hT
  unfold lB at h0
  obtain ⟨rr0, hl0, h0⟩ := aY h0
  refine mV (fun (s : σ × Int) T H => ∃ G : Gs, Has T [(0, (eL aR s0)), (1, f1_v), (7, (eI t7)), (8, (eI s.2))] ∧ aN ⟨H0, List.map (fun p : Nat × dS => p.1) G0, G⟩ H [] ∧ I s.1 G) hl0 ⟨G, bG, hO, hI⟩ ?_
  clear hO hI
  rintro k0 s out1 T H ⟨G, hT, hO, hI⟩ h1 ho0
  obtain ⟨sg, t8⟩ := s
  replace h1 : dM f1 s0 t7 sg t8 = some out1 := h1
  try dsimp only at hT
  refine bR hT ?_
  clear hT
  unfold dM at h1
  refine aX aF 1 [] [(9, (aG (decide (t8 < t7))))] ?_
  refine aO ?_
  refine bV h1 (fun h1 => ?_) (fun h1 => ?_)
  · refine bT ?_
    refine bB [(0, (eL aR s0)), (1, f1_v), (7, (eI t7)), (8, (eI t8))] ?_
    refine aO ?_
    refine cI 1 ?_
    refine aX aF 2 [] [(5, (eI t8))] ?_
    refine aO ?_
    refine aU aF 6 ?_
    obtain ⟨c2, h1⟩ := bC h1
    refine BD 5 [0 ≤ t8 ∧ t8 < (lN s0)] ⟨c2, trivial⟩ ?_
    obtain ⟨x3, hx4, h1⟩ := aY h1
    refine PM (I := I) f1_v [(aR (gD s0 t8))] (aG x3.2) (by kernel_rfl) (by kernel_rfl) (f1_h _ (gD s0 t8) x3.1 x3.2 hx4) hO hI ?_
    intro G H hO hI
    refine fC ?_
    refine cO [] [(16, (aG x3.2))] ?_
    refine bV h1 (fun h1 => ?_) (fun h1 => ?_)
    · refine cJ aF 2 [(4, (eI t8))] ?_
      refine bQ ?_
      obtain rfl := oI h1
      obtain rfl : _ = rr0 := ho0
      replace h0 : some (x3.1, t8) = some r := h0
      obtain rfl := oI h0
      exact aI (bW (aV (aV (bW (aV (nL (x := (eI t8)) (by kernel_rfl) (aP.refl _) ⟨rfl, G, hI, hO.HE⟩))))))
    refine bT ?_
    refine fG [(0, (eL aR s0)), (1, f1_v), (7, (eI t7)), (8, (eI t8))] ?_
    refine aI (bD (aJ (?_)))
    refine aU aF 2 ?_
    refine bE ?_
    exact aI (aJ (⟨rfl, _, (oI h1).symm, _, bG, hO, hI⟩))
  refine lS 0 ?_
  obtain rfl := oI h1
  obtain rfl : _ = rr0 := ho0
  replace h0 : kZ f1 sg = some r := h0
  exact aI (aZ (aZ (cC (aJ (⟨rfl, _, _, bG, hO, hI, h0⟩)))))

theorem uS {σ : Type} (I : σ → Gs → Prop) (s0 : (List aM)) (f1_v : V) (f1 : σ → aM → Option (σ × Bool)) (f1_h : ∀ st a0 st2 r, f1 st a0 = some (st2, r) → FW Try.prog f1_v I st [(aR a0)] st2 (aG r)) (sg0 : σ) (r : (σ × Bool)) (h0 : fQ s0 f1 sg0 = some r) : vC Try.prog 14 I sg0 [(eL aR s0), f1_v] r.1 (aG r.2) := by
  intro H0 G0 hI hg
  refine dP Try.func14 ?_
  obtain ⟨G, hO, hI⟩ : ∃ G, aN ⟨H0, List.map (fun p : Nat × dS => p.1) G0, G⟩ H0 [] ∧ I sg0 G := ⟨G0, aN.LC hg, hI⟩
  clear hg
  unfold fQ at h0
  refine aX aF 1 [] [] ?_
  refine aO ?_
  refine aU aF 5 ?_
  refine bO 2 ?_
  obtain ⟨x1, hx2, h0⟩ := aY h0
  refine PM (I := I) (.fn (.func 29) [] []) [(eL aR s0), f1_v] (eI x1.2) (by kernel_rfl) (by kernel_rfl) (vC.toV (wJ I s0 f1_v f1 f1_h sg0 _ hx2)) hO hI ?_
  intro G H hO hI
  refine bE ?_
  refine bB [(4, (aG (decide ((0 : Int) ≤ x1.2))))] ?_
  refine bQ ?_
  obtain rfl := oI h0
  exact aI (nL (x := (aG (decide ((0 : Int) ≤ x1.2)))) (by kernel_rfl) (aP.refl _) ⟨rfl, G, hI, hO.HE⟩)

theorem NN (x0 : Int) (r : (List Int)) (h0 : xH x0 = some r) : ME Try.prog 96 [(bN .u64 x0)] (fun lo => (.msl 1 lo 0 (List.length r))) 1 (List.map (bN .u8) r) := by
  intro H0
  refine dP Try.func96 ?_
  have hO := aN.start H0
  unfold xH at h0
  refine aX aF 1 [] [] ?_
  refine aO ?_
  refine aU aF 2 ?_
  refine xL [] 1 ?_
  refine bE ?_
  refine cO [] [(3, (.sl true 0 (fun _ => .bad)))] ?_
  refine lY (fun T H => ∃ x0 : Int, ∃ out3 : List Int, ∃ lo1 : Nat, Has T [(0, (bN .u64 x0)), (3, (.msl 1 lo1 0 (List.length out3)))] ∧ aN ⟨H0, [], []⟩ H [(lo1, 1, List.map (bN .u8) out3)] ∧ tG x0 out3 = some r) ?_ ?_
  · clear hO h0
    rintro T H ⟨x0, out3, lo1, hT, hO, h0⟩
    refine bR hT ?_
    clear hT
    unfold tG at h0
    refine aO ?_
    refine aU aF 6 ?_
    refine bO 3 ?_
    refine xL [(bN .u8 (IntKind.u8.wrap x0))] 1 ?_
    obtain ⟨c3, h0⟩ := bC h0
    refine FD (bN .u8) out3 ([IntKind.u8.wrap x0]) 0 lo1 1 1 (dW [(bN .u8 (IntKind.u8.wrap x0))]) (fun lo2 => [(lo2, 1, List.map (bN .u8) (out3 ++ ([IntKind.u8.wrap x0])))]) hO (by kernel_rfl) c3 ?_
    intro lo2 H hO
    refine bE ?_
    refine bB [(2, (.msl 1 lo2 0 (List.length (out3 ++ ([IntKind.u8.wrap x0])))))] ?_
    refine bQ ?_
    obtain rfl := oI h0
    exact aI (nL (x := (.msl 1 lo2 0 (List.length (out3 ++ ([IntKind.u8.wrap x0]))))) (by kernel_rfl) (aP.refl _) ⟨lo2, rfl, hO⟩)
  refine cI 0 ?_
  refine mI [(0, (bN .u64 x0)), (3, (.sl true 0 (fun _ => .bad)))] ?_
  refine aAb (el := (fun _ => .bad)) 1 3 1 hO (by kernel_rfl) ?_
  intro lo10 H11 hO
  refine lK (fun T H => ∃ x0 : Int, ∃ out3 : List Int, ∃ lo5 : Nat, Has T [(0, (bN .u64 x0)), (3, (.msl 1 lo5 0 (List.length out3)))] ∧ aN ⟨H0, [], []⟩ H [(lo5, 1, List.map (bN .u8) out3)] ∧ FC x0 out3 = some r) ?_ ⟨x0, ([] : List Int), lo10, bG, hO, h0⟩
  clear hO h0
  rintro T H ⟨x0, out3, lo5, hT, hO, h0⟩
  refine bR hT ?_
  clear hT
  unfold FC at h0
  obtain ⟨rr0, hl0, h0⟩ := aY h0
  refine mV (fun (s : Int × List Int) T H => ∃ lo5 : Nat, Has T [(0, (bN .u64 s.1)), (3, (.msl 1 lo5 0 (List.length s.2)))] ∧ aN ⟨H0, [], []⟩ H [(lo5, 1, List.map (bN .u8) s.2)]) hl0 ⟨lo5, bG, hO⟩ ?_
  clear hO
  rintro k0 s out1 T H ⟨lo5, hT, hO⟩ h1 ho0
  obtain ⟨x0, out3⟩ := s
  replace h1 : tD x0 out3 = some out1 := h1
  try dsimp only at hT
  refine bR hT ?_
  clear hT
  unfold tD at h1
  refine aO ?_
  refine aX aF 2 [] [(6, (aG (decide ((128 : Int) ≤ x0))))] ?_
  refine bV h1 (fun h1 => ?_) (fun h1 => ?_)
  · refine bT ?_
    refine bB [(0, (bN .u64 x0)), (3, (.msl 1 lo5 0 (List.length out3)))] ?_
    refine cI 1 ?_
    refine aO ?_
    refine aU aF 7 ?_
    refine bO 4 ?_
    refine xL [(bN .u8 (bM .or .u8 (IntKind.u8.wrap x0) (128 : Int)))] 1 ?_
    obtain ⟨c8, h1⟩ := bC h1
    refine FD (bN .u8) out3 ([bM .or .u8 (IntKind.u8.wrap x0) (128 : Int)]) 0 lo5 1 1 (dW [(bN .u8 (bM .or .u8 (IntKind.u8.wrap x0) (128 : Int)))]) (fun lo7 => [(lo7, 1, List.map (bN .u8) (out3 ++ ([bM .or .u8 (IntKind.u8.wrap x0) (128 : Int)])))]) hO (by kernel_rfl) c8 ?_
    intro lo7 H hO
    refine bE ?_
    refine cO [3] [(3, (.msl 1 lo7 0 (List.length (out3 ++ ([bM .or .u8 (IntKind.u8.wrap x0) (128 : Int)])))))] ?_
    refine aU aF 3 ?_
    obtain ⟨c9, h1⟩ := bC h1
    refine sV [0 ≤ (7 : Int)] ⟨c9, trivial⟩ ?_
    exact aI (bD (aJ (⟨rfl, _, (oI h1).symm, _, bG, hO⟩)))
  refine lS 0 ?_
  obtain rfl := oI h1
  obtain rfl : _ = rr0 := ho0
  replace h0 : tG x0 out3 = some r := h0
  exact aI (aZ (aZ (cC (aJ (⟨rfl, _, _, _, bG, hO, h0⟩)))))

theorem aCQ (n0 : Int) (r : (List Int)) (h0 : JL n0 = some r) : dK Try.prog 95 [(eI n0)] (eL (bN .u8) r) := by
  intro H0
  refine dP Try.func95 ?_
  have hO := aN.start H0
  unfold JL at h0
  refine aX aF 1 [] [] ?_
  refine aO ?_
  refine aU aF 9 ?_
  obtain ⟨c1, h0⟩ := bC h0
  obtain ⟨c2, h0⟩ := bC h0
  refine BD 7 [0 ≤ (1 : Int), 0 ≤ (63 : Int)] ⟨c1, c2, trivial⟩ ?_
  obtain ⟨x3, hx4, h0⟩ := aY h0
  refine KW (L' := fun lo5 => [(lo5, 1, List.map (bN .u8) x3)]) 1 (List.map (bN .u8) x3) 96 [(bN .u64 (bM .xor .u64 (IntKind.u64.wrap ((IntKind.u64.wrap n0) * 2 ^ (min (Int.toNat (1 : Int)) 64))) (IntKind.u64.wrap (Int.fdiv n0 (2 ^ (min (Int.toNat (63 : Int)) 64))))))] (fun lo5 => (.msl 1 lo5 0 (List.length x3))) (by kernel_rfl) (by kernel_rfl) (NN (bM .xor .u64 (IntKind.u64.wrap ((IntKind.u64.wrap n0) * 2 ^ (min (Int.toNat (1 : Int)) 64))) (IntKind.u64.wrap (Int.fdiv n0 (2 ^ (min (Int.toNat (63 : Int)) 64))))) _ hx4) hO (fun _ => by kernel_rfl) ?_
  intro lo5 H hO
  refine bE ?_
  refine bB [(2, (.msl 1 lo5 0 (List.length x3)))] ?_
  refine bQ ?_
  refine fG [(2, (.msl 1 lo5 0 (List.length x3)))] ?_
  refine tV (en := (bN .u8)) x3 0 0 2 1 lo5 (List.length x3) hO (by kernel_rfl) (by kernel_rfl) (by kernel_rfl) (L' := []) (by kernel_rfl) ?_
  intro H6 hO
  obtain rfl := oI h0
  exact aI (Q_r hO)

theorem LU (n0 : Int) (r : (List Int)) (h0 : qN n0 = some r) : dK Try.prog 93 [(eI n0)] (eL (bN .u8) r) := by
  intro H0
  refine dP Try.func93 ?_
  have hO := aN.start H0
  unfold qN at h0
  refine aX aF 1 [] [] ?_
  refine aO ?_
  refine aU aF 5 ?_
  refine YN [(bN .u8 (1 : Int))] 1 hO ?_
  intro lo1 H hO
  replace hO : aN ⟨H0, [], []⟩ H [(lo1, 1, List.map (bN .u8) ([(1 : Int)]))] := hO
  refine bO 2 ?_
  obtain ⟨x2, hx3, h0⟩ := aY h0
  refine iI (aCQ n0 _ hx3) hO ?_
  intro H hO
  obtain ⟨c6, h0⟩ := bC h0
  refine FD (bN .u8) ([(1 : Int)]) x2 0 lo1 1 1 (eL (bN .u8) x2) (fun lo5 => [(lo5, 1, List.map (bN .u8) (([(1 : Int)]) ++ x2))]) hO (DB (fun _ => by kernel_rfl)) c6 ?_
  intro lo5 H hO
  refine bE ?_
  refine bB [(2, (.msl 1 lo5 0 (List.length (([(1 : Int)]) ++ x2))))] ?_
  refine bQ ?_
  refine fG [(2, (.msl 1 lo5 0 (List.length (([(1 : Int)]) ++ x2))))] ?_
  refine tV (en := (bN .u8)) (([(1 : Int)]) ++ x2) 0 0 2 1 lo5 (List.length (([(1 : Int)]) ++ x2)) hO (by kernel_rfl) (by kernel_rfl) (by kernel_rfl) (L' := []) (by kernel_rfl) ?_
  intro H7 hO
  obtain rfl := oI h0
  exact aI (Q_r hO)

theorem aDu (n0 : Int) (r : (List Int)) (h0 : JB n0 = some r) : ME Try.prog 100 [(eI n0)] (fun lo => (.msl 1 lo 0 (List.length r))) 1 (List.map (bN .u8) r) := by
  intro H0
  refine dP Try.func100 ?_
  have hO := aN.start H0
  unfold JB at h0
  refine aX aF 1 [] [] ?_
  refine aO ?_
  refine aX aF 2 [] [(4, (aG (decide (n0 < (0 : Int)))))] ?_
  refine bV h0 (fun h0 => ?_) (fun h0 => ?_)
  · refine cJ aF 1 [(2, (.sl true 0 (fun _ => .bad)))] ?_
    refine bQ ?_
    refine fG [(2, (.sl true 0 (fun _ => .bad)))] ?_
    refine ON (el := (fun _ => .bad)) 0 2 1 hO (by kernel_rfl) ?_
    intro lo2 H3 hO
    obtain rfl := oI h0
    exact aI (aV (nL (x := (.msl 1 lo2 0 (List.length ([] : List Int)))) (by kernel_rfl) (aP.refl _) ⟨lo2, rfl, hO⟩))
  refine bT ?_
  refine bB [(0, (eI n0))] ?_
  refine aO ?_
  refine aU aF 4 ?_
  refine bO 2 ?_
  obtain ⟨x4, hx5, h0⟩ := aY h0
  refine KW (L' := fun lo6 => [(lo6, 1, List.map (bN .u8) x4)]) 1 (List.map (bN .u8) x4) 96 [(bN .u64 (IntKind.u64.wrap n0))] (fun lo6 => (.msl 1 lo6 0 (List.length x4))) (by kernel_rfl) (by kernel_rfl) (NN (IntKind.u64.wrap n0) _ hx5) hO (fun _ => by kernel_rfl) ?_
  intro lo6 H hO
  refine bE ?_
  refine bB [(2, (.msl 1 lo6 0 (List.length x4)))] ?_
  refine bQ ?_
  obtain rfl := oI h0
  exact aI (nL (x := (.msl 1 lo6 0 (List.length x4))) (by kernel_rfl) (aP.refl _) ⟨lo6, rfl, hO⟩)

theorem aCg (s0 : ByteArray) (r : (List Int)) (h0 : FZ s0 = some r) : dK Try.prog 99 [(qF s0)] (eL (bN .u8) r) := by
  intro H0
  refine dP Try.func99 ?_
  have hO := aN.start H0
  unfold FZ at h0
  refine cJ aF 1 [(0, (qF s0))] ?_
  refine aO ?_
  refine aU aF 6 ?_
  refine bO 2 ?_
  obtain ⟨x1, hx2, h0⟩ := aY h0
  refine KW (L' := fun lo3 => [(lo3, 1, List.map (bN .u8) x1)]) 1 (List.map (bN .u8) x1) 100 [(eI ((ByteArray.size s0 : Nat) : Int))] (fun lo3 => (.msl 1 lo3 0 (List.length x1))) (by kernel_rfl) (by kernel_rfl) (aDu ((ByteArray.size s0 : Nat) : Int) _ hx2) hO (fun _ => by kernel_rfl) ?_
  intro lo3 H hO
  refine bO 4 ?_
  obtain ⟨c5, h0⟩ := bC h0
  refine aGN aF x1 s0 0 lo3 (fun lo4 => [(lo4, 1, List.map (bN .u8) (x1 ++ (List.map (fun b => ((UInt8.toNat b : Nat) : Int)) (ByteArray.data s0).toList)))]) hO c5 ?_
  intro lo4 H hO
  refine bE ?_
  refine bB [(2, (.msl 1 lo4 0 (List.length (x1 ++ (List.map (fun b => ((UInt8.toNat b : Nat) : Int)) (ByteArray.data s0).toList)))))] ?_
  refine bQ ?_
  refine fG [(2, (.msl 1 lo4 0 (List.length (x1 ++ (List.map (fun b => ((UInt8.toNat b : Nat) : Int)) (ByteArray.data s0).toList)))))] ?_
  refine tV (en := (bN .u8)) (x1 ++ (List.map (fun b => ((UInt8.toNat b : Nat) : Int)) (ByteArray.data s0).toList)) 0 0 2 1 lo4 (List.length (x1 ++ (List.map (fun b => ((UInt8.toNat b : Nat) : Int)) (ByteArray.data s0).toList))) hO (by kernel_rfl) (by kernel_rfl) (by kernel_rfl) (L' := []) (by kernel_rfl) ?_
  intro H6 hO
  obtain rfl := oI h0
  exact aI (Q_r hO)

theorem MU (w0 : ByteArray) (r : (List Int)) (h0 : qV w0 = some r) : dK Try.prog 97 [(qF w0)] (eL (bN .u8) r) := by
  intro H0
  refine dP Try.func97 ?_
  have hO := aN.start H0
  unfold qV at h0
  refine cJ aF 1 [(0, (qF w0))] ?_
  refine aO ?_
  refine aU aF 5 ?_
  refine YN [(bN .u8 (2 : Int))] 1 hO ?_
  intro lo1 H hO
  replace hO : aN ⟨H0, [], []⟩ H [(lo1, 1, List.map (bN .u8) ([(2 : Int)]))] := hO
  refine bO 2 ?_
  obtain ⟨x2, hx3, h0⟩ := aY h0
  refine iI (aCg w0 _ hx3) hO ?_
  intro H hO
  obtain ⟨c6, h0⟩ := bC h0
  refine FD (bN .u8) ([(2 : Int)]) x2 0 lo1 1 1 (eL (bN .u8) x2) (fun lo5 => [(lo5, 1, List.map (bN .u8) (([(2 : Int)]) ++ x2))]) hO (DB (fun _ => by kernel_rfl)) c6 ?_
  intro lo5 H hO
  refine bE ?_
  refine bB [(2, (.msl 1 lo5 0 (List.length (([(2 : Int)]) ++ x2))))] ?_
  refine bQ ?_
  refine fG [(2, (.msl 1 lo5 0 (List.length (([(2 : Int)]) ++ x2))))] ?_
  refine tV (en := (bN .u8)) (([(2 : Int)]) ++ x2) 0 0 2 1 lo5 (List.length (([(2 : Int)]) ++ x2)) hO (by kernel_rfl) (by kernel_rfl) (by kernel_rfl) (L' := []) (by kernel_rfl) ?_
  intro H7 hO
  obtain rfl := oI h0
  exact aI (Q_r hO)

theorem XB (v0 : aE) (r : (List Int)) (h0 : vT v0 = some r) : dK Try.prog 50 [(aL v0)] (eL (bN .u8) r) := by
  intro H0
  refine dP Try.func50 ?_
  have hO := aN.start H0
  unfold vT at h0
  refine aO ?_
  refine aU aF 2 ?_
  refine xP 3 (aL v0) ?_
  refine bE ?_
  refine bB [(1, (.rp (aL v0)))] ?_
  refine aO ?_
  refine aU aF 7 ?_
  refine bO 1 ?_
  obtain ⟨⟨x1_0, x1_1⟩, hx2, h0⟩ := aY h0
  refine iI (yE v0 _ hx2) hO ?_
  intro H hO
  rcases x1_0 with _ | y4 | y5
  · replace h0 : (cond (!x1_1) (some ([])) (none)) = some r := h0
    refine bE ?_
    refine bB [(3, (bF bI.none_)), (4, (aG x1_1))] ?_
    refine aO ?_
    refine aX aF 2 [4] [(11, (aG (!x1_1)))] ?_
    refine bV h0 (fun h0 => ?_) (fun h0 => ?_)
    · refine cJ aF 1 [(2, (.sl true 0 (fun _ => .bad)))] ?_
      refine bQ ?_
      refine dX (l := [(2, (eL (bN .u8) ([])))]) ⟨[(2, (.sl true 0 (fun _ => .bad)))], by kernel_rfl, rfl, ⟨lU, trivial⟩⟩ ?_
      obtain rfl := oI h0
      exact aI (aV (Q_r hO))
    refine bT ?_
    refine bB [(3, (bF bI.none_))] ?_
    refine aO ?_
    refine aU aF 3 ?_
    refine bO 1 ?_
    cases h0
  · replace h0 : (cond (!x1_1) (some ([])) ((qN y4).bind fun x8 => some x8)) = some r := h0
    refine bE ?_
    refine bB [(3, (bF (bI.k_number y4))), (4, (aG x1_1))] ?_
    refine aO ?_
    refine aX aF 2 [4] [(11, (aG (!x1_1)))] ?_
    refine bV h0 (fun h0 => ?_) (fun h0 => ?_)
    · refine cJ aF 1 [(2, (.sl true 0 (fun _ => .bad)))] ?_
      refine bQ ?_
      refine dX (l := [(2, (eL (bN .u8) ([])))]) ⟨[(2, (.sl true 0 (fun _ => .bad)))], by kernel_rfl, rfl, ⟨lU, trivial⟩⟩ ?_
      obtain rfl := oI h0
      exact aI (aV (Q_r hO))
    refine bT ?_
    refine bB [(3, (bF (bI.k_number y4)))] ?_
    refine aO ?_
    refine aU aF 3 ?_
    refine bO 1 ?_
    obtain ⟨x8, hx9, h0⟩ := aY h0
    refine aFk (name := "rescind/value.bytes") (t := 105) (fid := 93) (by kernel_rfl) (LU y4 _ hx9) hO ?_
    intro H hO
    refine bE ?_
    refine bB [(2, (eL (bN .u8) x8))] ?_
    refine bQ ?_
    obtain rfl := oI h0
    exact aI (Q_r hO)
  · replace h0 : (cond (!x1_1) (some ([])) ((qV y5).bind fun x11 => some x11)) = some r := h0
    refine bE ?_
    refine bB [(3, (bF (bI.k_words y5))), (4, (aG x1_1))] ?_
    refine aO ?_
    refine aX aF 2 [4] [(11, (aG (!x1_1)))] ?_
    refine bV h0 (fun h0 => ?_) (fun h0 => ?_)
    · refine cJ aF 1 [(2, (.sl true 0 (fun _ => .bad)))] ?_
      refine bQ ?_
      refine dX (l := [(2, (eL (bN .u8) ([])))]) ⟨[(2, (.sl true 0 (fun _ => .bad)))], by kernel_rfl, rfl, ⟨lU, trivial⟩⟩ ?_
      obtain rfl := oI h0
      exact aI (aV (Q_r hO))
    refine bT ?_
    refine bB [(3, (bF (bI.k_words y5)))] ?_
    refine aO ?_
    refine aU aF 3 ?_
    refine bO 1 ?_
    obtain ⟨x11, hx12, h0⟩ := aY h0
    refine aFk (name := "rescind/value.bytes") (t := 109) (fid := 97) (by kernel_rfl) (MU y5 _ hx12) hO ?_
    intro H hO
    refine bE ?_
    refine bB [(2, (eL (bN .u8) x11))] ?_
    refine bQ ?_
    obtain rfl := oI h0
    exact aI (Q_r hO)

theorem aAR (r0 : (List aE)) (r : (List Int)) (h0 : zW r0 = some r) : dK Try.prog 32 [(eL aL r0)] (eL (bN .u8) r) := by
  intro H0
  refine dP Try.func32 ?_
  have hO := aN.start H0
  unfold zW at h0
  refine aX aF 1 [] [] ?_
  refine aO ?_
  refine aO ?_
  refine aU aF 3 ?_
  refine bO 1 ?_
  obtain ⟨x1, hx2, h0⟩ := aY h0
  refine iI (EG r0 _ hx2) hO ?_
  intro H hO
  refine bE ?_
  refine cO [] [(8, (aG (!x1)))] ?_
  refine bV h0 (fun h0 => ?_) (fun h0 => ?_)
  · refine cJ aF 1 [(2, (.sl true 0 (fun _ => .bad)))] ?_
    refine bQ ?_
    refine dX (l := [(2, (eL (bN .u8) ([])))]) ⟨[(2, (.sl true 0 (fun _ => .bad)))], by kernel_rfl, rfl, ⟨lU, trivial⟩⟩ ?_
    obtain rfl := oI h0
    exact aI (aV (Q_r hO))
  refine bT ?_
  refine bB [(0, (eL aL r0))] ?_
  refine aO ?_
  refine aU aF 5 ?_
  refine bO 3 ?_
  refine YN [(bN .u8 (IntKind.u8.wrap (lN r0)))] 1 hO ?_
  intro lo5 H hO
  replace hO : aN ⟨H0, [], []⟩ H [(lo5, 1, List.map (bN .u8) ([IntKind.u8.wrap (lN r0)]))] := hO
  refine bE ?_
  refine cO [] [(3, (.msl 1 lo5 0 (List.length ([IntKind.u8.wrap (lN r0)]))))] ?_
  refine lY (fun T H => ∃ out3 : List Int, ∃ lo6 : Nat, Has T [(3, (.msl 1 lo6 0 (List.length out3)))] ∧ aN ⟨H0, [], []⟩ H [(lo6, 1, List.map (bN .u8) out3)] ∧ CG out3 = some r) ?_ ?_
  · clear hO h0
    rintro T H ⟨out3, lo6, hT, hO, h0⟩
    refine bR hT ?_
    clear hT
    unfold CG at h0
    refine cJ aF 2 [(2, (.msl 1 lo6 0 (List.length out3)))] ?_
    refine bQ ?_
    refine fG [(2, (.msl 1 lo6 0 (List.length out3)))] ?_
    refine tV (en := (bN .u8)) out3 0 0 2 1 lo6 (List.length out3) hO (by kernel_rfl) (by kernel_rfl) (by kernel_rfl) (L' := []) (by kernel_rfl) ?_
    intro H7 hO
    obtain rfl := oI h0
    exact aI (Q_r hO)
  refine aX aF 3 [0] [(13, (eL aL r0)), (14, (eI (lN r0))), (15, (eI (0 : Int)))] ?_
  refine cI 0 ?_
  refine mI [(3, (.msl 1 lo5 0 (List.length ([IntKind.u8.wrap (lN r0)])))), (13, (eL aL r0)), (14, (eI (lN r0))), (15, (eI (0 : Int)))] ?_
  refine lK (fun T H => ∃ out3 : List Int, ∃ t13 : (List aE), ∃ t14 : Int, ∃ t15 : Int, ∃ lo9 : Nat, Has T [(3, (.msl 1 lo9 0 (List.length out3))), (13, (eL aL t13)), (14, (eI t14)), (15, (eI t15))] ∧ aN ⟨H0, [], []⟩ H [(lo9, 1, List.map (bN .u8) out3)] ∧ BU out3 t13 t14 t15 = some r) ?_ ⟨[IntKind.u8.wrap (lN r0)], r0, (lN r0), (0 : Int), lo5, bG, hO, h0⟩
  clear hO h0
  rintro T H ⟨out3, t13, t14, t15, lo9, hT, hO, h0⟩
  refine bR hT ?_
  clear hT
  unfold BU at h0
  obtain ⟨rr0, hl0, h0⟩ := aY h0
  refine mV (fun (s : List Int × Int) T H => ∃ lo9 : Nat, Has T [(3, (.msl 1 lo9 0 (List.length s.1))), (13, (eL aL t13)), (14, (eI t14)), (15, (eI s.2))] ∧ aN ⟨H0, [], []⟩ H [(lo9, 1, List.map (bN .u8) s.1)]) hl0 ⟨lo9, bG, hO⟩ ?_
  clear hO
  rintro k0 s out1 T H ⟨lo9, hT, hO⟩ h1 ho0
  obtain ⟨out3, t15⟩ := s
  replace h1 : xJ t13 t14 out3 t15 = some out1 := h1
  try dsimp only at hT
  refine bR hT ?_
  clear hT
  unfold xJ at h1
  refine aX aF 1 [] [(16, (aG (decide (t15 < t14))))] ?_
  refine aO ?_
  refine bV h1 (fun h1 => ?_) (fun h1 => ?_)
  · refine bT ?_
    refine bB [(3, (.msl 1 lo9 0 (List.length out3))), (13, (eL aL t13)), (14, (eI t14)), (15, (eI t15))] ?_
    refine aO ?_
    refine cI 1 ?_
    refine aO ?_
    refine aU aF 4 ?_
    obtain ⟨c11, h1⟩ := bC h1
    refine BD 2 [0 ≤ t15 ∧ t15 < (lN t13)] ⟨c11, trivial⟩ ?_
    refine qY 3 (aL (aE.mk 0 0 ByteArray.empty)) (by kernel_rfl) (by kernel_rfl) hO ?_
    intro lo12 H hO
    refine pN 1 lo12 3 0 (aL (aE.mk 0 0 ByteArray.empty)) (aL (gD t13 t15)) [(aL (aE.mk 0 0 ByteArray.empty))] [(lo9, 1, List.map (bN .u8) out3), (lo12, 3, [(aL (gD t13 t15))])] hO rfl (by kernel_rfl) ?_
    intro H hO
    refine fC ?_
    refine cO [] [(5, (.lp lo12 0 0))] ?_
    refine aU aF 5 ?_
    refine bO 1 ?_
    refine oO 1 lo12 3 0 (aL (gD t13 t15)) (aL (gD t13 t15)) [(aL (gD t13 t15))] hO rfl ?_
    obtain ⟨x13, hx14, h1⟩ := aY h1
    refine iI (XB (gD t13 t15) _ hx14) hO ?_
    intro H hO
    obtain ⟨c17, h1⟩ := bC h1
    refine FD (bN .u8) out3 x13 0 lo9 1 1 (eL (bN .u8) x13) (fun lo16 => [(lo16, 1, List.map (bN .u8) (out3 ++ x13)), (lo12, 3, [(aL (gD t13 t15))])]) hO (DB (fun _ => by kernel_rfl)) c17 ?_
    intro lo16 H hO
    refine bE ?_
    refine fG [(3, (.msl 1 lo16 0 (List.length (out3 ++ x13)))), (13, (eL aL t13)), (14, (eI t14)), (15, (eI t15))] ?_
    replace hO := hO.pick (L' := [(lo16, 1, List.map (bN .u8) (out3 ++ x13))]) [0] (by decide) (by kernel_rfl)
    refine aI (bD (aJ (?_)))
    refine aU aF 2 ?_
    refine bE ?_
    exact aI (aJ (⟨rfl, _, (oI h1).symm, _, bG, hO⟩))
  refine lS 0 ?_
  obtain rfl := oI h1
  obtain rfl : _ = rr0 := ho0
  replace h0 : CG out3 = some r := h0
  exact aI (aZ (aZ (cC (aJ (⟨rfl, _, _, bG, hO, h0⟩)))))

theorem VW (r0 : (List aE)) (r : ByteArray) (h0 : BG r0 = some r) : dK Try.prog 17 [(eL aL r0)] (qF r) := by
  intro H0
  refine dP Try.func17 ?_
  have hO := aN.start H0
  unfold BG at h0
  refine aX aF 1 [] [] ?_
  refine aO ?_
  refine aU aF 4 ?_
  refine bO 1 ?_
  obtain ⟨x1, hx2, h0⟩ := aY h0
  refine iI (aAR r0 _ hx2) hO ?_
  intro H hO
  refine aGy x1 ?_
  refine bE ?_
  refine bB [(2, (qF (strOfNums x1)))] ?_
  refine bQ ?_
  obtain rfl := oI h0
  exact aI (Q_r hO)

theorem VR (lo lm : Nat) (b : bY) (c : aC) (r : bY) (h0 : EF b c = some r) : wQ Try.prog 20 [(.lp lo 0 0), (aB c)] [dQ lm b] [iB lo lm b] (fun x M L => x = .tup [] ∧ M = [dQ lm r] ∧ L = [iB lo lm r]) := by
  intro F H0 hO
  obtain ⟨Fh, Fe, Fg⟩ := F
  refine dP Try.func20 ?_
  replace hO : aN ⟨Fh, Fe, (lm, lZ aB b.cells) :: Fg⟩ _ [(lo, 3, [(.agg [.mp lm, eI b.edges, eI b.mark])])] := hO
  unfold EF at h0
  obtain ⟨k, hk, h0⟩ := aY h0
  refine aO ?_
  refine aU aF 1 ?_
  refine xP 2 (aB c) ?_
  refine fC ?_
  refine bB [(0, (.lp lo 0 0)), (3, (.rp (aB c)))] ?_
  refine aO ?_
  refine aU aF 4 ?_
  refine bO 2 ?_
  refine iI (VW c.row _ hk) hO ?_
  intro H hO
  refine bE ?_
  refine bB [(0, (.lp lo 0 0)), (3, (.rp (aB c))), (4, (qF k))] ?_
  refine aO ?_
  refine kB (jS [13, 20]) aF 20 ?_
  refine tK (K := fun T H => Has (lift T) [(0, (.lp lo 0 0)), (3, (.rp (aB c))), (4, (qF k))] ∧ aN ⟨Fh, Fe, (lm, lZ aB b.cells) :: Fg⟩ H [(lo, 3, [(.agg [.mp lm, eI (sL b c k), eI b.mark])])]) ?_ ?_
  · refine qE 3 ?_
    refine jT 0 lo 3 0 (.agg [.mp lm, eI b.edges, eI b.mark]) (eI b.edges) [(.agg [.mp lm, eI b.edges, eI b.mark])] hO rfl ?_
    refine qE 10 ?_
    refine jT 0 lo 3 0 (.agg [.mp lm, eI b.edges, eI b.mark]) (.mp lm) [(.agg [.mp lm, eI b.edges, eI b.mark])] hO rfl ?_
    refine qE 12 ?_
    refine WW (f := aB) (mty := 40) aF k (.agg [(.sl true 0 (fun _ => .bad)), (.sl true 0 (fun _ => .bad))]) hO (fun hg => ?_) (fun v hg => ?_)
    · refine qE 19 ?_
      refine nQ 0 lo 3 0 (.agg [.mp lm, eI b.edges, eI b.mark]) (.agg [.mp lm, eI (wR (b.edges + wR ((lN c.jumps) - ((0 : Nat) : Int)))), eI b.mark]) [(.agg [.mp lm, eI b.edges, eI b.mark])] [(lo, 3, [(.agg [.mp lm, eI (wR (b.edges + wR ((lN c.jumps) - ((0 : Nat) : Int)))), eI b.mark])])] hO rfl (by kernel_rfl) ?_
      intro H hO
      refine oT (by kernel_rfl) ?_
      have e : sL b c k = (wR (b.edges + wR ((lN c.jumps) - ((0 : Nat) : Int)))) := by unfold sL lC; rw [hg]; rfl
      rw [e]
      exact ⟨bG, hO⟩
    · refine qE 19 ?_
      refine nQ 0 lo 3 0 (.agg [.mp lm, eI b.edges, eI b.mark]) (.agg [.mp lm, eI (wR (b.edges + wR ((lN c.jumps) - (lN v.jumps)))), eI b.mark]) [(.agg [.mp lm, eI b.edges, eI b.mark])] [(lo, 3, [(.agg [.mp lm, eI (wR (b.edges + wR ((lN c.jumps) - (lN v.jumps)))), eI b.mark])])] hO rfl (by kernel_rfl) ?_
      intro H hO
      refine oT (by kernel_rfl) ?_
      have e : sL b c k = (wR (b.edges + wR ((lN c.jumps) - (lN v.jumps)))) := by unfold sL lC; rw [hg]; rfl
      rw [e]
      exact ⟨bG, hO⟩
  rintro T H ⟨hT, hO⟩
  refine dX hT ?_
  clear hT
  refine aI (aJ ?_)
  refine aO ?_
  refine cJ aF 4 [(0, (.lp lo 0 0)), (3, (.rp (aB c))), (4, (qF k)), (30, (aG (decide ((lN c.jumps) = 0))))] ?_
  refine bV h0 (fun h0 => ?_) (fun h0 => ?_)
  · obtain rfl := oI h0
    refine aO ?_
    refine aU aF 6 ?_
    refine bO 3 ?_
    refine oO 0 lo 3 0 (.agg [.mp lm, eI (sL b c k), eI b.mark]) (.mp lm) [(.agg [.mp lm, eI (sL b c k), eI b.mark])] hO rfl ?_
    refine bO 5 ?_
    refine aCF (f := aB) (mty := 40) k hO ?_
    intro H hO
    refine fC ?_
    refine bB [] ?_
    refine bQ ?_
    exact aI (aV (MK (M := [dQ lm ⟨qA b.cells k, sL b c k, b.mark⟩]) hO ⟨rfl, rfl, rfl⟩))
  · obtain rfl := oI h0
    refine bT ?_
    refine bB [(0, (.lp lo 0 0)), (3, (.rp (aB c))), (4, (qF k))] ?_
    refine kB (jS [41]) aF 7 ?_
    refine qE 3 ?_
    refine jT 0 lo 3 0 (.agg [.mp lm, eI (sL b c k), eI b.mark]) (.mp lm) [(.agg [.mp lm, eI (sL b c k), eI b.mark])] hO rfl ?_
    refine qE 6 ?_
    refine aCu (f := aB) (mty := 40) k c hO ?_
    intro H hO
    refine oT (by kernel_rfl) ?_
    refine fG [] ?_
    exact aI (aHy (M := [dQ lm ⟨nI b.cells k c, sL b c k, b.mark⟩]) hO ⟨rfl, rfl, rfl⟩)

theorem AW (s0 : (List aD)) (r : (List aD)) (h0 : lE s0 = some r) : ME Try.prog 35 [(eL aK s0)] (fun lo => (.msl 2 lo 0 (List.length r))) 2 (List.map aK r) := by
  intro H0
  refine dP Try.func35 ?_
  have hO := aN.start H0
  unfold lE at h0
  refine aX aF 1 [] [] ?_
  refine aO ?_
  refine aO ?_
  refine aU aF 2 ?_
  refine bO 1 ?_
  refine aHl false (List.length s0) (fun i => aK (List.getD s0 i default)) (by kernel_rfl) (by kernel_rfl) ?_
  intro b1 hn2
  refine fC ?_
  refine cO [] [(4, (aG b1))] ?_
  refine oB (b1) (fun hc3 => ?_) (fun hc3 => ?_)
  · replace h0 : some ([] : List aD) = some r := by
      have hl := List.eq_nil_of_length_eq_zero (hn2 hc3)
      rw [hl] at h0
      exact (bC h0).2
    refine cJ aF 1 [(2, (.sl true 0 (fun _ => .bad)))] ?_
    refine bQ ?_
    refine fG [(2, (.sl true 0 (fun _ => .bad)))] ?_
    refine ON (el := (fun _ => .bad)) 0 2 2 hO (by kernel_rfl) ?_
    intro lo4 H5 hO
    obtain rfl := oI h0
    exact aI (aV (nL (x := (.msl 2 lo4 0 (List.length ([] : List aD)))) (by kernel_rfl) (aP.refl _) ⟨lo4, rfl, hO⟩))
  · refine bT ?_
    refine bB [(0, (eL aK s0))] ?_
    refine aO ?_
    refine aU aF 4 ?_
    refine xL [] 2 ?_
    refine bO 2 ?_
    obtain ⟨c7, h0⟩ := bC h0
    refine aB1 (e := aK) s0 (fun _ => .bad) 2 16 (eL aK s0) (fun lo6 => [(lo6, 2, List.map aK s0)]) (by kernel_rfl) (by kernel_rfl) hO (DB (fun _ => by kernel_rfl)) c7 (fun _ => by kernel_rfl) ?_
    intro lo6 H hO
    refine bE ?_
    refine bB [(2, (.msl 2 lo6 0 (List.length s0)))] ?_
    refine bQ ?_
    obtain rfl := oI h0
    exact aI (nL (x := (.msl 2 lo6 0 (List.length s0))) (by kernel_rfl) (aP.refl _) ⟨lo6, rfl, hO⟩)

theorem PX (f0 : (List aD)) (r : ((List aD) × Int)) (h0 : tX f0 = some r) : dK Try.prog 36 [(eL aK f0)] (.tup [(eL aK r.1), (eI r.2)]) := by
  intro H0
  refine dP Try.func36 ?_
  have hO := aN.start H0
  unfold tX at h0
  refine aX aF 2 [] [] ?_
  refine aO ?_
  refine aO ?_
  refine aU aF 3 ?_
  refine bO 1 ?_
  obtain ⟨x1, hx2, h0⟩ := aY h0
  refine iI (vE f0 _ hx2) hO ?_
  intro H hO
  refine bE ?_
  refine cO [] [(6, (aG (!x1)))] ?_
  refine bV h0 (fun h0 => ?_) (fun h0 => ?_)
  · refine cJ aF 2 [(2, (.sl true 0 (fun _ => .bad))), (3, (eI (7 : Int)))] ?_
    refine bQ ?_
    refine dX (l := [(2, (eL aK ([]))), (3, (eI (7 : Int)))]) ⟨[(2, (.sl true 0 (fun _ => .bad))), (3, (eI (7 : Int)))], by kernel_rfl, rfl, ⟨lU, aP.refl _, trivial⟩⟩ ?_
    obtain rfl := oI h0
    exact aI (aV (Q_r hO))
  refine bT ?_
  refine bB [(0, (eL aK f0))] ?_
  refine cJ aF 3 [(2, (eL aK f0)), (3, (eI (0 : Int)))] ?_
  refine bQ ?_
  obtain rfl := oI h0
  exact aI (Q_r hO)

theorem aBb (f0 : (List aD)) (t1 : Int) (r : ((List aD) × Int)) (h0 : wA f0 t1 = some r) : dK Try.prog 21 [(eL aK f0), (eI t1)] (.tup [(eL aK r.1), (eI r.2)]) := by
  intro H0
  refine dP Try.func21 ?_
  have hO := aN.start H0
  unfold wA at h0
  refine aX aF 2 [] [] ?_
  refine aO ?_
  refine cI 0 ?_
  refine aO ?_
  refine aU aF 4 ?_
  refine bO 1 ?_
  obtain ⟨x1, hx2, h0⟩ := aY h0
  refine iI (vE f0 _ hx2) hO ?_
  intro H hO
  refine bE ?_
  refine cO [] [(9, (aG (!x1)))] ?_
  refine bV h0 (fun h0 => ?_) (fun h0 => ?_)
  · refine cJ aF 2 [(4, (.sl true 0 (fun _ => .bad))), (5, (eI (2 : Int)))] ?_
    refine bQ ?_
    refine dX (l := [(4, (eL aK ([]))), (5, (eI (2 : Int)))]) ⟨[(4, (.sl true 0 (fun _ => .bad))), (5, (eI (2 : Int)))], by kernel_rfl, rfl, ⟨lU, aP.refl _, trivial⟩⟩ ?_
    obtain rfl := oI h0
    exact aI (bW (aV (Q_r hO)))
  refine aX aF 3 [9] [(13, (aG (decide ((1125899906842624 : Int) ≤ t1))))] ?_
  refine bV h0 (fun h0 => ?_) (fun h0 => ?_)
  · refine cJ aF 2 [(4, (.sl true 0 (fun _ => .bad))), (5, (eI (0 : Int)))] ?_
    refine bQ ?_
    refine dX (l := [(4, (eL aK ([]))), (5, (eI (0 : Int)))]) ⟨[(4, (.sl true 0 (fun _ => .bad))), (5, (eI (0 : Int)))], by kernel_rfl, rfl, ⟨lU, aP.refl _, trivial⟩⟩ ?_
    obtain rfl := oI h0
    exact aI (bW (aV (Q_r hO)))
  refine aX aF 3 [13] [(16, (aG (decide (t1 ≤ (-1 : Int)))))] ?_
  refine bV h0 (fun h0 => ?_) (fun h0 => ?_)
  · refine aO ?_
    refine aU aF 4 ?_
    refine bO 1 ?_
    obtain ⟨x7, hx8, h0⟩ := aY h0
    refine KW (L' := fun lo9 => [(lo9, 2, List.map aK x7)]) 2 (List.map aK x7) 35 [(eL aK f0)] (fun lo9 => (.msl 2 lo9 0 (List.length x7))) (by kernel_rfl) (by kernel_rfl) (AW f0 _ hx8) hO (fun _ => by kernel_rfl) ?_
    intro lo9 H hO
    refine bE ?_
    refine bB [(4, (.msl 2 lo9 0 (List.length x7))), (5, (eI (0 : Int)))] ?_
    refine bQ ?_
    refine fG [(4, (.msl 2 lo9 0 (List.length x7))), (5, (eI (0 : Int)))] ?_
    refine tV (en := aK) x7 0 0 4 2 lo9 (List.length x7) hO (by kernel_rfl) (by kernel_rfl) (by kernel_rfl) (L' := []) (by kernel_rfl) ?_
    intro H10 hO
    obtain rfl := oI h0
    exact aI (bW (aV (Q_r hO)))
  refine bT ?_
  refine fG [(0, (eL aK f0)), (1, (eI t1))] ?_
  refine aI (bD (aJ (?_)))
  refine aX aF 2 [] [(6, (eI (0 : Int))), (7, (eI (0 : Int)))] ?_
  refine lY (fun T H => ∃ v6 : Int, ∃ at7 : Int, Has T [(0, (eL aK f0)), (6, (eI v6)), (7, (eI at7))] ∧ aN ⟨H0, [], []⟩ H [] ∧ wW f0 v6 at7 = some r) ?_ ?_
  · clear hO h0
    rintro T H ⟨v6, at7, hT, hO, h0⟩
    refine bR hT ?_
    clear hT
    unfold wW at h0
    refine aO ?_
    refine aU aF 2 ?_
    refine xL [] 2 ?_
    refine bE ?_
    refine cO [] [(8, (.sl true 0 (fun _ => .bad)))] ?_
    refine lY (fun T H => ∃ out8 : List aD, ∃ lo11 : Nat, Has T [(0, (eL aK f0)), (7, (eI at7)), (8, (.msl 2 lo11 0 (List.length out8)))] ∧ aN ⟨H0, [], []⟩ H [(lo11, 2, List.map aK out8)] ∧ xB f0 at7 out8 = some r) ?_ ?_
    · clear hO h0
      rintro T H ⟨out8, lo11, hT, hO, h0⟩
      refine bR hT ?_
      clear hT
      unfold xB at h0
      refine aO ?_
      refine aU aF 10 ?_
      obtain ⟨c15, h0⟩ := bC h0
      refine BD 4 [0 ≤ at7 ∧ at7 ≤ (lN f0)] ⟨c15, trivial⟩ ?_
      obtain ⟨c17, h0⟩ := bC h0
      refine FD aK out8 (List.drop (Int.toNat at7) f0) 0 lo11 2 16 (.sl false (List.length f0 - Int.toNat at7) (fun i => aK (List.getD f0 (Int.toNat at7 + i) default))) (fun lo16 => [(lo16, 2, List.map aK (out8 ++ (List.drop (Int.toNat at7) f0)))]) hO (aDV (fun _ => by kernel_rfl)) c17 ?_
      intro lo16 H hO
      refine NL (e := aK) (out8 ++ (List.drop (Int.toNat at7) f0)) 0 55 2 lo16 (List.length (out8 ++ (List.drop (Int.toNat at7) f0))) [] (by kernel_rfl) hO (by kernel_rfl) (by kernel_rfl) (by kernel_rfl) (by kernel_rfl) ?_
      intro H hO
      obtain ⟨x18, hx19, h0⟩ := aY h0
      refine iI (PX (out8 ++ (List.drop (Int.toNat at7) f0)) _ hx19) hO ?_
      intro H hO
      refine bE ?_
      refine bB [(4, (eL aK x18.1)), (5, (eI x18.2))] ?_
      refine bQ ?_
      obtain rfl := oI h0
      exact aI (Q_r hO)
    refine aX aF 2 [] [(45, (aG (!decide (v6 = (0 : Int)))))] ?_
    refine bV h0 (fun h0 => ?_) (fun h0 => ?_)
    · refine aU aF 6 ?_
      refine bO 3 ?_
      refine xL [(aK (aD.mk (-1 : Int) v6))] 2 ?_
      obtain ⟨c23, h0⟩ := bC h0
      refine aB1 (e := aK) ([aD.mk (-1 : Int) v6]) (fun _ => .bad) 2 16 (dW [(aK (aD.mk (-1 : Int) v6))]) (fun lo22 => [(lo22, 2, List.map aK ([aD.mk (-1 : Int) v6]))]) (by kernel_rfl) (by kernel_rfl) hO (by kernel_rfl) c23 (fun _ => by kernel_rfl) ?_
      intro lo22 H hO
      refine bE ?_
      exact aI (aJ (⟨rfl, _, _, bG, hO, h0⟩))
    refine bT ?_
    refine fG [(0, (eL aK f0)), (7, (eI at7)), (8, (.sl true 0 (fun _ => .bad)))] ?_
    refine ON (el := (fun _ => .bad)) 2 8 2 hO (by kernel_rfl) ?_
    intro lo24 H25 hO
    exact aI (aJ (⟨rfl, ([] : List aD), _, bG, hO, h0⟩))
  refine cI 1 ?_
  refine mI [(0, (eL aK f0)), (1, (eI t1)), (6, (eI (0 : Int))), (7, (eI (0 : Int)))] ?_
  refine lK (fun T H => ∃ v6 : Int, ∃ at7 : Int, Has T [(0, (eL aK f0)), (1, (eI t1)), (6, (eI v6)), (7, (eI at7))] ∧ aN ⟨H0, [], []⟩ H [] ∧ CK f0 t1 v6 at7 = some r) ?_ ⟨(0 : Int), (0 : Int), bG, hO, h0⟩
  clear hO h0
  rintro T H ⟨v6, at7, hT, hO, h0⟩
  refine bR hT ?_
  clear hT
  unfold CK at h0
  obtain ⟨rr0, hl0, h0⟩ := aY h0
  refine mV (fun (s : Int × Int) T H => Has T [(0, (eL aK f0)), (1, (eI t1)), (6, (eI s.1)), (7, (eI s.2))] ∧ aN ⟨H0, [], []⟩ H []) hl0 ⟨bG, hO⟩ ?_
  clear hO
  rintro k0 s out1 T H ⟨hT, hO⟩ h1 ho0
  obtain ⟨v6, at7⟩ := s
  replace h1 : pR f0 t1 v6 at7 = some out1 := h1
  try dsimp only at hT
  refine bR hT ?_
  clear hT
  unfold pR at h1
  refine aO ?_
  refine aO ?_
  refine aU aF 13 ?_
  obtain ⟨c26, h1⟩ := bC h1
  refine sV [(((decide (at7 < (lN f0)))) = true → 0 ≤ at7 ∧ at7 < (lN f0))] ⟨c26, trivial⟩ ?_
  refine cO [] [(33, (aG ((decide (at7 < (lN f0))) && (decide (((gD f0 at7).At) < t1)))))] ?_
  refine bV h1 (fun h1 => ?_) (fun h1 => ?_)
  · refine bT ?_
    refine bB [(0, (eL aK f0)), (1, (eI t1)), (6, (eI v6)), (7, (eI at7))] ?_
    refine cI 2 ?_
    refine aO ?_
    refine aU aF 8 ?_
    obtain ⟨c28, h1⟩ := bC h1
    refine sV [0 ≤ at7 ∧ at7 < (lN f0)] ⟨c28, trivial⟩ ?_
    refine cO [6] [(6, (eI (wR (v6 + ((gD f0 at7).Net)))))] ?_
    refine aU aF 3 ?_
    refine bE ?_
    exact aI (bD (aJ (⟨rfl, _, (oI h1).symm, bG, hO⟩)))
  refine lS 1 ?_
  obtain rfl := oI h1
  obtain rfl : _ = rr0 := ho0
  replace h0 : wW f0 v6 at7 = some r := h0
  exact aI (aZ (aZ (cC (aJ (⟨rfl, _, _, bG, hO, h0⟩)))))

theorem GX (lo lm : Nat) (b : bY) (t : Int) (r : Int × bY) (h0 : mO b t = some r) : wQ Try.prog 8 [(.lp lo 0 0), (eI t)] [dQ lm b] [iB lo lm b] (fun x M L => x = (eI r.1) ∧ M = [dQ lm r.2] ∧ L = [iB lo lm r.2]) := by
  intro F H0 hO
  obtain ⟨Fh, Fe, Fg⟩ := F
  refine dP Try.func8 ?_
  replace hO : aN ⟨Fh, Fe, (lm, lZ aB b.cells) :: Fg⟩ _ [(lo, 3, [(.agg [.mp lm, eI b.edges, eI b.mark])])] := hO
  unfold mO at h0
  refine aX aF 1 [] [] ?_
  refine aO ?_
  refine cI 0 ?_
  refine aO ?_
  refine aU aF 3 ?_
  refine bO 1 ?_
  refine HS false ?_
  refine bE ?_
  refine bB [(0, (.lp lo 0 0)), (1, (eI t)), (15, (aG false))] ?_
  refine oB (false) (fun hc => by cases hc) (fun hc => ?_)
  refine aO ?_
  refine aU aF 7 ?_
  refine bO 4 ?_
  refine oO 0 lo 3 0 (.agg [.mp lm, eI b.edges, eI b.mark]) (eI b.mark) [(.agg [.mp lm, eI b.edges, eI b.mark])] hO rfl ?_
  refine bE ?_
  refine bB [(0, (.lp lo 0 0)), (1, (eI t)), (18, (aG (decide (t ≤ b.mark))))] ?_
  refine bV h0 (fun h0 => ?_) (fun h0 => ?_)
  · obtain rfl := oI h0
    refine cJ aF 1 [(4, (eI (0 : Int)))] ?_
    refine bQ ?_
    exact aI (bW (aV (MK (M := [dQ lm b]) hO ⟨rfl, rfl, rfl⟩)))
  refine bT ?_
  refine fG [(0, (.lp lo 0 0)), (1, (eI t))] ?_
  refine aI (bD (aJ (?_)))
  refine aO ?_
  refine aU aF 2 ?_
  refine xL [] 2 ?_
  refine bE ?_
  refine fG [(0, (.lp lo 0 0)), (1, (eI t)), (5, (dW []))] ?_
  refine ON (el := (fun _ => .bad)) 2 5 2 hO (by kernel_rfl) ?_
  intro lo5 H hO
  refine bB [(0, (.lp lo 0 0)), (1, (eI t)), (5, (.msl 2 lo5 0 (List.length ([] : List aC))))] ?_
  refine aO ?_
  refine aO ?_
  refine aU aF 5 ?_
  refine bO 3 ?_
  refine oO 0 lo 3 0 (.agg [.mp lm, eI b.edges, eI b.mark]) (.mp lm) [(.agg [.mp lm, eI b.edges, eI b.mark])] hO rfl ?_
  refine HV (f := aB) (mty := 40) hO ?_
  intro li bs ck H hmb hmn hO
  refine fC ?_
  refine bB [(0, (.lp lo 0 0)), (1, (eI t)), (5, (.msl 2 lo5 0 (List.length ([] : List aC)))), (30, (.lp li 0 0))] ?_
  refine cI 1 ?_
  refine KN (by kernel_rfl) (fun (s : List aC ⊕ Int) (seen : List Nat) T H => ∃ (out : List aC) (lo5 : Nat), s = .inl out ∧ Has T [(0, (.lp lo 0 0)), (1, (eI t)), (5, (.msl 2 lo5 0 (List.length out))), (30, (.lp li 0 0))] ∧ aN ⟨Fh, Fe, (li, MD li lm ck seen) :: (lm, xF aB b.cells bs ck) :: Fg⟩ H [(lo, 3, [(.agg [.mp lm, eI b.edges, eI b.mark])]), (lo5, 2, List.map aB out)]) hmb h0 ⟨[], lo5, rfl, bG, hO⟩ ?_
  clear hO h0
  rintro seen rem s T H ⟨out, lo5, rfl, hT, hO⟩ hleft hall
  refine bR (l := [(0, (.lp lo 0 0)), (1, (eI t)), (5, (.msl 2 lo5 0 (List.length out))), (30, (.lp li 0 0))]) hT ?_
  clear hT
  refine aO ?_
  refine aU aF 2 ?_
  refine KA hmb hmn hleft hall hO (fun h0 => ?_) (fun mk mv bq rest out1 H h1 hlt hleft hall hat hO => ?_)
  · clear hall hleft
    replace h0 : (lp (fun s => qT out (lN out) s.1 s.2) ((0 : Int), (0 : Int))).bind (fun n =>
      cond (decide ((4096 : Int) < n)) (some ((7 : Int), b))
      ((lp (fun s => nG out (lN out) s.1 s.2) (b, (0 : Int))).bind fun b => some ((0 : Int), bY.mk b.cells b.edges t))) = some r := h0
    refine bE ?_
    refine bB [(0, (.lp lo 0 0)), (1, (eI t)), (5, (.msl 2 lo5 0 (List.length out))), (32, (aG false))] ?_
    refine aO ?_
    refine oB (false) (fun hc => by cases hc) (fun hc => ?_)
    refine lS 1 ?_
    replace hO := hO.pG
    refine EA hO fun H hO => ?_
    refine fG [(0, (.lp lo 0 0)), (1, (eI t)), (5, (.msl 2 lo5 0 (List.length out)))] ?_
    refine aI (aZ (aZ (cC (aJ (?_)))))
    refine cJ aF 1 [(0, (.lp lo 0 0)), (1, (eI t)), (5, (.msl 2 lo5 0 (List.length out))), (10, (eI (0 : Int)))] ?_
    refine aO ?_
    refine cJ aF 3 [(0, (.lp lo 0 0)), (1, (eI t)), (5, (.msl 2 lo5 0 (List.length out))), (10, (eI (0 : Int))), (52, (.msl 2 lo5 0 (List.length out))), (53, (eI (lN out))), (54, (eI (0 : Int)))] ?_
    obtain ⟨n1, hn1, h0⟩ := aY h0
    refine cI 3 ?_
    refine mV (fun (q : Int × Int) T H => Has T [(0, (.lp lo 0 0)), (1, (eI t)), (5, (.msl 2 lo5 0 (List.length out))), (10, (eI q.1)), (52, (.msl 2 lo5 0 (List.length out))), (53, (eI (lN out))), (54, (eI q.2))] ∧ aN ⟨Fh, Fe, (lm, lZ aB b.cells) :: Fg⟩ H [(lo, 3, [(.agg [.mp lm, eI b.edges, eI b.mark])]), (lo5, 2, List.map aB out)]) hn1 ⟨bG, hO⟩ ?_
    clear hO
    rintro k0 q out2 T H ⟨hT, hO⟩ h2 ho2
    obtain ⟨n3, i3⟩ := q
    replace h2 : qT out (lN out) n3 i3 = some out2 := h2
    refine bR (l := [(0, (.lp lo 0 0)), (1, (eI t)), (5, (.msl 2 lo5 0 (List.length out))), (10, (eI n3)), (52, (.msl 2 lo5 0 (List.length out))), (53, (eI (lN out))), (54, (eI i3))]) hT ?_
    clear hT
    unfold qT at h2
    refine cJ aF 1 [(0, (.lp lo 0 0)), (1, (eI t)), (5, (.msl 2 lo5 0 (List.length out))), (10, (eI n3)), (52, (.msl 2 lo5 0 (List.length out))), (53, (eI (lN out))), (54, (eI i3)), (55, (aG (decide (i3 < (lN out)))))] ?_
    refine aO ?_
    refine bV h2 (fun h2 => ?_) (fun h2 => ?_)
    · refine bT ?_
      refine bB [(0, (.lp lo 0 0)), (1, (eI t)), (5, (.msl 2 lo5 0 (List.length out))), (10, (eI n3)), (52, (.msl 2 lo5 0 (List.length out))), (53, (eI (lN out))), (54, (eI i3))] ?_
      refine aO ?_
      obtain ⟨c5, h2⟩ := bC h2
      obtain rfl := oI h2
      refine cI 4 ?_
      refine aO ?_
      refine aU aF 4 ?_
      refine BD 1 [0 ≤ i3 ∧ i3 < (lN out)] ⟨c5, trivial⟩ ?_
      refine oO 1 lo5 2 (0 + Int.toNat i3) (aB (gD out i3)) (aB (gD out i3)) (List.map aB out) hO (cB c5) ?_
      refine xE 2 (.agg [(.sl true 0 (fun _ => .bad)), (.sl true 0 (fun _ => .bad))]) (aB ⟨[], []⟩) (by kernel_rfl) (by kernel_rfl) (by kernel_rfl) (HG (xs := [(.sl true 0 (fun _ => .bad)), (.sl true 0 (fun _ => .bad))]) (ys := [(eL aL []), (eL aK [])]) ⟨lU, lU, trivial⟩) (by kernel_rfl) (by kernel_rfl) hO ?_
      intro lo8 H hO
      refine pN 2 lo8 2 0 (aB ⟨[], []⟩) (aB (gD out i3)) [(aB ⟨[], []⟩)] [(lo, 3, [(.agg [.mp lm, eI b.edges, eI b.mark])]), (lo5, 2, List.map aB out), (lo8, 2, [(aB (gD out i3))])] hO rfl (by kernel_rfl) ?_
      intro H hO
      refine fC ?_
      refine bB [(0, (.lp lo 0 0)), (1, (eI t)), (5, (.msl 2 lo5 0 (List.length out))), (10, (eI n3)), (52, (.msl 2 lo5 0 (List.length out))), (53, (eI (lN out))), (54, (eI i3)), (12, (.lp lo8 0 0))] ?_
      refine aU aF 6 ?_
      refine bO 2 ?_
      refine oO 2 lo8 2 0 (aB (gD out i3)) (eL aK (gD out i3).jumps) [(aB (gD out i3))] hO rfl ?_
      refine bE ?_
      replace hO := hO.pick (L' := [(lo, 3, [(.agg [.mp lm, eI b.edges, eI b.mark])]), (lo5, 2, List.map aB out)]) [0, 1] (by decide) (by kernel_rfl)
      refine fG [(0, (.lp lo 0 0)), (1, (eI t)), (5, (.msl 2 lo5 0 (List.length out))), (10, (eI (wR (n3 + (lN (gD out i3).jumps))))), (52, (.msl 2 lo5 0 (List.length out))), (53, (eI (lN out))), (54, (eI i3))] ?_
      refine aI (bD (aJ (?_)))
      refine aU aF 2 ?_
      refine bE ?_
      exact aI (⟨rfl, _, rfl, bG, hO⟩)
    refine lS 3 ?_
    obtain rfl := oI h2
    obtain rfl : _ = n1 := ho2
    refine fG [(0, (.lp lo 0 0)), (1, (eI t)), (5, (.msl 2 lo5 0 (List.length out))), (10, (eI n3))] ?_
    refine aI (aZ (aZ (cC (aJ (?_)))))
    refine aO ?_
    refine cJ aF 2 [(0, (.lp lo 0 0)), (1, (eI t)), (5, (.msl 2 lo5 0 (List.length out))), (65, (aG (decide ((4096 : Int) < n3))))] ?_
    refine bV h0 (fun h0 => ?_) (fun h0 => ?_)
    · obtain rfl := oI h0
      refine cJ aF 1 [(4, (eI (7 : Int)))] ?_
      refine bQ ?_
      replace hO := hO.pick (L' := [(lo, 3, [(.agg [.mp lm, eI b.edges, eI b.mark])])]) [0] (by decide) (by kernel_rfl)
      exact aI (aV (MK (M := [dQ lm b]) hO ⟨rfl, rfl, rfl⟩))
    refine bT ?_
    refine bB [(0, (.lp lo 0 0)), (1, (eI t)), (5, (.msl 2 lo5 0 (List.length out)))] ?_
    refine aO ?_
    refine cJ aF 3 [(0, (.lp lo 0 0)), (1, (eI t)), (66, (.msl 2 lo5 0 (List.length out))), (67, (eI (lN out))), (68, (eI (0 : Int)))] ?_
    obtain ⟨b9, hb9, h0⟩ := aY h0
    refine cI 5 ?_
    refine mV (fun (q : bY × Int) T H => Has T [(0, (.lp lo 0 0)), (1, (eI t)), (66, (.msl 2 lo5 0 (List.length out))), (67, (eI (lN out))), (68, (eI q.2))] ∧ aN ⟨Fh, Fe, (lm, lZ aB q.1.cells) :: Fg⟩ H [(lo, 3, [(.agg [.mp lm, eI q.1.edges, eI q.1.mark])]), (lo5, 2, List.map aB out)]) hb9 ⟨bG, hO⟩ ?_
    clear hO
    rintro k0 q out2 T H ⟨hT, hO⟩ h2 ho2
    obtain ⟨b1, i3⟩ := q
    replace h2 : nG out (lN out) b1 i3 = some out2 := h2
    refine bR (l := [(0, (.lp lo 0 0)), (1, (eI t)), (66, (.msl 2 lo5 0 (List.length out))), (67, (eI (lN out))), (68, (eI i3))]) hT ?_
    clear hT
    unfold nG at h2
    refine cJ aF 1 [(0, (.lp lo 0 0)), (1, (eI t)), (66, (.msl 2 lo5 0 (List.length out))), (67, (eI (lN out))), (68, (eI i3)), (69, (aG (decide (i3 < (lN out)))))] ?_
    refine aO ?_
    refine bV h2 (fun h2 => ?_) (fun h2 => ?_)
    · refine bT ?_
      refine bB [(0, (.lp lo 0 0)), (1, (eI t)), (66, (.msl 2 lo5 0 (List.length out))), (67, (eI (lN out))), (68, (eI i3))] ?_
      refine aO ?_
      obtain ⟨c5, h2⟩ := bC h2
      obtain ⟨x, hx, h2⟩ := aY h2
      obtain rfl := oI h2
      refine cI 6 ?_
      refine aO ?_
      refine aU aF 4 ?_
      refine BD 1 [0 ≤ i3 ∧ i3 < (lN out)] ⟨c5, trivial⟩ ?_
      refine oO 1 lo5 2 (0 + Int.toNat i3) (aB (gD out i3)) (aB (gD out i3)) (List.map aB out) hO (cB c5) ?_
      refine xE 2 (.agg [(.sl true 0 (fun _ => .bad)), (.sl true 0 (fun _ => .bad))]) (aB ⟨[], []⟩) (by kernel_rfl) (by kernel_rfl) (by kernel_rfl) (HG (xs := [(.sl true 0 (fun _ => .bad)), (.sl true 0 (fun _ => .bad))]) (ys := [(eL aL []), (eL aK [])]) ⟨lU, lU, trivial⟩) (by kernel_rfl) (by kernel_rfl) hO ?_
      intro lo8 H hO
      refine pN 2 lo8 2 0 (aB ⟨[], []⟩) (aB (gD out i3)) [(aB ⟨[], []⟩)] [(lo, 3, [(.agg [.mp lm, eI b1.edges, eI b1.mark])]), (lo5, 2, List.map aB out), (lo8, 2, [(aB (gD out i3))])] hO rfl (by kernel_rfl) ?_
      intro H hO
      refine fC ?_
      refine bB [(0, (.lp lo 0 0)), (1, (eI t)), (66, (.msl 2 lo5 0 (List.length out))), (67, (eI (lN out))), (68, (eI i3)), (14, (.lp lo8 0 0))] ?_
      refine aU aF 3 ?_
      refine bO 1 ?_
      refine oO 2 lo8 2 0 (aB (gD out i3)) (aB (gD out i3)) [(aB (gD out i3))] hO rfl ?_
      refine aGL [dQ lm b1] [(lo5, 2, List.map aB out), (lo8, 2, [(aB (gD out i3))])] [0, 1, 2] (VR lo lm b1 (gD out i3) _ hx) hO ?_
      rintro _ _ _ H ⟨rfl, rfl, rfl⟩ hO
      refine fC ?_
      replace hO := hO.pick (L' := [(lo, 3, [(.agg [.mp lm, eI x.edges, eI x.mark])]), (lo5, 2, List.map aB out)]) [0, 1] (by decide) (by kernel_rfl)
      refine fG [(0, (.lp lo 0 0)), (1, (eI t)), (66, (.msl 2 lo5 0 (List.length out))), (67, (eI (lN out))), (68, (eI i3))] ?_
      refine aI (bD (aJ (?_)))
      refine aU aF 2 ?_
      refine bE ?_
      exact aI (⟨rfl, _, rfl, bG, hO⟩)
    refine lS 5 ?_
    obtain rfl := oI h2
    obtain rfl : _ = b9 := ho2
    obtain rfl := oI h0
    refine fG [(0, (.lp lo 0 0)), (1, (eI t))] ?_
    refine aI (aZ (aZ (cC (aJ (?_)))))
    refine aO ?_
    refine aU aF 5 ?_
    refine bO 4 ?_
    refine pN 0 lo 3 0 (.agg [.mp lm, eI b1.edges, eI b1.mark]) (.agg [.mp lm, eI b1.edges, eI t]) [(.agg [.mp lm, eI b1.edges, eI b1.mark])] [(lo, 3, [(.agg [.mp lm, eI b1.edges, eI t])]), (lo5, 2, List.map aB out)] hO rfl (by kernel_rfl) ?_
    intro H hO
    refine fC ?_
    refine bB [(0, (.lp lo 0 0)), (1, (eI t))] ?_
    refine cJ aF 1 [(4, (eI (0 : Int)))] ?_
    refine bQ ?_
    replace hO := hO.pick (L' := [(lo, 3, [(.agg [.mp lm, eI b1.edges, eI t])])]) [0] (by decide) (by kernel_rfl)
    exact aI (MK (M := [dQ lm (bY.mk b1.cells b1.edges t)]) hO ⟨rfl, rfl, rfl⟩)
  replace h1 : (wA mv.jumps t).bind (fun x =>
    cond (!(decide (x.2 = (0 : Int)))) (some (.inr x.2))
    (aT ((List.length out + List.length ([aC.mk mv.row x.1])) * 48 ≤ 140737488355328 ∧ List.length out + List.length ([aC.mk mv.row x.1]) ≤ 9223372036854775807) <|
    some (.inl (out ++ [aC.mk mv.row x.1])))) = some out1 := h1
  refine bE ?_
  refine bB [(0, (.lp lo 0 0)), (1, (eI t)), (5, (.msl 2 lo5 0 (List.length out))), (30, (.lp li 0 0)), (32, (aG true))] ?_
  refine aO ?_
  refine oB (true) (fun hc => ?_) (fun hc => by cases hc)
  refine bT ?_
  refine bB [(0, (.lp lo 0 0)), (1, (eI t)), (5, (.msl 2 lo5 0 (List.length out))), (30, (.lp li 0 0))] ?_
  refine cI 2 ?_
  refine aO ?_
  refine aU aF 4 ?_
  refine GJ hat hO ?_
  refine bO 2 ?_
  refine xE 2 (.agg [(.sl true 0 (fun _ => .bad)), (.sl true 0 (fun _ => .bad))]) (aB ⟨[], []⟩) (by kernel_rfl) (by kernel_rfl) (by kernel_rfl) (HG (xs := [(.sl true 0 (fun _ => .bad)), (.sl true 0 (fun _ => .bad))]) (ys := [(eL aL []), (eL aK [])]) ⟨lU, lU, trivial⟩) (by kernel_rfl) (by kernel_rfl) hO ?_
  intro lo7 H hO
  refine pN 2 lo7 2 0 (aB ⟨[], []⟩) (aB mv) [(aB ⟨[], []⟩)] [(lo, 3, [(.agg [.mp lm, eI b.edges, eI b.mark])]), (lo5, 2, List.map aB out), (lo7, 2, [(aB mv)])] hO rfl (by kernel_rfl) ?_
  intro H hO
  refine fC ?_
  refine bB [(0, (.lp lo 0 0)), (1, (eI t)), (5, (.msl 2 lo5 0 (List.length out))), (30, (.lp li 0 0)), (7, (.lp lo7 0 0))] ?_
  refine aO ?_
  refine aU aF 9 ?_
  refine bO 1 ?_
  refine oO 2 lo7 2 0 (aB mv) (eL aK mv.jumps) [(aB mv)] hO rfl ?_
  refine bO 3 ?_
  obtain ⟨x, hx, h1⟩ := aY h1
  refine iI (aBb mv.jumps t _ hx) hO ?_
  intro H hO
  refine bE ?_
  refine bB [(0, (.lp lo 0 0)), (1, (eI t)), (5, (.msl 2 lo5 0 (List.length out))), (30, (.lp li 0 0)), (7, (.lp lo7 0 0)), (8, (eL aK x.1)), (9, (eI x.2))] ?_
  refine aO ?_
  refine cJ aF 2 [(0, (.lp lo 0 0)), (1, (eI t)), (5, (.msl 2 lo5 0 (List.length out))), (30, (.lp li 0 0)), (7, (.lp lo7 0 0)), (8, (eL aK x.1)), (9, (eI x.2)), (43, (aG (!(decide (x.2 = (0 : Int))))))] ?_
  refine bV h1 (fun h1 => ?_) (fun h1 => ?_)
  · obtain rfl := oI h1
    have h9 := VJ (fun _ => rfl) (hall rest (List.Perm.refl _))
    obtain rfl := oI h9
    refine aO ?_
    refine aU aF 2 ?_
    refine bE ?_
    replace hO := hO.pG
    refine EA hO fun H hO => ?_
    refine bB [(4, (eI x.2))] ?_
    refine bQ ?_
    replace hO := hO.pick (L' := [(lo, 3, [(.agg [.mp lm, eI b.edges, eI b.mark])])]) [0] (by decide) (by kernel_rfl)
    exact aI (aV (bW (aV (bW (aV (MK (M := [dQ lm b]) hO ⟨rfl, rfl, rfl⟩))))))
  refine bT ?_
  refine bB [(0, (.lp lo 0 0)), (1, (eI t)), (5, (.msl 2 lo5 0 (List.length out))), (30, (.lp li 0 0)), (7, (.lp lo7 0 0)), (8, (eL aK x.1)), (9, (eI x.2))] ?_
  refine aU aF 8 ?_
  refine bO 2 ?_
  refine oO 2 lo7 2 0 (aB mv) (eL aL mv.row) [(aB mv)] hO rfl ?_
  refine bO 5 ?_
  refine xL [(aB (aC.mk mv.row x.1))] 2 ?_
  obtain ⟨c7, h1⟩ := bC h1
  refine FD aB out ([(aC.mk mv.row x.1)]) 1 lo5 2 48 (dW [(aB (aC.mk mv.row x.1))]) (fun lo9 => [(lo, 3, [(.agg [.mp lm, eI b.edges, eI b.mark])]), (lo9, 2, List.map aB (out ++ ([(aC.mk mv.row x.1)]))), (lo7, 2, [(aB mv)])]) hO (by kernel_rfl) c7 ?_
  intro lo9 H hO
  refine bE ?_
  obtain rfl := oI h1
  replace hO := hO.pick (L' := [(lo, 3, [(.agg [.mp lm, eI b.edges, eI b.mark])]), (lo9, 2, List.map aB (out ++ ([(aC.mk mv.row x.1)])))]) [0, 1] (by decide) (by kernel_rfl)
  exact aI (bD (⟨rfl, _, _, _, hlt, hleft, hall, _, lo9, rfl, bG, hO⟩))

theorem aBg (lo lm : Nat) (b : bY) (x0 : aM) (r : Bool) (h0 : KE b.mark x0 = some r) : sA Try.prog 15 lo 3 [(.agg [.mp lm, eI b.edges, eI b.mark])] [(.agg [.mp lm, eI b.edges, eI b.mark])] [(aR x0), (.rp (.lp lo 0 0))] (aG r) := by
  intro H0 hl0
  refine dP Try.func15 ?_
  have hO := aN.uL hl0
  clear hl0
  unfold KE at h0
  refine aO ?_
  refine aU aF 2 ?_
  refine xP 3 (aR x0) ?_
  refine bE ?_
  refine bB [(1, (.rp (.lp lo 0 0))), (2, (.rp (aR x0)))] ?_
  refine aO ?_
  refine kB (jS [5, 6]) aF 8 ?_
  refine qE 5 ?_
  refine jT 0 lo 3 0 (.agg [.mp lm, eI b.edges, eI b.mark]) (eI b.mark) [(.agg [.mp lm, eI b.edges, eI b.mark])] hO rfl ?_
  refine oK ?_
  refine bB [(3, (aG (decide (x0.At < b.mark))))] ?_
  refine bQ ?_
  obtain rfl := oI h0
  exact aI (nL (x := (aG (decide (x0.At < b.mark)))) (by kernel_rfl) (aP.refl _) ⟨rfl, hO.ext, hO.at 0 (by kernel_rfl), rfl⟩)

theorem XC (l0 : (List aM)) (r : (List aM)) (h0 : AQ l0 = some r) : dK Try.prog 16 [(eL aR l0)] (.fn (.func 30) [] [(.rp (eL aR r))]) := by
  intro H0
  refine dP Try.func16 ?_
  have hO := aN.start H0
  unfold AQ at h0
  refine aO ?_
  refine aU aF 2 ?_
  refine xP 1 (eL aR l0) ?_
  refine bE ?_
  refine bB [(1, (.rp (eL aR l0)))] ?_
  refine cJ aF 2 [(2, (.fn (.func 30) [] [(.rp (eL aR l0))]))] ?_
  refine bQ ?_
  obtain rfl := oI h0
  exact aI (nL (x := (.fn (.func 30) [] [(.rp (eL aR l0))])) (by kernel_rfl) (aP.refl _) ⟨rfl, hO.out⟩)

end Go.Abs
