/- The operations that only compute: the machine makes the same, kind by kind. -/
import Derived.Test.YtgeajlnkbfeidaaAbs4
namespace Go.Abs
open Go Go.RowKit

variable {P : Program} {tt : TT} {g : Gh} {w : World}

theorem Rep.litE {v u : Value} (h : Rep g w (.lit v) u) : u = v := by cases h; rfl

theorem asIntOf_run (k : IntKind) (n : Int) (w : World) : (asIntOf (.int k n)).run P w = .ok (k, n) w := rfl

theorem addr_add (b o n : Nat) : (⟨b, o, none⟩ : Addr).add n = ⟨b, o + n, none⟩ := by
  unfold Addr.add
  split
  · rename_i h; subst h; rfl
  · rfl

theorem run_sliceBound_ok {k : IntKind} {i : Int} {y : Nat} {code : BoundsCode} (h0 : 0 ≤ i) (h1 : i ≤ y) (w : World) : (Instr.sliceBound (.int k i) y code).run P w = .ok i.toNat w := by
  simp only [Instr.sliceBound, Sem.run_bind, asIntOf_run, Result.andThen, if_pos (And.intro h0 h1)]
  rfl

/-- A piece of a frozen slice. -/
theorem rep_cut {n : Nat} {el : Nat → V} {a : Option Addr} {cap l h m size : Nat} {z : Bool} (hr : Rep g w (.sl z n el) (.slice a n cap)) (hs : l < h → szOk (el l) size = true)
    (hl : l ≤ h) (hh : h ≤ n) (hm : h ≤ m) :
    Rep g w (.sl false (h - l) (fun i => el (l + i))) (.slice (if m = l then a else a.map (·.add (l * size))) (h - l) (m - l)) := by
  by_cases e : l < h
  · cases hr with
    | sl0 => omega
    | sl n el b o k cap c h1 h2 h3 h4 h5 h6 =>
      have hsz : k = size := by rw [← (szOk_spec (hs e)).2, ← h2 l (by omega), ((h1 l (by omega)).cellsL (szOk_spec (hs e)).1).1]
      subst hsz
      rw [if_neg (by omega)]
      simp only [Option.map_some, addr_add]
      refine .sl _ _ b (o + l * k) k _ (fun i => c (l + i)) (fun i hi => h1 _ (by omega)) (fun i hi => h2 _ (by omega)) (fun i hi => ?_) (fun i hi j hj => ?_) (by omega) (fun i hi => h6 _ (by omega))
      · have := h3 (l + i) (by omega); rwa [Nat.add_mul, ← Nat.add_assoc] at this
      · have := h4 (l + i) (by omega) j hj; rwa [Nat.add_mul, ← Nat.add_assoc] at this
  · have : h - l = 0 := by omega
    rw [this]
    exact .sl0 _ _ _ _ (by simp)

theorem Rep.slE {z : Bool} {n : Nat} {el : Nat → V} {v : Value} (h : Rep g w (.sl z n el) v) : ∃ a cap, v = .slice a n cap ∧ n ≤ cap ∧ (z = true → cap = 0) := by
  cases h with
  | sl0 z el a cap hz => exact ⟨a, cap, rfl, Nat.zero_le _, hz⟩
  | sl n el b o k cap c _ _ _ _ h _ => exact ⟨_, cap, rfl, h, by simp⟩

theorem rep_take {n : Nat} {el : Nat → V} {a : Option Addr} {cap h m : Nat} {z : Bool} (hr : Rep g w (.sl z n el) (.slice a n cap)) (hh : h ≤ n) (hm : h ≤ m) :
    Rep g w (.sl false h el) (.slice a h m) := by
  by_cases e : h = 0
  · subst e; exact .sl0 _ _ _ _ (by simp)
  · cases hr with
    | sl0 => omega
    | sl n el b o k cap c h1 h2 h3 h4 h5 h6 => exact .sl _ _ b o k _ c (fun i hi => h1 i (by omega)) (fun i hi => h2 i (by omega)) (fun i hi => h3 i (by omega)) (fun i hi => h4 i (by omega)) hm (fun i hi => h6 i (by omega))

theorem msl_cut {k l0 i n : Nat} {v : Value} (hx : Rep g w (.msl k l0 i n) v) : ∃ a cap, v = .slice a n cap ∧ n ≤ cap ∧
    ∀ L H, L ≤ H → H ≤ n → Rep g w (.msl k l0 (i + L) (H - L)) (.slice (if cap = L then a else a.map (·.add (L * k))) (H - L) (cap - L)) := by
  cases hx with
  | msl l i n hl hc =>
    refine ⟨_, _, rfl, by omega, fun L H hLH hH => ?_⟩
    by_cases hcL : g.cap l0 - i = L
    · rw [if_pos hcL]
      have h0 : H - L = 0 := by omega
      rw [h0, hcL, Nat.sub_self]
      exact .msl0 _ _ _ hl (by omega)
    · rw [if_neg hcL]
      simp only [Option.map_some, addr_add]
      have := Rep.msl (g := g) (w := w) l0 (i + L) (H - L) hl (by omega)
      rw [Nat.add_mul, ← Nat.add_assoc] at this
      rwa [show g.cap l0 - i - L = g.cap l0 - (i + L) by omega]
  | msl0 l i a hl hc =>
    refine ⟨_, _, rfl, by omega, fun L H hLH hH => ?_⟩
    have h1 : L = 0 := by omega
    have h2 : H = 0 := by omega
    subst h1; subst h2
    simp only [if_true]
    exact .msl0 _ _ _ hl hc

abbrev OO (g : Gh) (w : World) (lo : Option V) (l' : Option Value) : Prop := (lo = none ∧ l' = none) ∨ ∃ y u, lo = some y ∧ l' = some u ∧ Rep g w y u

theorem OO.none {l' : Option Value} (h : OO g w none l') : l' = none := by
  rcases h with ⟨_, h⟩ | ⟨_, _, h, _⟩
  · exact h
  · cases h

theorem OO.lit {c : Value} {l' : Option Value} (h : OO g w (some (.lit c)) l') : l' = some c := by
  rcases h with ⟨h, _⟩ | ⟨_, _, h, h', hr⟩
  · cases h
  · cases h; rw [h', hr.litE]

section bounds
variable {b : Bool} {len cap : Nat} {kl kh km : IntKind} {l h m : Int}
theorem bounds_l (h0 : 0 ≤ l) (h1 : l ≤ len) (w : World) : (Instr.sliceBounds b len cap (some (.int kl l)) none none).run P w = .ok (l.toNat, len, cap) w := by
  simp only [Instr.sliceBounds, Sem.run_bind, Sem.run_pure, Result.andThen, run_sliceBound_ok (P := P) h0 h1]
theorem bounds_h (h0 : 0 ≤ h) (h1 : h ≤ cap) (w : World) : (Instr.sliceBounds b len cap none (some (.int kh h)) none).run P w = .ok (0, h.toNat, cap) w := by
  simp only [Instr.sliceBounds, Sem.run_bind, Sem.run_pure, Result.andThen, run_sliceBound_ok (P := P) h0 h1]
theorem bounds_lh (h0 : 0 ≤ l) (h1 : l ≤ h) (h2 : h ≤ cap) (w : World) : (Instr.sliceBounds b len cap (some (.int kl l)) (some (.int kh h)) none).run P w = .ok (l.toNat, h.toNat, cap) w := by
  simp only [Instr.sliceBounds, Sem.run_bind, Sem.run_pure, Result.andThen, run_sliceBound_ok (P := P) (Int.le_trans h0 h1) h2, run_sliceBound_ok (P := P) (y := h.toNat) h0 (by omega)]
theorem bounds_hm (h0 : 0 ≤ h) (h1 : h ≤ m) (h2 : m ≤ cap) (w : World) : (Instr.sliceBounds b len cap none (some (.int kh h)) (some (.int km m))).run P w = .ok (0, h.toNat, m.toNat) w := by
  simp only [Instr.sliceBounds, Sem.run_bind, Sem.run_pure, Result.andThen, run_sliceBound_ok (P := P) (Int.le_trans h0 h1) h2, run_sliceBound_ok (P := P) (y := m.toNat) h0 (by omega)]
theorem bounds_lhm (h0 : 0 ≤ l) (h1 : l ≤ h) (h2 : h ≤ m) (h3 : m ≤ cap) (w : World) :
    (Instr.sliceBounds b len cap (some (.int kl l)) (some (.int kh h)) (some (.int km m))).run P w = .ok (l.toNat, h.toNat, m.toNat) w := by
  simp only [Instr.sliceBounds, Sem.run_bind, Sem.run_pure, Result.andThen, run_sliceBound_ok (P := P) (show 0 ≤ m by omega) h3, run_sliceBound_ok (P := P) (i := h) (y := m.toNat) (by omega) (by omega),
    run_sliceBound_ok (P := P) (y := h.toNat) h0 (by omega)]
end bounds

theorem pslice_sound (htt : TTok P tt) {t : TypeId} {x : V} {lo hi mx : Option V} {Cs : List Prop} {z : V} {v : Value} {l' h' m' : Option Value}
    (h : pslice tt t x lo hi mx = some (Cs, z)) (hC : ∀ c ∈ Cs, c) (hx : Rep g w x v) (hl : OO g w lo l') (hh : OO g w hi h') (hm : OO g w mx m') :
    ∃ u, (Instr.sliceAt t v l' h' m').run P w = .ok u w ∧ Rep g w z u := by
  unfold pslice at h
  split at h
  · rename_i zf n el
    obtain ⟨a, cap, rfl, hn, hz⟩ := hx.slE
    split at h
    · rename_i e _ _ _ ht
      split at h
      · simp at h
      · rename_i te hte
        have hu := (htt.facts ht).under
        have hsz := run_sizeOf' (htt.facts hte)
        have main : ∀ (L H M : Nat), (Instr.sliceBounds true n cap l' h' m').run P w = .ok (L, H, M) w →
            (Instr.sliceAt t (.slice a n cap) l' h' m').run P w = .ok (.slice (if M = L then a else a.map (·.add (L * te.size))) (H - L) (M - L)) w := by
          intro L H M hr
          simp only [Instr.sliceAt, Sem.run_bind, run_underlying hu, Result.andThen, Instr.slice, hr, hsz]
          rfl
        have at0 : ∀ M : Nat, (if M = 0 then a else a.map (·.add (0 * te.size))) = a := by
          intro M
          split
          · rfl
          · cases a <;> simp [Addr.add]
        split at h
        · cases hl.none; cases hh.none; cases hm.none
          simp at h; obtain ⟨rfl, rfl⟩ := h
          refine ⟨_, main 0 n cap (by rfl), ?_⟩
          rw [at0]; simpa using hx
        · rename_i k l
          cases hl.lit; cases hh.none; cases hm.none
          split at h
          · rename_i hso
            simp at h; obtain ⟨rfl, rfl⟩ := h
            have hC := hC _ (List.mem_singleton.2 rfl)
            exact ⟨_, main _ _ _ (bounds_l hC.1 hC.2 w), rep_cut hx (fun _ => hso) (by omega) (by omega) hn⟩
          · simp at h
        · rename_i k hh0
          cases hl.none; cases hh.lit; cases hm.none
          simp at h; obtain ⟨rfl, rfl⟩ := h
          have hC := hC _ (List.mem_singleton.2 rfl)
          refine ⟨_, main _ _ _ (bounds_h hC.1 (by omega) w), ?_⟩
          rw [at0]; exact rep_take hx (by omega) (by omega)
        · rename_i k l k' hh0
          cases hl.lit; cases hh.lit; cases hm.none
          split at h
          · rename_i hso
            simp at h; obtain ⟨rfl, rfl⟩ := h
            have hC := hC _ (List.mem_singleton.2 rfl)
            exact ⟨_, main _ _ _ (bounds_lh hC.1 hC.2.1 (by omega) w), rep_cut hx (fun _ => hso) (by omega) (by omega) (by omega)⟩
          · simp at h
        · rename_i k k'
          cases hl.none; cases hh.lit; cases hm.lit
          simp at h; obtain ⟨rfl, rfl⟩ := h
          refine ⟨_, main _ _ _ (bounds_hm (h := 0) (m := 0) (by omega) (by omega) (by omega) w), ?_⟩
          rw [show (0 : Int).toNat = 0 from rfl, at0]
          exact .sl0 _ _ _ _ (fun _ => rfl)
        · rename_i k hh0 k' mm _
          cases hl.none; cases hh.lit; cases hm.lit
          simp at h; obtain ⟨rfl, rfl⟩ := h
          have hC := hC _ (List.mem_singleton.2 rfl)
          refine ⟨_, main _ _ _ (bounds_hm hC.1 hC.2.1 (by omega) w), ?_⟩
          rw [at0]; exact rep_take hx (by omega) (by omega)
        · rename_i k l k' hh0 k'' mm
          cases hl.lit; cases hh.lit; cases hm.lit
          split at h
          · rename_i hso
            simp at h; obtain ⟨rfl, rfl⟩ := h
            have hC := hC _ (List.mem_singleton.2 rfl)
            exact ⟨_, main _ _ _ (bounds_lhm hC.1 hC.2.1 hC.2.2.1 (by omega) w), rep_cut hx (fun _ => hso) (by omega) (by omega) (by omega)⟩
          · simp at h
        · simp at h
    · simp at h
  · rename_i k l0 i n
    split at h
    · rename_i e _ _ _ ht
      split at h
      · simp at h
      · rename_i te hte
        split at h
        · simp at h
        · rename_i hkb
          have hk : k = te.size := Nat.eq_of_beq_eq_true hkb
          obtain ⟨a, cap, rfl, hn, hcut⟩ := msl_cut hx
          have hu := (htt.facts ht).under
          have hsz := run_sizeOf' (htt.facts hte)
          have main : ∀ (L H : Nat), L ≤ H → H ≤ n → (Instr.sliceBounds true n cap l' h' m').run P w = .ok (L, H, cap) w →
              ∃ u, (Instr.sliceAt t (.slice a n cap) l' h' m').run P w = .ok u w ∧ Rep g w (.msl k l0 (i + L) (H - L)) u := by
            intro L H hLH hHn hr
            refine ⟨_, ?_, hcut L H hLH hHn⟩
            simp only [Instr.sliceAt, Sem.run_bind, run_underlying hu, Result.andThen, Instr.slice, hr, hsz, hk]
            rfl
          split at h
          · cases hl.none; cases hh.none; cases hm.none
            simp at h; obtain ⟨rfl, rfl⟩ := h
            have := main 0 n (Nat.zero_le _) (Nat.le_refl _) (by rfl)
            simpa using this
          · cases hl.lit; cases hh.none; cases hm.none
            simp at h; obtain ⟨rfl, rfl⟩ := h
            have hC := hC _ (List.mem_singleton.2 rfl)
            exact main _ _ (by omega) (Nat.le_refl _) (bounds_l hC.1 hC.2 w)
          · cases hl.none; cases hh.lit; cases hm.none
            simp at h; obtain ⟨rfl, rfl⟩ := h
            have hC := hC _ (List.mem_singleton.2 rfl)
            have := main 0 _ (Nat.zero_le _) (by omega) (bounds_h hC.1 (by omega) w)
            simpa using this
          · cases hl.lit; cases hh.lit; cases hm.none
            simp at h; obtain ⟨rfl, rfl⟩ := h
            have hC := hC _ (List.mem_singleton.2 rfl)
            exact main _ _ (by omega) (by omega) (bounds_lh hC.1 hC.2.1 (by omega) w)
          · simp at h
    · simp at h
  · rename_i s
    cases hx.litE
    split at h
    · rename_i ht
      have hu := (htt.facts ht).under
      have main : ∀ (L H M : Nat), (Instr.sliceBounds false s.size s.size l' h' none).run P w = .ok (L, H, M) w → m' = none →
          (Instr.sliceAt t (.string s) l' h' m').run P w = .ok (.string (s.extract L H)) w := by
        rintro L H M hr rfl
        simp only [Instr.sliceAt, Sem.run_bind, run_underlying hu, Result.andThen, Instr.slice, Option.isSome_none, Bool.false_eq_true, if_false, Sem.run_pure, hr]
      split at h
      · cases hl.none; cases hh.none; cases hm.none
        simp at h; obtain ⟨rfl, rfl⟩ := h
        refine ⟨_, main 0 s.size s.size (by rfl) rfl, ?_⟩
        rw [show s.extract 0 s.size = s by simp]
        exact .lit _ rfl
      · cases hl.lit; cases hh.none; cases hm.none
        simp at h; obtain ⟨rfl, rfl⟩ := h
        have hC := hC _ (List.mem_singleton.2 rfl)
        exact ⟨_, main _ _ _ (bounds_l hC.1 hC.2 w) rfl, .lit _ rfl⟩
      · cases hl.none; cases hh.lit; cases hm.none
        simp at h; obtain ⟨rfl, rfl⟩ := h
        have hC := hC _ (List.mem_singleton.2 rfl)
        exact ⟨_, main _ _ _ (bounds_h hC.1 hC.2 w) rfl, .lit _ rfl⟩
      · cases hl.lit; cases hh.lit; cases hm.none
        simp at h; obtain ⟨rfl, rfl⟩ := h
        have hC := hC _ (List.mem_singleton.2 rfl)
        exact ⟨_, main _ _ _ (bounds_lh hC.1 hC.2.1 hC.2.2 w) rfl, .lit _ rfl⟩
      · simp at h
    · simp at h
  · simp at h

end Go.Abs
