/- Each operation of the evaluator is the model's: addresses, slices, parts, rows. No condition. -/
import Derived.Test.YtjblkeofjkdpbaaGreatDoorEngC
namespace Go.Proofs.YtjblkeofjkdpbaaGreatDoor.Eng
open Go Go.RowKit
set_option linter.unusedVariables false
set_option linter.unusedSimpArgs false
section
variable {P : Program} {N : Nat} {F : Nat → Prop} {g g' : G} {ι : Io} {w0 w : World}
theorem fieldAddr_ok {s : TypeId} {x av : AV} {f : Nat} {v : Value} (h : evFieldAddr P s x f = some av) (hx : VR ι x v) (hs : Sat N F g ι w0 w) : Fin P N F w0 (Instr.fieldAt s v f) av g g ι w := by
  unfold evFieldAddr at h
  split at h
  · rename_i fields k off hu
    split at h
    · rename_i fd hf
      split at h
      · rename_i n hn
        cases h
        rw [VR] at hx
        obtain ⟨b, rfl, hk⟩ := hx
        refine Fin.pure hs (v := .pointer (some ⟨b, off + fd.offset, none⟩)) ?_ (by rw [VR]; exact ⟨b, rfl, hk⟩)
        simp [Instr.fieldAt, Sem.run_bind, run_underlying hu, hf, Instr.sureAddr, fieldPlace, run_sz hn, Addr.add_mid]
      · cases h
    · cases h
  · cases h
theorem indexAddr_ok {t : TypeId} {x i av : AV} {vx vi : Value} (h : evIndexAddr P t x i = some av) (hx : VR ι x vx) (hi : VR ι i vi) (hs : Sat N F g ι w0 w) : Fin P N F w0 (Instr.indexAt t vx vi) av g g ι w := by
  unfold evIndexAddr at h
  split at h
  · rename_i len elem k off ki j hu
    split at h
    · rename_i size hlt hn
      cases h
      rw [VR] at hx
      rw [VR] at hi
      obtain ⟨b, rfl, hk⟩ := hx
      subst hi
      have hj : j < len := by simpa [Nat.blt_eq] using hlt
      refine Fin.pure hs (v := .pointer (some ⟨b, off + j * size, none⟩)) ?_ (by rw [VR]; exact ⟨b, rfl, hk⟩)
      have e1 : (Int.ofNat j) < (len : Int) := by simp; omega
      have e2 : 0 ≤ Int.ofNat j := Int.natCast_nonneg j
      simp [Instr.indexAt, Sem.run_bind, asIntOf, run_underlying hu, Instr.sureAddr, hj, run_sz hn, Addr.add_mid]
    · cases h
  · rename_i elem k off len cap sz ki j hu
    split at h
    · rename_i size hlt hn
      split at h
      · rename_i hsz
        cases h
        rw [VR] at hx
        rw [VR] at hi
        obtain ⟨b, c, rfl, hlc, hcap, hk⟩ := hx
        subst hi
        have hj : j < len := by simpa [Nat.blt_eq] using hlt
        refine Fin.pure hs (v := .pointer (some ⟨b, off + j * size, none⟩)) ?_ (by
          rw [VR]
          refine ⟨b, rfl, ?_⟩
          rcases hk with hk | ⟨m, hk, _⟩
          · exact .inl hk
          · exact .inr ⟨m, hk⟩)
        simp [Instr.indexAt, Sem.run_bind, asIntOf, run_underlying hu, Instr.sureAddr, hj, run_sz hn, Addr.add_mid]
      · cases h
    · cases h
  · cases h
/-! ### slices -/
def OVR (ι : Io) : Option AV → Option Value → Prop
  | none, v => v = none
  | some a, v => ∃ x, v = some x ∧ VR ι a x
theorem bound_run {x : AV} {v : Value} {y n y' : Nat} (h : bound? x y = some n) (hx : VR ι x v) (hy : y ≤ y') (code : BoundsCode) : n ≤ y ∧ (Instr.sliceBound v y' code).run P w = .ok n w := by
  unfold bound? at h
  split at h
  · rename_i k m
    split at h
    · rename_i hm
      cases h
      rw [VR] at hx
      subst hx
      have hm' : n ≤ y := Nat.le_of_ble_eq_true hm
      refine ⟨hm', ?_⟩
      have : n ≤ y' := by omega
      simp [Instr.sliceBound, Sem.run_bind, asIntOf, this]
    · cases h
  · cases h
theorem bounds_run {isS : Bool} {lo hi mx : Option AV} {vlo vhi vmx : Option Value} {len cap q m m' h l : Nat} (hlo : OVR ι lo vlo) (hhi : OVR ι hi vhi) (hmx : OVR ι mx vmx) (hno : ¬ (hi = none ∧ ∃ a, mx = some a))
    (hm : (mx = none ∧ m' = cap) ∨ (∃ a, mx = some a ∧ bound? a q = some m' ∧ q ≤ cap)) (hmm : m ≤ m') (hh : obound? hi m len = some h) (hl : obound? lo h 0 = some l) :
    (Instr.sliceBounds isS len cap vlo vhi vmx).run P w = .ok (l, h, m') w ∧ l ≤ h ∧ (∀ a, hi = some a → h ≤ m) := by
  have hlrun : l ≤ h ∧ ((vlo = none ∧ l = 0) ∨ ∃ v, vlo = some v ∧ ∀ code, (Instr.sliceBound v h code).run P w = .ok l w) := by
    cases lo with
    | none =>
      rw [OVR] at hlo
      subst hlo
      simp [obound?] at hl
      subst hl
      exact ⟨Nat.zero_le _, .inl ⟨rfl, rfl⟩⟩
    | some a =>
      rw [OVR] at hlo
      obtain ⟨x, rfl, hx⟩ := hlo
      exact ⟨(bound_run (P := P) (w := w) (y' := h) hl hx (Nat.le_refl _) .index).1, .inr ⟨x, rfl, fun code => (bound_run (P := P) (w := w) (y' := h) hl hx (Nat.le_refl _) code).2⟩⟩
  obtain ⟨hlh, hlrun⟩ := hlrun
  rcases hm with ⟨rfl, rfl⟩ | ⟨a, rfl, hm, hq⟩
  · rw [OVR] at hmx
    subst hmx
    cases hi with
    | none =>
      rw [OVR] at hhi
      subst hhi
      simp [obound?] at hh
      subst hh
      refine ⟨?_, hlh, fun a e => by cases e⟩
      rcases hlrun with ⟨rfl, rfl⟩ | ⟨v, rfl, hv⟩
      · simp only [Instr.sliceBounds, Sem.run_bind, Sem.run_pure, Result.andThen_ok, Option.isSome_none, Bool.false_eq_true, if_false]
      · simp only [Instr.sliceBounds, Sem.run_bind, Sem.run_pure, Result.andThen_ok, hv, Option.isSome_none, Bool.false_eq_true, if_false]
    | some a =>
      rw [OVR] at hhi
      obtain ⟨x, rfl, hx⟩ := hhi
      obtain ⟨h1, h2⟩ := bound_run (P := P) (w := w) (y' := m') hh hx hmm (if isS = true then .sliceAcap else .sliceAlen)
      refine ⟨?_, hlh, fun b e => h1⟩
      rcases hlrun with ⟨rfl, rfl⟩ | ⟨v, rfl, hv⟩
      · simp only [Instr.sliceBounds, Sem.run_bind, Sem.run_pure, Result.andThen_ok, Option.isSome_none, Bool.false_eq_true, if_false, h2]
      · simp only [Instr.sliceBounds, Sem.run_bind, Sem.run_pure, Result.andThen_ok, hv, Option.isSome_none, Bool.false_eq_true, if_false, h2]
  · rw [OVR] at hmx
    obtain ⟨xm, rfl, hxm⟩ := hmx
    cases hi with
    | none => exact absurd ⟨rfl, a, rfl⟩ hno
    | some b =>
      rw [OVR] at hhi
      obtain ⟨x, rfl, hx⟩ := hhi
      obtain ⟨_, h0⟩ := bound_run (P := P) (w := w) (y' := cap) hm hxm hq (if isS = true then .slice3Acap else .slice3Alen)
      obtain ⟨h1, h2⟩ := bound_run (P := P) (w := w) (y' := m') hh hx hmm .slice3B
      refine ⟨?_, hlh, fun b e => h1⟩
      rcases hlrun with ⟨rfl, rfl⟩ | ⟨v, rfl, hv⟩
      · simp only [Instr.sliceBounds, Sem.run_bind, Sem.run_pure, Result.andThen_ok, Option.isSome_some, if_true, h0, h2]
      · simp only [Instr.sliceBounds, Sem.run_bind, Sem.run_pure, Result.andThen_ok, hv, Option.isSome_some, if_true, h0, h2]
theorem OVR_v {a : Option AV} {v : Option Value} (h : OVR ι a v) : (a = none → v = none) ∧ ∀ x, a = some (.v x) → v = some x := by
  cases a with
  | none => rw [OVR] at h; exact ⟨fun _ => h, fun x e => by cases e⟩
  | some a =>
    rw [OVR] at h
    obtain ⟨x, rfl, hx⟩ := h
    refine ⟨fun e => (by cases e), fun y e => ?_⟩
    cases e
    rw [VR] at hx
    rw [hx]
theorem obound_mx {mx : Option AV} {n m : Nat} (h : obound? mx n n = some m) : (mx = none ∧ m = n) ∨ (∃ a, mx = some a ∧ bound? a n = some m ∧ n ≤ n) := by
  cases mx with
  | none => simp [obound?] at h; exact .inl ⟨rfl, h.symm⟩
  | some a => exact .inr ⟨a, rfl, h, Nat.le_refl _⟩
theorem mx_le {mx : Option AV} {n m : Nat} (h : obound? mx n n = some m) : m ≤ n := by
  cases mx with
  | none => simp [obound?] at h; omega
  | some a =>
    simp only [obound?, bound?] at h
    split at h
    · split at h
      · rename_i hm; cases h; exact Nat.le_of_ble_eq_true hm
      · cases h
    · cases h
theorem slice_ok {t : TypeId} {x av : AV} {lo hi mx : Option AV} {vx : Value} {vlo vhi vmx : Option Value} (h : evSlice P t x lo hi mx g = some (.val av g')) (hx : VR ι x vx) (hlo : OVR ι lo vlo) (hhi : OVR ι hi vhi) (hmx : OVR ι mx vmx)
    (hs : Sat N F g ι w0 w) : Fin P N F w0 (Instr.sliceAt t vx vlo vhi vmx) av g g' ι w := by
  have hno : ¬ (hi = none ∧ ∃ a, mx = some a) := by
    rintro ⟨rfl, a, rfl⟩
    simp [evSlice] at h
  replace h : evSliceA P t x lo hi mx g = some (.val av g') := by
    unfold evSlice at h
    split at h
    · cases h
    · exact h
  unfold evSliceA at h
  split at h
  · rename_i n elem k off hu
    rw [VR] at hx
    obtain ⟨b, rfl, hk⟩ := hx
    split at h
    · rename_i size m hn hm
      split at h
      · rename_i hh hhe
        split at h
        · rename_i l hle
          obtain ⟨r1, r2, r3⟩ := bounds_run (P := P) (w := w) (isS := false) (len := n) (cap := n) hlo hhi hmx hno (obound_mx hm) (Nat.le_refl m) hhe hle
          have hmn := mx_le hm
          have hhm : hh ≤ m := by
            cases hi with
            | none =>
              have : mx = none := by
                cases mx with
                | none => rfl
                | some a => exact absurd ⟨rfl, a, rfl⟩ hno
              subst this
              simp [obound?] at hhe hm
              omega
            | some a => exact r3 a rfl
          split at h
          · rename_i hml
            cases h
            have hml' : m = l := beq_tt hml
            refine Fin.pure hs (v := .slice (some ⟨b, off, none⟩) (hh - l) (m - l)) ?_ (by
              rw [VR]
              refine ⟨b, m - l, rfl, by omega, fun c' e => by cases e; rfl, ?_⟩
              rcases hk with hk | ⟨q, hk⟩
              · exact .inl hk
              · exact .inr ⟨q, hk, fun e => by cases e⟩)
            simp [Instr.sliceAt, Sem.run_bind, run_underlying hu, Instr.sureAddr, r1, run_sz hn, hml']
          · rename_i hml
            cases h
            have hml' : ¬ m = l := fun e => by rw [e] at hml; simp at hml
            refine Fin.pure hs (v := .slice (some ⟨b, off + l * size, none⟩) (hh - l) (m - l)) ?_ (by
              rw [VR]
              refine ⟨b, m - l, rfl, by omega, fun c' e => by cases e; rfl, ?_⟩
              rcases hk with hk | ⟨q, hk⟩
              · exact .inl hk
              · exact .inr ⟨q, hk, fun e => by cases e⟩)
            simp [Instr.sliceAt, Sem.run_bind, run_underlying hu, Instr.sureAddr, r1, run_sz hn, hml', Addr.add_mid]
        · cases h
      · cases h
    · cases h
  · rename_i elem k off len cap sz hu
    rw [VR] at hx
    obtain ⟨b, c, rfl, hlc, hcap, hk⟩ := hx
    split at h
    · rename_i size hn
      split at h
      · rename_i hsz
        obtain rfl : size = sz := beq_tt hsz
        split at h
        · rename_i c'
          obtain rfl : c = c' := hcap c' rfl
          split at h
          · rename_i m hm
            split at h
            · rename_i hh hhe
              split at h
              · rename_i l hle
                obtain ⟨r1, r2, r3⟩ := bounds_run (P := P) (w := w) (isS := true) (len := len) (cap := c) hlo hhi hmx hno (obound_mx hm) (Nat.le_refl m) hhe hle
                have hmn := mx_le hm
                have hhm : hh ≤ m := by
                  cases hi with
                  | none =>
                    have : mx = none := by
                      cases mx with
                      | none => rfl
                      | some a => exact absurd ⟨rfl, a, rfl⟩ hno
                    subst this
                    simp [obound?] at hhe hm
                    omega
                  | some a => exact r3 a rfl
                split at h
                · rename_i hml
                  cases h
                  have hml' : m = l := beq_tt hml
                  refine Fin.pure hs (v := .slice (some ⟨b, off, none⟩) (hh - l) (m - l)) ?_ (by
                    rw [VR]
                    refine ⟨b, m - l, rfl, by omega, fun c' e => by cases e; rfl, ?_⟩
                    rcases hk with hk | ⟨q, hk, _⟩
                    · exact .inl hk
                    · exact .inr ⟨q, hk, fun e => by cases e⟩)
                  simp [Instr.sliceAt, Instr.slice, Sem.run_bind, run_underlying hu, r1, run_sz hn, hml']
                · rename_i hml
                  cases h
                  have hml' : ¬ m = l := fun e => by rw [e] at hml; simp at hml
                  refine Fin.pure hs (v := .slice (some ⟨b, off + l * size, none⟩) (hh - l) (m - l)) ?_ (by
                    rw [VR]
                    refine ⟨b, m - l, rfl, by omega, fun c' e => by cases e; rfl, ?_⟩
                    rcases hk with hk | ⟨q, hk, _⟩
                    · exact .inl hk
                    · exact .inr ⟨q, hk, fun e => by cases e⟩)
                  simp [Instr.sliceAt, Instr.slice, Sem.run_bind, run_underlying hu, r1, run_sz hn, hml', Addr.add_mid]
              · cases h
            · cases h
          · cases h
        · split at h
          · rename_i mxa
            split at h
            · rename_i m hm
              split at h
              · rename_i hh hhe
                split at h
                · rename_i l hle
                  obtain ⟨r1, r2, r3⟩ := bounds_run (P := P) (w := w) (isS := true) (len := len) (cap := c) hlo hhi hmx hno (.inr ⟨mxa, rfl, hm, hlc⟩) (Nat.le_refl m) hhe hle
                  have hhm : hh ≤ m := by
                    cases hi with
                    | none => exact absurd ⟨rfl, mxa, rfl⟩ hno
                    | some a => exact r3 a rfl
                  split at h
                  · rename_i hml
                    cases h
                    have hml' : m = l := beq_tt hml
                    refine Fin.pure hs (v := .slice (some ⟨b, off, none⟩) (hh - l) (m - l)) ?_ (by
                      rw [VR]
                      refine ⟨b, m - l, rfl, by omega, fun c' e => by cases e; rfl, ?_⟩
                      rcases hk with hk | ⟨q, hk, _⟩
                      · exact .inl hk
                      · exact .inr ⟨q, hk, fun e => by cases e⟩)
                    simp [Instr.sliceAt, Instr.slice, Sem.run_bind, run_underlying hu, r1, run_sz hn, hml']
                  · rename_i hml
                    cases h
                    have hml' : ¬ m = l := fun e => by rw [e] at hml; simp at hml
                    refine Fin.pure hs (v := .slice (some ⟨b, off + l * size, none⟩) (hh - l) (m - l)) ?_ (by
                      rw [VR]
                      refine ⟨b, m - l, rfl, by omega, fun c' e => by cases e; rfl, ?_⟩
                      rcases hk with hk | ⟨q, hk, _⟩
                      · exact .inl hk
                      · exact .inr ⟨q, hk, fun e => by cases e⟩)
                    simp [Instr.sliceAt, Instr.slice, Sem.run_bind, run_underlying hu, r1, run_sz hn, hml', Addr.add_mid]
                · cases h
              · cases h
            · cases h
          · split at h
            · rename_i hh hhe
              split at h
              · rename_i l hle
                obtain ⟨r1, r2, r3⟩ := bounds_run (P := P) (w := w) (isS := true) (len := len) (cap := c) (q := c) hlo hhi hmx hno (.inl ⟨rfl, rfl⟩) hlc hhe hle
                have hhm : hh ≤ len := by
                  cases hi with
                  | none => simp [obound?] at hhe; omega
                  | some a => exact r3 a rfl
                split at h
                · rename_i hlt
                  cases h
                  have hlt' : l < len := by simpa [Nat.blt_eq] using hlt
                  have hml' : ¬ c = l := by omega
                  refine Fin.pure hs (v := .slice (some ⟨b, off + l * size, none⟩) (hh - l) (c - l)) ?_ (by
                    rw [VR]
                    refine ⟨b, c - l, rfl, by omega, (fun c' e => by cases e), ?_⟩
                    rcases hk with hk | ⟨q, hk, hq⟩
                    · exact .inl hk
                    · refine .inr ⟨q, hk, fun _ => ?_⟩
                      have := hq rfl
                      have e : l * size + (c - l) * size = c * size := by rw [← Nat.add_mul]; congr 1; omega
                      omega)
                  simp [Instr.sliceAt, Instr.slice, Sem.run_bind, run_underlying hu, r1, run_sz hn, hml', Addr.add_mid]
                · rename_i hlt hl0
                  cases h
                  obtain rfl : l = 0 := beq_tt hl0
                  refine Fin.pure hs (v := .slice (some ⟨b, off, none⟩) hh c) ?_ (by
                    rw [VR]
                    refine ⟨b, c, rfl, by omega, (fun c' e => by cases e), ?_⟩
                    rcases hk with hk | ⟨q, hk, hq⟩
                    · exact .inl hk
                    · exact .inr ⟨q, hk, fun _ => hq rfl⟩)
                  simp [Instr.sliceAt, Instr.slice, Sem.run_bind, run_underlying hu, r1, run_sz hn, Addr.add_mid]
                · rename_i hlt hl0
                  cases h
                  have hll : len ≤ l := by
                    rcases Nat.lt_or_ge l len with e | e
                    · rw [show Nat.blt l len = true by simpa [Nat.blt_eq] using e] at hlt; cases hlt
                    · exact e
                  refine Fin.pure hs (v := .slice (some (if c = l then (⟨b, off, none⟩ : Addr) else (⟨b, off, none⟩ : Addr).add (l * size))) (hh - l) (c - l)) ?_ (by
                    rw [VR]
                    exact ⟨(if c = l then (⟨b, off, none⟩ : Addr) else (⟨b, off, none⟩ : Addr).add (l * size)), c - l, by rw [show hh - l = 0 by omega]⟩)
                  simp [Instr.sliceAt, Instr.slice, Sem.run_bind, run_underlying hu, r1, run_sz hn]
                  split <;> rfl
              · cases h
            · cases h
      · cases h
    · cases h
  · rename_i x' _ _
    rw [VR] at hx
    subst hx
    split at h
    · obtain rfl := (OVR_v hlo).1 rfl
      obtain rfl := (OVR_v hhi).1 rfl
      obtain rfl := (OVR_v hmx).1 rfl
      exact plain_ok h hs
    · obtain rfl := (OVR_v hlo).2 _ rfl
      obtain rfl := (OVR_v hhi).1 rfl
      obtain rfl := (OVR_v hmx).1 rfl
      exact plain_ok h hs
    · obtain rfl := (OVR_v hlo).1 rfl
      obtain rfl := (OVR_v hhi).2 _ rfl
      obtain rfl := (OVR_v hmx).1 rfl
      exact plain_ok h hs
    · obtain rfl := (OVR_v hlo).2 _ rfl
      obtain rfl := (OVR_v hhi).2 _ rfl
      obtain rfl := (OVR_v hmx).1 rfl
      exact plain_ok h hs
    · obtain rfl := (OVR_v hlo).2 _ rfl
      obtain rfl := (OVR_v hhi).2 _ rfl
      obtain rfl := (OVR_v hmx).2 _ rfl
      exact plain_ok h hs
    · obtain rfl := (OVR_v hlo).1 rfl
      obtain rfl := (OVR_v hhi).2 _ rfl
      obtain rfl := (OVR_v hmx).2 _ rfl
      exact plain_ok h hs
    · cases h
  · cases h
end
end Go.Proofs.YtjblkeofjkdpbaaGreatDoor.Eng
