/- Calls that are reckoned once, by themselves, stand for those calls. Conditions: no function is runtime.NumGoroutine; mixed orders are followed. -/
import Derived.Test.YtjblkeofjkdpbaaGreatDoorEngU
import Derived.KernelRfl
namespace Go.Proofs.YtjblkeofjkdpbaaGreatDoor.Eng
open Go Go.RowKit
set_option linter.unusedVariables false
set_option linter.unusedSimpArgs false
/-- What is told of a call holds wherever it may be looked up. -/
def GoodO (P : Program) (o : Orc) : Prop := ∀ args g av g', orcRun o args g = some (av, g') → Mono g g' ∧ ∀ N F w0 ι w (vs : List Value), g'.n ≤ N → FOK F g' → Sat N F g ι w0 w → g.thr ≤ g.n → VRL ι args vs → Ran P ι w vs (Post N F w0 av g g' ι w) (.fn o.f)
theorem preT_mem : ∀ {pre : List (Nat × Row)} {H : T Row}, preT pre = some H → ∀ k l, H.get k = some l → (k, l) ∈ pre
  | [], H, h, k, l, hl => by simp [preT] at h; subst h; rw [T.get_nil] at hl; cases hl
  | (j, r) :: pre, H, h, k, l, hl => by
    simp only [preT] at h
    split at h
    · rename_i H1 h1
      rw [T.set_get _ _ _ _ _ h k] at hl
      split at hl
      · rename_i e; cases hl; rw [e]; exact List.mem_cons_self
      · exact List.mem_cons_of_mem _ (preT_mem h1 k l hl)
    · cases h
theorem preN_mem : ∀ {pre : List (Nat × Row)} {k : Nat} {l : Row}, (k, l) ∈ pre → k ∈ preN pre
  | (j, r) :: pre, k, l, h => by
    rcases List.mem_cons.1 h with e | h
    · cases e; simp [preN]
    · simp [preN, preN_mem h]
theorem preOK_all {n : Nat} {H : T Row} : ∀ {pre : List (Nat × Row)}, preOK n H pre = true → ∀ k r, (k, r) ∈ pre → ∃ r2, H.get k = some r2 ∧ leRow n [] r r2 = true
  | [], _, k, r, h => by cases h
  | (j, q) :: pre, ho, k, r, h => by
    simp only [preOK] at ho
    split at ho
    · rename_i r2 hr2
      split at ho
      · rename_i hle
        rcases List.mem_cons.1 h with e | h
        · cases e; exact ⟨r2, hr2, hle⟩
        · exact preOK_all ho k r h
      · cases ho
    · cases ho
theorem wrO_mem {n k : Nat} : ∀ {us : List (Nat × Option Row)}, k ∈ wrO us n → k ∈ keysU us
  | [], h => by cases h
  | (j, o) :: us, h => by
    simp only [wrO] at h
    split at h
    · rcases List.mem_cons.1 h with rfl | h
      · simp [keysU]
      · simp [keysU, wrO_mem h]
    · simp [keysU, wrO_mem h]
theorem fsts_self : ∀ l : List Nat, fsts (selfP l) = l
  | [] => rfl
  | k :: l => by simp [selfP, fsts, fsts_self l]
theorem Rn_same (n : Nat) (ι : Io) : Rn n [] ι ι := fun k q e => by
  unfold nameR at e
  split at e
  · cases e; rfl
  · cases e
theorem goodO_of {P : Program} {pr : FuncId → Option (List AV → G → Option (AV × G))} {nd : FuncId → Option Bool} {lf d : Nat} {o : Orc} (hc : CallOK P (evFn P pr nd lf d)) (he : orcEv P pr nd lf d o = true) : GoodO P o := by
  intro args g av g' h
  unfold orcEv at he
  split at he
  · cases he
  · rename_i H0 hH0
    split at he
    · cases he
    · rename_i av1 g1 hev
      split at he
      · rename_i hcov hkeys hpre hrd hwr
        obtain ⟨m1, k1⟩ := hc _ _ _ _ _ hev
        unfold orcRun at h
        split at h
        rename_i H n thr rd wr
        split at h
        · cases h
        · rename_i hn
          have hn := beq_tt hn
          split at h
          · rename_i hargs hpo
            split at h
            · rename_i HC hHC
              have hgC : av = o.av ∧ g' = ⟨HC, o.nC, thr, below? thr (preN o.pre) rd, below? thr (wrO o.us n) wr⟩ := by
                split at h
                · rename_i hz
                  obtain rfl : thr = 0 := beq_tt hz
                  cases h
                  rw [below_zero, below_zero]
                  exact ⟨rfl, rfl⟩
                · cases h
                  exact ⟨rfl, rfl⟩
              obtain ⟨rfl, hgC⟩ := hgC
              clear h
              subst hn
              have hcov0 := hcov
              unfold covers at hcov
              simp only [Bool.and_eq_true] at hcov
              obtain ⟨c1, c2, c3, c4, c5, c6, c7, c8⟩ := hcov
              have c1 : g1.n = o.nC := beq_tt c1
              have c3 := inN_all c3
              have hpre := inN_all hpre
              have hrd := subN_all hrd
              have hwr := subN_all hwr
              have hkeysA := keysOK_all hkeys
              have hget := setU_get hHC
              have hn1 : o.n ≤ o.nC := by rw [← c1]; exact m1.n
              have mono : Mono ⟨H, o.n, thr, rd, wr⟩ g' := by
                subst hgC
                refine ⟨hn1, rfl, fun k hk => below?_mem.2 (.inl hk), fun k hk => below?_mem.2 (.inl hk), fun k hk => ?_, fun k hk => ?_, fun k h hw => ?_, fun ht hd k l hl => ?_⟩
                · rcases below?_mem.1 hk with e | ⟨_, e⟩
                  · exact .inl e
                  · exact .inr e
                · rcases below?_mem.1 hk with e | ⟨e, e2⟩
                  · exact .inl e
                  · exact .inr (below?_mem.2 (.inr ⟨hwr k e, e2⟩))
                · show HC.get k = H.get k
                  rw [hget k]
                  split
                  · rename_i y hy
                    obtain ⟨hy1, hy2⟩ := find_key hy
                    rcases hkeysA k (keysU_mem.2 ⟨y, hy1, hy2⟩) with e | e
                    · have : k < o.n := h
                      omega
                    · exfalso
                      refine hw ?_
                      by_cases e2 : k < thr
                      · exact .inl (below?_mem.2 (.inr ⟨e, e2⟩))
                      · exact .inr (by show thr ≤ k; omega)
                  · rfl
                · change HC.get k = _ at hl
                  show k < o.nC
                  rw [hget k] at hl
                  split at hl
                  · rename_i y hy
                    obtain ⟨hy1, hy2⟩ := find_key hy
                    obtain ⟨q, r2, e1, e2, e3⟩ := rowsOK_all c6 k l (by rw [← hl, ← hy2]; exact hy1)
                    unfold nameR at e1
                    split at e1
                    · rename_i h
                      have : k < o.n := by simpa [Nat.blt_eq] using h
                      omega
                    · exact (c3 k (assocN_mem e1).1).2
                  · have : k < o.n := hd k l hl
                    omega
              refine ⟨mono, fun N F w0 ι w vs hN hF hs hthr hv => ?_⟩
              have hthr : thr ≤ o.n := hthr
              have hN1 : o.nC ≤ N := by subst hgC; exact hN
              have hsO : Sat N F ⟨H0, o.n, o.n, [], []⟩ ι w0 w := by
                refine ⟨hs.inj, hs.bnd, hs.un, fun k l hl => (hpre k (preN_mem (preT_mem hH0 k l hl))).2, fun k l hFk hl => ?_, hs.bel⟩
                obtain ⟨r2, e1, e2⟩ := preOK_all hpo k l (preT_mem hH0 k l hl)
                obtain ⟨b, m, hb1, hb2⟩ := hs.rel k r2 hFk e1
                exact ⟨b, m, hb1, leRow_BX (Rn_same o.n ι) e2 hb2⟩
              have hall : ∀ k ∈ g1.rd, F k := fun k hk => by
                subst hgC
                by_cases e : k < thr
                · exact hF.1 k (below?_mem.2 (.inr ⟨hrd k hk, e⟩))
                · exact hF.2.2 k (by show thr ≤ k; omega)
              have hF1 : FOK F g1 := by
                refine ⟨hall, fun k hk => ?_, fun k hk => ?_⟩
                · rcases m1.wrd k hk with e | e
                  · cases e
                  · exact hall k e
                · have : g1.thr = o.n := m1.thr
                  subst hgC
                  exact hF.2.2 k (by show thr ≤ k; omega)
              have hcall : CallsIn Fence.wide 0 P o.f vs.toArray w (Post N F w0 av1 ⟨H0, o.n, o.n, [], []⟩ g1 ι w) := k1 N F w0 ι w vs (by rw [c1]; exact hN1) hF1 hsO (Nat.le_refl _) (leL_VRL (Rn_same o.n ι) _ _ _ hargs hv)
              refine CallsIn.mono (F := Fence.wide) hcall ?_
              rintro e w' ⟨ι1, v, rfl, hv1, st, sat⟩
              obtain ⟨ι', r1, r2, r3, r4⟩ := cover_core (g := ⟨H, o.n, thr, rd, wr⟩) (gC := g') (gO := ⟨H0, o.n, o.n, [], []⟩) rfl hgC hcov0 hkeys hHC ⟨rfl, rfl⟩ m1 hs hF hN1 hthr st sat
              refine ⟨ι', v, rfl, ?_, r3, r4⟩
              obtain ⟨b, hb1, hb2⟩ := (leL_get c5).2 0 o.av rfl
              rw [opndsT_get 1 0 0 (by omega)] at hb1
              cases hb1
              exact leA_VR r1 _ _ _ hb2 hv1
            · cases h
          · cases h
      · cases he
theorem tryO_mem {f : FuncId} {args : List AV} {g : G} {r : AV × G} : ∀ {os : List Orc}, tryO f args g os = some r → ∃ o ∈ os, o.f = f ∧ orcRun o args g = some r
  | [], h => by simp [tryO] at h
  | o :: os, h => by
    simp only [tryO] at h
    split at h
    · rename_i hf
      split at h
      · rename_i r' hr
        cases h
        exact ⟨o, List.mem_cons_self, beq_tt hf, hr⟩
      · obtain ⟨q, hq, e⟩ := tryO_mem h
        exact ⟨q, List.mem_cons_of_mem _ hq, e⟩
    · obtain ⟨q, hq, e⟩ := tryO_mem h
      exact ⟨q, List.mem_cons_of_mem _ hq, e⟩
theorem prO_ok {P : Program} {pr : FuncId → Option (List AV → G → Option (AV × G))} {os : List Orc} (hpr : PrimOK P pr) (ho : ∀ o ∈ os, GoodO P o) : PrimOK P (prO os pr) := by
  intro f p args g av g' hp h
  unfold prO at hp
  cases hp
  dsimp only at h
  split at h
  · rename_i r hr
    cases h
    cases hpf : pr f with
    | none => rw [hpf] at hr; simp [tryP] at hr
    | some p => rw [hpf] at hr; exact hpr f p args g av g' hpf hr
  · obtain ⟨o, ho1, rfl, hr⟩ := tryO_mem h
    exact ho o ho1 args g av g' hr
/-- All calls so far. -/
def AllO (os : List Orc) : Prop := ∀ o ∈ os, GoodO Tryz.prog o
theorem allO_nil : AllO [] := fun o h => by cases h
theorem allO_add {o : Orc} {os : List Orc} (h : GoodO Tryz.prog o) (hs : AllO os) : AllO (o :: os) := fun q hq => by
  rcases List.mem_cons.1 hq with rfl | hq
  · exact h
  · exact hs q hq
theorem hng : noNumG Tryz.prog = true := by kernel_rfl
theorem hmix : Tryz.prog.follows .mixedOrders = true := by kernel_rfl
theorem good_of {o : Orc} {os : List Orc} {lf d : Nat} (h : AllO os) (he : orcEv Tryz.prog (prO os prT) ndT lf d o = true) : GoodO Tryz.prog o := goodO_of (evFn_ok (prO_ok prT_ok h) hng hmix lf d) he
/-- Short names for the texts of rows. -/
@[reducible] def u (n : Nat) : AV := .v (.int .u64 (.ofNat n))
@[reducible] def i (n : Nat) : AV := .v (.int .i64 (.ofNat n))
@[reducible] def tt : AV := .v (.bool true)
@[reducible] def ff : AV := .v (.bool false)
@[reducible] def pn : AV := .v (.pointer none)
@[reducible] def sn : AV := .v (.slice none 0 0)
@[reducible] def p (k o : Nat) : AV := .ptr k o
@[reducible] def s (k n z : Nat) : AV := .sl k 0 n none z
@[reducible] def sc (k n z : Nat) : AV := .sl k 0 n (some n) z
end Go.Proofs.YtjblkeofjkdpbaaGreatDoor.Eng
