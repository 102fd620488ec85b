/- Package path: Last, where there is one. Condition: a way with a last name. -/
import Derived.Test.YtfdngdnnjmcigaaDoorPath4
namespace Go.Proofs.YtfdngdnnjmcigaaDoor
open Go.RowKit
set_option linter.unusedVariables false
set_option linter.unusedSimpArgs false
theorem RdS.init {w : World} {A : Option Addr} {l : List ByteArray} (h : RdS w A l) : RdS w A l.dropLast := by
  rcases h with h | ⟨b, o, rfl, hlt, hc⟩
  · exact .inl (by rw [h]; rfl)
  · refine .inr ⟨b, o, rfl, hlt, fun j x hj => hc j x ?_⟩
    rw [List.getElem?_dropLast] at hj
    split at hj
    · exact hj
    · simp at hj
set_option maxHeartbeats 2000000 in
set_option maxRecDepth 100000 in
theorem pLast_yes (s : ByteArray) (P : List ByteArray) (x : ByteArray) (w : World) (hE : splitE s = 0) (hL : splitL s = P) (hx : P[P.length - 1]? = some x) (hx2 : x.toList ≠ [46, 46]) (hdot : s.toList ≠ [46]) (hsuf : Lib.hasSuffix s.data.toList [47, 46] = false) (hs : s.size ≤ 400) :
    Calls Tryd.prog 13 #[.string s] w fun e w' => ∃ A c, e = .returned (.tuple #[.slice A (P.length - 1) c, .string x, .int .i64 0]) ∧ RdS w' A P ∧ Below w.heap.size w w' := by
  have KSP := Lib.hid (fun W => by have h := pSplitP_any s W; rw [hE, hL] at h; exact h)
  have KSF := Lib.hid (fun W => by have h := pSuffix_any s ⟨#[47, 46]⟩ W (by omega); rw [show Lib.hasSuffix s.data.toList (⟨#[47, 46]⟩ : ByteArray).data.toList = false from hsuf] at h; exact h)
  have hlen := splitL_len s
  rw [hL] at hlen
  have hP : 0 < P.length := by
    rcases Nat.lt_or_ge 0 P.length with h | h
    · exact h
    · rw [List.getElem?_eq_none (by omega)] at hx; simp at hx
  have hdotb : (s.toList == [46]) = false := beq_eq_false_iff_ne.2 hdot
  have hx2b : (x.toList == [46, 46]) = false := beq_eq_false_iff_ne.2 hx2
  have HX := Lib.hid hx
  clear hE hL hsuf hx
  go_enter Tryd.func13, Tryd.ntmps13
  go_wp2_with fail
  refine (KSP.out _).mono ?_
  rintro e w1 ⟨v, rfl, hown, hb1⟩
  obtain ⟨A, c, rfl, hrd, hnc, _⟩ := OwnS.form hown
  have HRD := Lib.hid hrd
  have HB1 := Lib.hid hb1
  obtain ⟨b, off, hA, hbl, hcs⟩ : ∃ b o, A = some ⟨b, o, none⟩ ∧ b < w1.heap.size ∧ ∀ j x, P[j]? = some x → w1.cell? ⟨b, o + j, none⟩ = some (.string x) := by
    rcases HRD.out with h | h
    · rw [h] at hP; simp at hP
    · exact h
  subst hA
  have hcq := hcs (P.length - 1) x HX.out
  have e2 : IntKind.i64.wrap ((P.length : Int) - 1) = (P.length : Int) - 1 := IntWalk.i64_in _ (by omega)
  have e3 : ((P.length : Int) - 1).toNat = P.length - 1 := by omega
  have e4 : ¬ ((P.length : Int) - 1 < 0) := by omega
  have e5 : 0 ≤ (P.length : Int) - 1 := by omega
  clear hcs hown hrd hb1 KSP HX
  generalize hn : P.length = n at *
  go_wp2_with fail
  refine (KSF.out _).mono ?_
  rintro e w2 ⟨rfl, hw⟩
  subst hw
  go_wp2
  go_quiet (fail)
  go_wp2
  go_ret3
  subst hn
  exact ⟨some ⟨b, off, none⟩, c, rfl, HRD.out, below_drewN HB1.out _⟩
end Go.Proofs.YtfdngdnnjmcigaaDoor
