/- The plain law of BookAgain: one record behind the other. No program in sight. -/
import Derived.Test.YtoifejinppjeeaaFallLaw
namespace Go.Proofs.Ytoifejinppjeeaa
open Go.RowKit
set_option linter.unusedVariables false
set_option linter.unusedSimpArgs false
structure BkI (k : Nat) (a : AM) : Prop where
  clean : Clean a
  rg : ∃ W, Rg 1 0 W 12 True a ∧ W 8 = 0#64
  cnt : a.cnt (2000 * k)
theorem bkI_new : BkI 0 (newA 12) := ⟨fromA_clean _ _, ⟨_, fromA_rg 1 0 (List.replicate (8 * 12) 0#64) 12 (by simp), zeroW _ _⟩, fromA_cnt _ _⟩
theorem BkI.mono {k : Nat} {a : AM} (h : BkI k a) : BkI (k + 1) a := ⟨h.clean, h.rg, h.cnt.mono (by omega)⟩
theorem AM.cnt.on {a : AM} {N : Nat} (h : a.cnt N) : a.on.cnt N := ⟨h.f1, h.c1, h.c2, h.c3⟩
section
variable {k : Nat} {a : AM} {num : BitVec 64} {ws : List (Int × BitVec 64)}
theorem BkI.no (h : BkI k a) (h0 : (recX num ws).length = 0) : a.keepB 1 10 num ws = (a, 1) := by
  unfold AM.keepB
  rw [if_pos (.inl h0)]
structure AgR (k : Nat) (a : AM) (num : BitVec 64) (ws : List (Int × BitVec 64)) (a1 a2 : AM) : Prop where
  keep : a.keepB 1 10 num ws = (a1, 0)
  clean1 : Clean a1
  off : (a1.crash []).on.off = false
  len : (a1.crash []).on.ls.length = 12
  clean2 : Clean (a1.crash []).on
  cnt : (a1.crash []).on.cnt (2000 * k + 1000)
  rd : readR ((a1.crash []).on.allOf 1 (8 * 10)) = some (num, ws)
  clear : (a1.crash []).on.push 1 10 0 [0#64] = (a2, 0)
  next : BkI (k + 1) a2
theorem BkI.yes (h : BkI k a) (h0 : 0 < (recX num ws).length) (hn : ws.length ≤ 30) : ∃ a1 a2, AgR k a num ws a1 a2 := by
  obtain ⟨W, hrg, hm⟩ := h.rg
  have hl : (recX num ws).length ≤ 63 := by
    unfold recX recW
    split
    · exact Nat.zero_le _
    · split
      · exact Nat.zero_le _
      · rw [List.length_append, recL_len]; simp; omega
  have hc := h.cnt.keepB 1 10 num ws
  have hk := keep_law (F := 1) (M := 10) (num := num) (ws := ws) h.clean hrg (by omega) (by omega) h0 hm
  have e0 : ((0 : Nat) : Int) = 0 := rfl
  have e1 : ((1 : Nat) : Int) = 1 := rfl
  have e10 : ((10 : Nat) : Int) = 10 := rfl
  rw [e1, e10] at hk
  rcases hk with ⟨_, _, _, k4, _⟩ | ⟨k1, k2, k3⟩
  · exact absurd trivial k4
  generalize hp : a.keepB 1 10 num ws = pr at *
  obtain ⟨a1, r1⟩ := pr
  simp only at hc k1 k2 k3
  subst k1
  obtain ⟨g3, g2⟩ := k2.fell k3 []
  have hrd := keep_read (F := 1) (M := 10) g3 (by omega) (by omega) h0
  have hcn : (a1.crash []).on.cnt (2000 * k + 1000) := (hc.crash' []).on
  have hpl := push_law (F := 1) (M := 10) (t := 0) (us := [0#64]) g2 g3 (by omega) (by simp) (by simp)
  rw [e0, e1, e10] at hpl
  have hc2 := hcn.push 1 10 0 [0#64]
  rcases hpl with ⟨_, _, _, k4, _⟩ | ⟨p1, p2, p3⟩
  · exact absurd trivial k4
  generalize hq : (a1.crash []).on.push 1 10 0 [0#64] = pr at *
  obtain ⟨a2, r2⟩ := pr
  simp only at hc2 p1 p2 p3
  subst p1
  refine ⟨a1, a2, hp, k2, rfl, g3.len, g2, hcn, hrd, hq, p2, ⟨_, p3, ?_⟩, hc2.mono (by simp; omega)⟩
  rw [wrW_at (F := 1) (t := 0) ⟨by omega, by simp⟩]; rfl
end
end Go.Proofs.Ytoifejinppjeeaa
