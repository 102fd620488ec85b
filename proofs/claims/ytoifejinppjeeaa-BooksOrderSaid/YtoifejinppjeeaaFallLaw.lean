/- The plain law of BookFalls: a fall in the midst of a Keep or a Clear. No program in sight. -/
import Derived.Test.YtoifejinppjeeaaBookLaw
namespace Go.Proofs.Ytoifejinppjeeaa
open Go.RowKit
set_option linter.unusedVariables false
set_option linter.unusedSimpArgs false
def finA (a : AM) (ks : List Int) : AM := ((a.setFuse 0 []).crash ks).on
structure FallR (num : BitVec 64) (ws : List (Int × BitVec 64)) (ks : List Int) (clr : Bool) (a : AM) (e : Int) : Prop where
  e0 : (e = 0 ∧ a.off = false ∧ readR ((finA a ks).allOf 1 64) = if clr = true then none else some (num, ws)) ∨ (e = 14 ∧ a.off = true ∧ (readR ((finA a ks).allOf 1 64) = none ∨ readR ((finA a ks).allOf 1 64) = some (num, ws)))
  clean : Clean a
  len : a.ls.length = 10
theorem setFuse_ls (a : AM) (z : Int) (ks : List Int) : (a.setFuse z ks).ls = a.ls := by unfold AM.setFuse; split <;> rfl
theorem setFuse_off (a : AM) (z : Int) (ks : List Int) : (a.setFuse z ks).off = a.off := by unfold AM.setFuse; split <;> rfl
theorem finA_ls {a : AM} (h : Clean a) (ks : List Int) : (finA a ks).ls = a.ls := by
  show ((a.setFuse 0 []).crash ks).ls = _
  rw [Clean.crash (h.of_ls (setFuse_ls _ _ _)) ks, setFuse_ls]
theorem finA_off (a : AM) (ks : List Int) : (finA a ks).off = false := rfl
theorem allOf_ls {a b : AM} (h : b.ls = a.ls) (f : Int) (m : Nat) : b.allOf f m = a.allOf f m := by
  unfold AM.allOf
  congr 1
  funext i
  exact at_of_ls h _
theorem setFuse_rg {lo hi N : Nat} {W : Nat → BitVec 64} {fz : Prop} {a : AM} (h : Rg lo hi W N fz a) (z : Int) (ks : List Int) : Rg lo hi W N False (a.setFuse z ks) := by
  have e : a.setFuse z ks = { a with fuse := max z 0, keep := ks } := by unfold AM.setFuse; rw [if_neg (by rw [h.on]; exact Bool.false_ne_true)]
  rw [e]
  exact ⟨h.len, h.on, h.ss, h.plc, h.opn, h.wd, (fun h => h.elim), by show 0 ≤ max z 0; omega⟩
theorem AM.cnt.setFuse {a : AM} {N : Nat} (h : a.cnt N) (z : Int) (ks : List Int) (hz : z ≤ 9223372036854775807) : (a.setFuse z ks).cnt N := by
  unfold AM.setFuse
  split
  · exact h
  · exact ⟨by show max z 0 ≤ _; omega, h.c1, h.c2, h.c3⟩
theorem AM.cnt.keepB {a : AM} {N : Nat} (h : a.cnt N) (f n : Int) (num : BitVec 64) (ws : List (Int × BitVec 64)) : (a.keepB f n num ws).1.cnt (N + 1000) := by
  have hl := recX_len num ws
  unfold AM.keepB
  split
  · exact h.mono (by omega)
  · split
    · exact h.mono (by omega)
    · split
      · exact h.mono (by omega)
      · split
        · exact (h.push _ _ _ _).mono (by omega)
        · exact ((h.push _ _ _ _).push _ _ _ _).mono (by simp; omega)
section
variable {num : BitVec 64} {ws : List (Int × BitVec 64)} {ks : List Int} {z : Int}
theorem recX_good (h0 : num ≠ 0#64) (hn : ws.length ≤ 20) (hb : ws.any badW = false) : (recX num ws).length = 3 + 2 * ws.length := by
  unfold recX recW
  rw [if_neg (by omega), if_neg (by rw [hb]; simp; exact h0), List.length_append, recL_len]
  simp; omega
theorem zeroW (n p : Nat) : Wl (List.replicate n 0#64) p = 0#64 := by
  unfold Wl
  rw [List.getD_eq_getElem?_getD, List.getElem?_replicate]
  split <;> rfl
theorem fall_keep (h0 : num ≠ 0#64) (hn : ws.length ≤ 20) (hb : ws.any badW = false) : FallR num ws ks false (((newA 10).setFuse z ks).keepB 1 8 num ws).1 (((newA 10).setFuse z ks).keepB 1 8 num ws).2 := by
  have hl := recX_good h0 hn hb
  have hrg := setFuse_rg (fromA_rg 1 0 (List.replicate (8 * 10) 0#64) 10 (by simp)) z ks
  have hcl : Clean ((newA 10).setFuse z ks) := (fromA_clean _ _).of_ls (setFuse_ls _ _ _)
  have hk := keep_law (F := 1) (M := 8) (num := num) (ws := ws) hcl hrg (by omega) (by omega) (by omega) (zeroW _ _)
  have e1 : ((1 : Nat) : Int) = 1 := rfl
  have e8 : ((8 : Nat) : Int) = 8 := rfl
  rw [e1, e8] at hk
  rcases hk with ⟨k1, k2, k3, _, k5, k6, k7⟩ | ⟨k1, k2, k3⟩
  · refine ⟨.inr ⟨k1, k2, ?_⟩, k3, k6⟩
    rw [allOf_ls (finA_ls k3 ks)]
    rcases k7 with k7 | ⟨k7, k8⟩
    · exact .inl (read_zero (F := 1) (M := 8) k7)
    · exact .inr (read_rec (F := 1) (M := 8) (by omega) (by omega) k7 k8)
  · refine ⟨.inl ⟨k1, k3.on, ?_⟩, k2, k3.len⟩
    rw [allOf_ls (finA_ls k2 ks), if_neg Bool.false_ne_true]
    exact keep_read (F := 1) (M := 8) k3 (by omega) (by omega) (by omega)
theorem fall_clear (h0 : num ≠ 0#64) (hn : ws.length ≤ 20) (hb : ws.any badW = false) :
    ∃ a, (newA 10).keepB 1 8 num ws = (a, 0) ∧ Clean a ∧ FallR num ws ks true ((a.setFuse z ks).push 1 8 0 [0#64]).1 ((a.setFuse z ks).push 1 8 0 [0#64]).2 := by
  have hl := recX_good h0 hn hb
  have hrg := fromA_rg 1 0 (List.replicate (8 * 10) 0#64) 10 (by simp)
  have hcl : Clean (newA 10) := fromA_clean _ _
  rcases keep_law (F := 1) (M := 8) (num := num) (ws := ws) hcl hrg (by omega) (by omega) (by omega) (zeroW _ _) with ⟨_, _, _, k, _⟩ | ⟨k1, k2, k3⟩
  · exact absurd trivial k
  have k1 : ((newA 10).keepB 1 8 num ws).2 = 0 := k1
  have k2 : Clean ((newA 10).keepB 1 8 num ws).1 := k2
  have k3 : Rg 1 0 (wrW (wrW (Wl (List.replicate (8 * 10) 0#64)) (8 * 1 + 8) (recX num ws)) (8 * 1 + 0) [num]) 10 True ((newA 10).keepB 1 8 num ws).1 := k3
  refine ⟨((newA 10).keepB 1 8 num ws).1, Prod.ext rfl k1, k2, ?_⟩
  generalize ((newA 10).keepB 1 8 num ws).1 = a at *
  have g3 := setFuse_rg k3 z ks
  have g2 : Clean (a.setFuse z ks) := k2.of_ls (setFuse_ls _ _ _)
  have hp := push_law (F := 1) (M := 8) (t := 0) (us := [0#64]) g2 g3 (by omega) (by simp) (by simp)
  have e0 : ((0 : Nat) : Int) = 0 := rfl
  have e1 : ((1 : Nat) : Int) = 1 := rfl
  have e8 : ((8 : Nat) : Int) = 8 := rfl
  rw [e0, e1, e8] at hp
  have hrec : ∀ q, q < (recX num ws).length → wrW (wrW (Wl (List.replicate (8 * 10) 0#64)) (8 * 1 + 8) (recX num ws)) (8 * 1 + 0) [num] (8 * 1 + 8 + q) = (recX num ws).getD q 0#64 := fun q hq => by
    rw [wrW_off (by simp; omega), wrW_at ⟨by omega, by omega⟩, show 8 * 1 + 8 + q - (8 * 1 + 8) = q by omega]
  have hmk : wrW (wrW (Wl (List.replicate (8 * 10) 0#64)) (8 * 1 + 8) (recX num ws)) (8 * 1 + 0) [num] (8 * 1) = num := by rw [wrW_at ⟨by omega, by simp⟩]; rfl
  rcases hp with ⟨h1, h2, h3, _, _, h6⟩ | ⟨h1, h2, h3⟩
  · refine ⟨.inr ⟨h1, h2, ?_⟩, h3, (push_len _ _ _ _ _).trans g3.len⟩
    rw [allOf_ls (finA_ls h3 ks)]
    rcases h6 (8 * 1) (by omega) with k | ⟨_, _, k⟩
    · right
      refine read_rec (F := 1) (M := 8) (by omega) (by omega) (k.trans hmk) fun q hq => ?_
      rcases h6 (8 * 1 + 8 + q) (by omega) with k | ⟨_, k9, _⟩
      · exact k.trans (hrec q hq)
      · simp at k9; omega
    · left
      exact read_zero (F := 1) (M := 8) k
  · refine ⟨.inl ⟨h1, h3.on, ?_⟩, h2, h3.len⟩
    rw [allOf_ls (finA_ls h2 ks), if_pos rfl]
    refine read_zero (F := 1) (M := 8) ?_
    rw [h3.wd (8 * 1) (by omega), wrW_at ⟨by omega, by simp⟩]
    rfl
end
end Go.Proofs.Ytoifejinppjeeaa
