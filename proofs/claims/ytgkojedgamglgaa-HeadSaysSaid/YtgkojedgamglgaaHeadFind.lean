/- The walks of the law's image and of head.Find. Condition: the slices can be read. -/
import Derived.Test.YtgkojedgamglgaaHeadLaws
namespace Go.Proofs.Ytgkojedgamglgaa
open Go.RowKit
set_option linter.unusedVariables false
set_option linter.unusedSimpArgs false
def z8 : List (BitVec 64) := List.replicate 8 0#64
/-- Eight words, or noughts. -/
def f8 (f : List (BitVec 64)) : List (BitVec 64) := if f.length = 8 then f else z8
theorem f8_len (f : List (BitVec 64)) : (f8 f).length = 8 := by
  unfold f8
  split
  · assumption
  · rfl
/-- The first k of them, noughts behind. -/
def mix (l : List (BitVec 64)) (k : Nat) : List (BitVec 64) := l.take k ++ List.replicate (8 - k) 0#64
theorem mix_set {l : List (BitVec 64)} (hl : l.length = 8) {k : Nat} (hk : k < 8) : (mix l k).set k (l[k]'(by omega)) = mix l (k + 1) := by
  obtain ⟨x0, x1, x2, x3, x4, x5, x6, x7, rfl⟩ := eight hl
  match k, hk with
  | 0, _ => rfl
  | 1, _ => rfl
  | 2, _ => rfl
  | 3, _ => rfl
  | 4, _ => rfl
  | 5, _ => rfl
  | 6, _ => rfl
  | 7, _ => rfl
theorem mix_zero {k : Nat} (hk : k ≤ 8) : mix z8 k = z8 := by
  match k, hk with
  | 0, _ => rfl
  | 1, _ => rfl
  | 2, _ => rfl
  | 3, _ => rfl
  | 4, _ => rfl
  | 5, _ => rfl
  | 6, _ => rfl
  | 7, _ => rfl
  | 8, _ => rfl
theorem mix_all {l : List (BitVec 64)} (hl : l.length = 8) : mix l 8 = l := by
  obtain ⟨x0, x1, x2, x3, x4, x5, x6, x7, rfl⟩ := eight hl
  rfl
theorem mix_none (l : List (BitVec 64)) : mix l 0 = z8 := rfl
set_option maxRecDepth 100000 in
set_option maxHeartbeats 4000000 in
theorem image_any (m : Nat) (h1 : 64 ≤ m) (h2 : m ≤ 1024) (f : List (BitVec 64)) (F : Option Addr) (cf : Nat) (l : List (BitVec 64)) (L : Option Addr) (cl : Nat) (w : World) (hrf : RdU w F f) (hrl : RdU w L l) :
    Calls Try.prog 29 #[.int .i64 (m : Int), .slice F f.length cf, .slice L l.length cl] w fun e w' => (∃ B d zs, e = .returned (.slice B (8 * m) d) ∧ zs.length = 8 * m ∧ zs.take 8 = f8 f ∧ zs.drop (8 * m - 8) = f8 l ∧ OwnU w' w.heap.size B zs d) ∧ Below w.heap.size w w' := by
  have HF := Lib.hid hrf
  have HL := Lib.hid hrl
  clear hrf hrl
  have hmk := fun (W : World) => show (Instr.makeSlice 28 (.int .i64 (8 * (m : Int))) (.int .i64 (8 * (m : Int)))).run Try.prog W = .ok (.slice (some ⟨W.heap.size, 0, none⟩) (8 * m) (8 * m)) (W.alloc (.cells (Array.replicate (8 * m) (U 0#64)) 22)) by
    have h := make_U (8 * m) (by omega) W
    rw [show ((8 * m : Nat) : Int) = 8 * (m : Int) by omega] at h
    exact h
  have e0 : IntKind.i64.wrap (8 * (m : Int)) = 8 * (m : Int) := IntWalk.i64_in _ (by omega)
  have HO0 := Lib.hid (OwnU.rep w w.heap.size (8 * m) (Nat.le_refl _) (by unfold maxLen; omega))
  have HB0 := Lib.hid ((Below.refl w.heap.size w).alloc (Nat.le_refl _) (.cells (Array.replicate (8 * m) (U 0#64)) 22))
  go_enter Try.func29, Try.ntmps29
  go_wp2
  generalize w.alloc (.cells (Array.replicate (8 * m) (U 0#64)) 22) = wz at *
  go_loopw [8] (fun i wr => ∃ (k : Nat) (zs : List (BitVec 64)), k ≤ 8 ∧ i = .int .i64 k ∧ zs.length = 8 * m ∧ Go.RowKit.Hid (zs.take 8 = mix (f8 f) k ∧ zs.drop (8 * m - 8) = mix (f8 l) k) ∧ OwnU wr w.heap.size (some ⟨w.heap.size, 0, none⟩) zs (8 * m) ∧ Below w.heap.size w wr) (fun i _ => 8 - (intOf i).toNat)
  case atStart => exact ⟨0, List.replicate (8 * m) 0#64, by omega, rfl, List.length_replicate, Lib.hid ⟨by rw [mix_none, List.take_replicate, Nat.min_eq_left (by omega)]; rfl, by rw [mix_none, List.drop_replicate, show 8 * m - (8 * m - 8) = 8 by omega]; rfl⟩, HO0.out, HB0.out⟩
  case round =>
    clear HO0 HB0 hmk
    obtain ⟨k, zs, hk, rfl, hzl, hmix, hown, hbw⟩ := hrel
    have HM := Lib.hid hmix.out
    have HO := Lib.hid hown
    have HB := Lib.hid hbw
    clear hmix hown hbw
    by_cases hlt : k < 8
    · have e1 : IntKind.i64.wrap ((k : Int) + 1) = (k : Int) + 1 := IntWalk.i64_in _ (by omega)
      have e2 : IntKind.i64.wrap (8 * (m : Int) - 8) = 8 * (m : Int) - 8 := IntWalk.i64_in _ (by omega)
      have e3 : IntKind.i64.wrap (8 * (m : Int) - 8 + (k : Int)) = 8 * (m : Int) - 8 + (k : Int) := IntWalk.i64_in _ (by omega)
      have e4 : (8 * (m : Int) - 8 + (k : Int)).toNat = 8 * m - 8 + k := by omega
      have e5 : 0 ≤ 8 * (m : Int) - 8 + (k : Int) := by omega
      have e6 : 8 * (m : Int) - 8 + (k : Int) < 8 * (m : Int) := by omega
      have e7 : k < 8 * m := by omega
      have hkz : k < zs.length := by omega
      have hkz2 : 8 * m - 8 + k < zs.length := by omega
      by_cases hfl : f.length = 8
      · by_cases hll : l.length = 8
        · have hfi : ((f.length : Int) == 8) = true := by simp [hfl]
          have hli : ((l.length : Int) == 8) = true := by simp [hll]
          obtain ⟨bf, of_, rfl, hcf⟩ := (HF.out.below HB.out).at_ (show k < f.length by omega)
          have hf1 := hcf k (by omega)
          clear hcf
          have HFE := Lib.hid (show f8 f = f by unfold f8; rw [if_pos hfl])
          have HMS := Lib.hid (mix_set hfl hlt)
          have hcell := HO.out.cellAt k hkz
          have hfz := HO.out.frozenAt k
          generalize f[k]'(by omega) = y at *
          have HO1 := Lib.hid (HO.out.stored k y)
          have HB1 := Lib.hid (HB.out.setCell (p := ⟨w.heap.size, k, none⟩) (Nat.le_refl _) (U y))
          have HM1 := Lib.hid (show (zs.set k y).take 8 = mix (f8 f) (k + 1) ∧ (zs.set k y).drop (8 * m - 8) = mix (f8 l) k from ⟨by rw [List.take_set, HM.out.1, HFE.out, HMS.out], by rw [List.drop_set_of_lt (by omega), HM.out.2]⟩)
          clear HM
          obtain ⟨bl, ol_, rfl, hcl⟩ := (HL.out.below HB1.out).at_ (show k < l.length by omega)
          have hl1 := hcl k (by omega)
          clear hcl
          have HLE := Lib.hid (show f8 l = l by unfold f8; rw [if_pos hll])
          have HMS2 := Lib.hid (mix_set hll hlt)
          have hcell2 := HO1.out.cellAt (8 * m - 8 + k) (by rw [List.length_set]; omega)
          have hfz2 := HO1.out.frozenAt (8 * m - 8 + k)
          generalize l[k]'(by omega) = y2 at *
          have HO2 := Lib.hid (HO1.out.stored (8 * m - 8 + k) y2)
          have HB2 := Lib.hid (HB1.out.setCell (p := ⟨w.heap.size, 8 * m - 8 + k, none⟩) (Nat.le_refl _) (U y2))
          have HM2 := Lib.hid (show ((zs.set k y).set (8 * m - 8 + k) y2).take 8 = mix (f8 f) (k + 1) ∧ ((zs.set k y).set (8 * m - 8 + k) y2).drop (8 * m - 8) = mix (f8 l) (k + 1) from ⟨by rw [List.take_set_of_le (by omega), HM1.out.1], by rw [List.drop_set, if_neg (by omega), HM1.out.2, show 8 * m - 8 + k - (8 * m - 8) = k by omega, HLE.out, HMS2.out]⟩)
          have HZL := Lib.hid (show ((zs.set k y).set (8 * m - 8 + k) y2).length = 8 * m by simp only [List.length_set]; exact hzl)
          clear HM1
          go_wp2
          go_roundw
          case rel => exact ⟨k + 1, ((zs.set k y).set (8 * m - 8 + k) y2), by omega, by go_num, HZL.out, Lib.hid HM2.out, HO2.out, HB2.out⟩
          case measure => simp [intOf]; omega
        · have hfi : ((f.length : Int) == 8) = true := by simp [hfl]
          have hli : ((l.length : Int) == 8) = false := by rw [beq_eq_false_iff_ne]; omega
          obtain ⟨bf, of_, rfl, hcf⟩ := (HF.out.below HB.out).at_ (show k < f.length by omega)
          have hf1 := hcf k (by omega)
          clear hcf
          have HFE := Lib.hid (show f8 f = f by unfold f8; rw [if_pos hfl])
          have HMS := Lib.hid (mix_set hfl hlt)
          have hcell := HO.out.cellAt k hkz
          have hfz := HO.out.frozenAt k
          generalize f[k]'(by omega) = y at *
          have HO1 := Lib.hid (HO.out.stored k y)
          have HB1 := Lib.hid (HB.out.setCell (p := ⟨w.heap.size, k, none⟩) (Nat.le_refl _) (U y))
          have HM1 := Lib.hid (show (zs.set k y).take 8 = mix (f8 f) (k + 1) ∧ (zs.set k y).drop (8 * m - 8) = mix (f8 l) k from ⟨by rw [List.take_set, HM.out.1, HFE.out, HMS.out], by rw [List.drop_set_of_lt (by omega), HM.out.2]⟩)
          clear HM
          have HM2 := Lib.hid (show (zs.set k y).take 8 = mix (f8 f) (k + 1) ∧ (zs.set k y).drop (8 * m - 8) = mix (f8 l) (k + 1) from ⟨HM1.out.1, by rw [HM1.out.2]; unfold f8; rw [if_neg hll, mix_zero (by omega), mix_zero (by omega)]⟩)
          have HO2 := Lib.hid HO1.out
          have HB2 := Lib.hid HB1.out
          have HZL := Lib.hid (show (zs.set k y).length = 8 * m by simp only [List.length_set]; exact hzl)
          clear HM1
          go_wp2
          go_roundw
          case rel => exact ⟨k + 1, (zs.set k y), by omega, by go_num, HZL.out, Lib.hid HM2.out, HO2.out, HB2.out⟩
          case measure => simp [intOf]; omega
      · by_cases hll : l.length = 8
        · have hfi : ((f.length : Int) == 8) = false := by rw [beq_eq_false_iff_ne]; omega
          have hli : ((l.length : Int) == 8) = true := by simp [hll]
          have HM1 := Lib.hid (show zs.take 8 = mix (f8 f) (k + 1) ∧ zs.drop (8 * m - 8) = mix (f8 l) k from ⟨by rw [HM.out.1]; unfold f8; rw [if_neg hfl, mix_zero (by omega), mix_zero (by omega)], HM.out.2⟩)
          have HO1 := Lib.hid HO.out
          have HB1 := Lib.hid HB.out
          clear HM
          obtain ⟨bl, ol_, rfl, hcl⟩ := (HL.out.below HB1.out).at_ (show k < l.length by omega)
          have hl1 := hcl k (by omega)
          clear hcl
          have HLE := Lib.hid (show f8 l = l by unfold f8; rw [if_pos hll])
          have HMS2 := Lib.hid (mix_set hll hlt)
          have hcell2 := HO1.out.cellAt (8 * m - 8 + k) (by omega)
          have hfz2 := HO1.out.frozenAt (8 * m - 8 + k)
          generalize l[k]'(by omega) = y2 at *
          have HO2 := Lib.hid (HO1.out.stored (8 * m - 8 + k) y2)
          have HB2 := Lib.hid (HB1.out.setCell (p := ⟨w.heap.size, 8 * m - 8 + k, none⟩) (Nat.le_refl _) (U y2))
          have HM2 := Lib.hid (show (zs.set (8 * m - 8 + k) y2).take 8 = mix (f8 f) (k + 1) ∧ (zs.set (8 * m - 8 + k) y2).drop (8 * m - 8) = mix (f8 l) (k + 1) from ⟨by rw [List.take_set_of_le (by omega), HM1.out.1], by rw [List.drop_set, if_neg (by omega), HM1.out.2, show 8 * m - 8 + k - (8 * m - 8) = k by omega, HLE.out, HMS2.out]⟩)
          have HZL := Lib.hid (show (zs.set (8 * m - 8 + k) y2).length = 8 * m by simp only [List.length_set]; exact hzl)
          clear HM1
          go_wp2
          go_roundw
          case rel => exact ⟨k + 1, (zs.set (8 * m - 8 + k) y2), by omega, by go_num, HZL.out, Lib.hid HM2.out, HO2.out, HB2.out⟩
          case measure => simp [intOf]; omega
        · have hfi : ((f.length : Int) == 8) = false := by rw [beq_eq_false_iff_ne]; omega
          have hli : ((l.length : Int) == 8) = false := by rw [beq_eq_false_iff_ne]; omega
          have HM1 := Lib.hid (show zs.take 8 = mix (f8 f) (k + 1) ∧ zs.drop (8 * m - 8) = mix (f8 l) k from ⟨by rw [HM.out.1]; unfold f8; rw [if_neg hfl, mix_zero (by omega), mix_zero (by omega)], HM.out.2⟩)
          have HO1 := Lib.hid HO.out
          have HB1 := Lib.hid HB.out
          clear HM
          have HM2 := Lib.hid (show zs.take 8 = mix (f8 f) (k + 1) ∧ zs.drop (8 * m - 8) = mix (f8 l) (k + 1) from ⟨HM1.out.1, by rw [HM1.out.2]; unfold f8; rw [if_neg hll, mix_zero (by omega), mix_zero (by omega)]⟩)
          have HO2 := Lib.hid HO1.out
          have HB2 := Lib.hid HB1.out
          have HZL := Lib.hid (show zs.length = 8 * m by exact hzl)
          clear HM1
          go_wp2
          go_roundw
          case rel => exact ⟨k + 1, zs, by omega, by go_num, HZL.out, Lib.hid HM2.out, HO2.out, HB2.out⟩
          case measure => simp [intOf]; omega
    · obtain rfl : k = 8 := by omega
      rw [mix_all (f8_len f), mix_all (f8_len l)] at HM
      go_wp2
      go_ret
      exact ⟨⟨_, _, zs, rfl, hzl, HM.out.1, HM.out.2, HO.out⟩, HB.out⟩
end Go.Proofs.Ytgkojedgamglgaa
