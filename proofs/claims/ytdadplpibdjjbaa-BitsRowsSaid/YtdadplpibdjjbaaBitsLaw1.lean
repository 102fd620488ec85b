/- The walk of the statement BitsNext. Condition: the slice can be read. -/
import Derived.Test.YtdadplpibdjjbaaBits4
import Derived.Test.YtdadplpibdjjbaaEngQ
import Derived.KernelRfl
namespace Go.Proofs.Ytdadplpibdjjbaa
open Go.RowKit
set_option linter.unusedVariables false
set_option linter.unusedSimpArgs false
theorem bitsAwake_any (w : World) : Calls Try.prog 39 #[] w fun e w' => e = .returned (.bool true) ∧ Below w.heap.size w w' :=
  Eng.isTrue_ok (by kernel_rfl) (by kernel_rfl) (lf := 5000) (d := 200) (by kernel_rfl) w
set_option maxRecDepth 100000 in
theorem BitsNext_walk (xs : List (BitVec 64)) (A : Option Addr) (c : Nat) (w : World) (hr : RdU w A xs) (hc : xs.length ≤ c) (hm : c ≤ maxLen) :
    Calls Try.prog 9 #[.slice A xs.length c] w fun e w' => e = .returned (.bool true) ∧ Below w.heap.size w w' := by
  have HR := Lib.hid hr
  clear hr
  unfold maxLen at hm
  go_enter Try.func9, Try.ntmps9
  go_wp2_with fail
  refine (bitsAwake_any _).mono ?_
  rintro e w1 ⟨rfl, hb⟩
  have HW := Lib.hid hb
  clear hb
  by_cases h5 : 5 < xs.length
  · go_wp2
    go_ret
    exact ⟨rfl, HW.out⟩
  · have hn : xs.length ≤ 1000 := by omega
    have hl : IntKind.i64.wrap (64 * (xs.length : Int)) = 64 * (xs.length : Int) := IntWalk.i64_in _ (by omega)
    go_wp2
    have HBX := Lib.hid (HW.out.trans (((Below.refl w1.heap.size w1).alloc (Nat.le_refl _) (.cells #[.slice A xs.length c] 53)).mono HW.out.size))
    have HRX := Lib.hid (HR.out.below HBX.out)
    go_loopw [4, 5, 6] (fun n a k wr => ∃ kk aa : Nat, k = .int .i64 kk ∧ a = .int .i64 aa ∧ n = .int .i64 (cntB xs aa : Nat) ∧ kk ≤ aa ∧ aa ≤ 64 * xs.length ∧ Below (w1.alloc (.cells #[.slice A xs.length c] 53)).heap.size (w1.alloc (.cells #[.slice A xs.length c] 53)) wr) (fun _ _ k _ => 64 * xs.length + 1 - (intOf k).toNat)
    case atStart => exact ⟨0, 0, rfl, rfl, rfl, by omega, by omega, Below.refl _ _⟩
    case round =>
      obtain ⟨kk, aa, rfl, rfl, rfl, hka, hal, hb1⟩ := hrel
      have HB1 := Lib.hid hb1
      clear hb1
      have hc0 := bits_cell HB1.out
      have hkk : (kk : Int) ≤ 64 * (xs.length : Int) := by omega
      have hcl := cntB_le xs aa
      go_wp2_with fail
      refine (Next_any xs c A true aa (64 * (xs.length : Int)) _ (HRX.out.below HB1.out) hn (by omega) (by omega) (by omega) (by omega)).mono ?_
      rintro e w3 ⟨rfl, hb⟩
      have HB3 := Lib.hid (HB1.out.trans (hb.mono HB1.out.size))
      clear hb
      have hc0 := bits_cell HB3.out
      rw [show nextB xs true (aa : Int) (64 * (xs.length : Int)) = nextN xs true aa (64 * xs.length - aa) by
        unfold nextB fromB manyB
        congr 1 <;> omega]
      cases hN : nextN xs true aa (64 * xs.length - aa) with
      | none =>
        have HE := Lib.hid (show cntB xs (64 * xs.length) = cntB xs aa by
          have := cntB_end hN
          rwa [show aa + (64 * xs.length - aa) = 64 * xs.length by omega] at this)
        clear hN
        unfold optV
        dsimp only
        go_wp2_with fail
        refine (Count_any xs c A _ (HRX.out.below HB3.out) hn).mono ?_
        rintro e w4 ⟨rfl, hb⟩
        have HB4 := Lib.hid (HB3.out.trans (hb.mono HB3.out.size))
        clear hb
        rw [HE.out]
        go_wp2
        go_ret
        exact ⟨ret_bool (by simp), HBX.out.trans (HB4.out.mono HBX.out.size)⟩
      | some i =>
        obtain ⟨h1, h2, h3, _⟩ := nextN_some hN
        have HE := Lib.hid (cntB_next hN)
        have HH := Lib.hid (show hasB xs (i : Int) = true by rw [hasB_nat]; exact h3)
        clear hN h3
        generalize cntB xs aa = m at *
        have hia : ¬ (i : Int) < (aa : Int) := by omega
        have e1 : IntKind.i64.wrap ((i : Int) + 1) = (i : Int) + 1 := IntWalk.i64_in _ (by omega)
        have e2 : IntKind.i64.wrap ((m : Int) + 1) = (m : Int) + 1 := IntWalk.i64_in _ (by omega)
        have e3 : IntKind.i64.wrap ((kk : Int) + 1) = (kk : Int) + 1 := IntWalk.i64_in _ (by omega)
        unfold optV
        dsimp only
        go_wp2_with fail
        refine (Has_any xs c A i _ (HRX.out.below HB3.out) hn (by omega) (by omega)).mono ?_
        rintro e w4 ⟨rfl, hb⟩
        have HB4 := Lib.hid (HB3.out.trans (hb.mono HB3.out.size))
        clear hb
        rw [HH.out]
        go_wp2
        go_roundw
        case rel => exact ⟨kk + 1, i + 1, by go_num, by go_num, by rw [HE.out]; go_num, by omega, by omega, HB4.out⟩
        case measure => simp [intOf]; omega
end Go.Proofs.Ytdadplpibdjjbaa
