/- The walk of the statement BitsRows. Condition: the slices can be read. -/
import Derived.Test.YtdadplpibdjjbaaBitsLaw2
namespace Go.Proofs.Ytdadplpibdjjbaa
open Go.RowKit
set_option linter.unusedVariables false
set_option linter.unusedSimpArgs false
theorem any_take (l : List Int) (k : Int) (j : Nat) (h : j < l.length) : (l.take (j + 1)).any (fun x => decide (x = k)) = ((l.take j).any (fun x => decide (x = k)) || decide (l[j] = k)) := by
  rw [List.take_succ_eq_append_getElem h, List.any_append]
  simp
set_option maxRecDepth 100000 in
set_option maxHeartbeats 4000000 in
theorem BitsRows_walk (xs : List (BitVec 64)) (A : Option Addr) (c : Nat) (l : List Int) (L : Option Addr) (lc : Nat) (z : Int) (w : World) (hr : RdU w A xs) (hc : xs.length ≤ c) (hm : c ≤ maxLen)
    (hl : RdF I64 w L l ∧ ∀ x ∈ l, -9223372036854775808 ≤ x ∧ x ≤ 9223372036854775807) (hlc : l.length ≤ lc) (hlm : lc ≤ maxLen)
    (hz : -9223372036854775808 ≤ z) (hz2 : z ≤ 9223372036854775807) :
    Calls Try.prog 15 #[.slice A xs.length c, .slice L l.length lc, .int .i64 z] w fun r w' => r = .returned (.bool true) ∧ Below w.heap.size w w' := by
  have HR := Lib.hid hr
  have HL := Lib.hid (show RdF (Value.int .i64) w L l from hl.1)
  have HLB := Lib.hid hl.2
  clear hr hl
  unfold maxLen at hm hlm
  by_cases h8 : 6 < xs.length
  · go_enter Try.func15, Try.ntmps15
    go_wp2_with fail
    refine (bitsAwake_any _).mono ?_
    rintro e0 w1 ⟨rfl, hb⟩
    have HW := Lib.hid hb
    clear hb
    go_wp2
    go_ret
    exact ⟨rfl, HW.out⟩
  by_cases h30 : 30 < l.length
  · go_enter Try.func15, Try.ntmps15
    go_wp2_with fail
    refine (bitsAwake_any _).mono ?_
    rintro e0 w1 ⟨rfl, hb⟩
    have HW := Lib.hid hb
    clear hb
    go_wp2
    go_ret
    exact ⟨rfl, HW.out⟩
  have hn : xs.length ≤ 1000 := by omega
  have hll : l.length ≤ 1000 := by omega
  have S1 := Lib.hid (fun W h h2 => Set_any xs c A true l L lc W h hn h2 hll HLB.out)
  have HBIT := Lib.hid (bitN_setB l xs)
  have hyl := setB_len true l xs
  generalize setB true xs l = ys at *
  have hn2 : ys.length ≤ 1000 := by omega
  have hl64 : IntKind.i64.wrap (64 * (xs.length : Int)) = 64 * (xs.length : Int) := IntWalk.i64_in _ (by omega)
  have B1 := Lib.hid (fun (k : Nat) (h1 : k < 64 * xs.length) W h => Has_any xs c A (k : Int) W h hn (by omega) (by omega))
  have B2 := Lib.hid (fun (B : Option Addr) (d : Nat) (k : Nat) (h1 : k < 64 * xs.length) W h => show Calls Try.prog 42 #[.agg #[.slice B xs.length d], .int .i64 (k : Int)] W fun e w' => e = .returned (.bool (hasB ys (k : Int))) ∧ Below W.heap.size W w' by
    have h2 := Has_any ys d B (k : Int) W h hn2 (by omega) (by omega)
    rw [hyl] at h2
    exact h2)
  have F1 := Lib.hid (fun (B : Option Addr) (d : Nat) (e : Int) (h1 : -9223372036854775808 ≤ e) (h2 : e ≤ 9223372036854775807) W h => show Calls Try.prog 55 #[.agg #[.slice B xs.length d], .int .i64 0, .int .i64 e, .int .i64 z] W fun r w' => r = .returned (optV (freeB ys 0 e z)) ∧ Below W.heap.size W w' by
    have h3 := Free_any ys d B 0 e z W h hn2 (by omega) (by omega) h1 h2 hz hz2
    rw [hyl] at h3
    exact h3)
  go_enter Try.func15, Try.ntmps15
  go_wp2_with fail
  refine (bitsAwake_any _).mono ?_
  rintro e0 w1 ⟨rfl, hb⟩
  have HW := Lib.hid hb
  clear hb
  go_wp2_with fail
  have HX := Lib.hid (HW.out.alloc HW.out.size (.cells #[.slice A xs.length c] 53))
  have HC := Lib.hid (fun (W : World) (h : Below (w1.alloc (.cells #[.slice A xs.length c] 53)).heap.size (w1.alloc (.cells #[.slice A xs.length c] 53)) W) => bits_cell h)
  generalize w1.alloc (.cells #[.slice A xs.length c] 53) = wx at *
  refine (S1.out _ (HR.out.below HX.out) (HL.out.below HX.out)).mono ?_
  rintro e0 w2 ⟨⟨B, d, rfl, ho⟩, hb⟩
  have HY := Lib.hid (HX.out.trans (hb.mono HX.out.size))
  have HCY := Lib.hid (fun (W : World) (h : Below w2.heap.size w2 W) => HC.out W (hb.trans (h.mono hb.size)))
  have HO := Lib.hid ho.rd
  clear hb ho HX HC S1
  go_wp2
  have HZ := Lib.hid (HY.out.alloc HY.out.size (.cells #[.slice B xs.length d] 53))
  have HCZ := Lib.hid (fun (W : World) (h : Below (w2.alloc (.cells #[.slice B xs.length d] 53)).heap.size (w2.alloc (.cells #[.slice B xs.length d] 53)) W) => HCY.out W (((Below.refl w2.heap.size w2).alloc (Nat.le_refl _) _).trans (h.mono (by simp))))
  have HDZ := Lib.hid (fun (W : World) (h : Below (w2.alloc (.cells #[.slice B xs.length d] 53)).heap.size (w2.alloc (.cells #[.slice B xs.length d] 53)) W) => bits_cell h)
  have HOZ := Lib.hid (fun (W : World) (h : Below (w2.alloc (.cells #[.slice B xs.length d] 53)).heap.size (w2.alloc (.cells #[.slice B xs.length d] 53)) W) => HO.out.below (((Below.refl w2.heap.size w2).alloc (Nat.le_refl _) _).trans (h.mono (by simp))))
  generalize w2.alloc (.cells #[.slice B xs.length d] 53) = wz at *
  have HRZ := Lib.hid (fun (W : World) (h : Below wz.heap.size wz W) => HR.out.below (HZ.out.trans (h.mono HZ.out.size)))
  have HLZ := Lib.hid (fun (W : World) (h : Below wz.heap.size wz W) => HL.out.below (HZ.out.trans (h.mono HZ.out.size)))
  clear HY HCY HO HW
  go_loopw [9] (fun i wr => ∃ k : Nat, k ≤ 64 * xs.length ∧ i = .int .i64 k ∧ Below wz.heap.size wz wr) (fun i _ => 64 * xs.length - (intOf i).toNat)
  case atStart => exact ⟨0, Nat.zero_le _, rfl, Below.refl _ _⟩
  case round =>
    obtain ⟨k, hk, rfl, hbw⟩ := hrel
    have HB := Lib.hid hbw
    clear hbw
    have hc0 := HCZ.out _ HB.out
    have hd0 := HDZ.out _ HB.out
    by_cases hlt : k < 64 * xs.length
    · have hltI : (k : Int) < 64 * (xs.length : Int) := by omega
      go_wp2
      go_loopw [10, 11] (fun q i ws => ∃ j : Nat, j ≤ l.length ∧ i = .int .i64 j ∧ q = .bool ((l.take j).any (fun x => decide (x = (k : Int)))) ∧ ws = wr) (fun _ i _ => l.length - (intOf i).toNat)
      case atStart => exact ⟨0, Nat.zero_le _, rfl, rfl, rfl⟩
      case round =>
        obtain ⟨j, hj, rfl, rfl, rfl⟩ := hrel
        have e1 : IntKind.i64.wrap ((j : Int) + 1) = (j : Int) + 1 := IntWalk.i64_in _ (by omega)
        have e2 : IntKind.i64.wrap ((k : Int) + 1) = (k : Int) + 1 := IntWalk.i64_in _ (by omega)
        by_cases hlt2 : j < l.length
        · have HT := Lib.hid (any_take l k j hlt2)
          obtain ⟨b, off, rfl, hcell⟩ := (HLZ.out _ HB.out).at_ hlt2
          have hk1 := hcell j hlt2
          clear hcell
          generalize (l.take j).any (fun x => decide (x = (k : Int))) = q at *
          cases q with
          | true =>
            go_wp2
            go_roundw
            case rel => exact ⟨j + 1, by omega, by go_num, by rw [HT.out]; rfl, trivial⟩
            case measure => simp [intOf]; omega
          | false =>
            by_cases hq : l[j] = (k : Int)
            · have hq2 : (l[j] == (k : Int)) = true := by simpa using hq
              have hq3 : decide (l[j] = (k : Int)) = true := decide_eq_true hq
              have HT2 := Lib.hid (HT.out.trans (by rw [hq3]; rfl : _ = true))
              clear hq
              go_wp2
              go_roundw
              case rel => exact ⟨j + 1, by omega, by go_num, by rw [HT2.out], trivial⟩
              case measure => simp [intOf]; omega
            · have hq2 : (l[j] == (k : Int)) = false := by simpa using hq
              have hq3 : decide (l[j] = (k : Int)) = false := decide_eq_false hq
              have HT2 := Lib.hid (HT.out.trans (by rw [hq3]; rfl : _ = false))
              clear hq
              go_wp2
              go_roundw
              case rel => exact ⟨j + 1, by omega, by go_num, by rw [HT2.out], trivial⟩
              case measure => simp [intOf]; omega
        · obtain rfl : j = l.length := by omega
          have HBT := Lib.hid (HBIT.out k hlt)
          rw [List.take_length]
          generalize l.any (fun x => decide (x = (k : Int))) = q at *
          go_wp2_with fail
          refine (B2.out B d k hlt _ (HOZ.out _ HB.out)).mono ?_
          rintro e0 w5 ⟨rfl, hb⟩
          have HB := Lib.hid (HB.out.trans (hb.mono HB.out.size))
          clear hb hc0 hd0
          have hc0 := HCZ.out _ HB.out
          have hd0 := HDZ.out _ HB.out
          rw [hasB_nat, HBT.out]
          cases q with
          | true =>
            go_wp2
            go_roundw
            case rel => exact ⟨k + 1, by omega, by go_num, HB.out⟩
            case measure => simp [intOf]; omega
          | false =>
            go_wp2_with fail
            refine (B1.out k hlt _ (HRZ.out _ HB.out)).mono ?_
            rintro e0 w6 ⟨rfl, hb⟩
            have HB := Lib.hid (HB.out.trans (hb.mono HB.out.size))
            clear hb hc0 hd0
            rw [hasB_nat]
            generalize bitN xs k = bx at *
            have hxx : (bx != bx) = false := by simp
            go_wp2
            go_roundw
            case rel => exact ⟨k + 1, by omega, by go_num, HB.out⟩
            case measure => simp [intOf]; omega
    · obtain rfl : k = 64 * xs.length := by omega
      go_wp2_with fail
      refine (F1.out B d (64 * (xs.length : Int)) (by omega) (by omega) _ (HOZ.out _ HB.out)).mono ?_
      rintro e0 w5 ⟨rfl, hb⟩
      have HB := Lib.hid (HB.out.trans (hb.mono HB.out.size))
      clear hb hc0 hd0
      have hd0 := HDZ.out _ HB.out
      cases hF : freeB ys 0 (64 * (xs.length : Int)) z with
      | none =>
        unfold optV
        dsimp only
        clear hF
        go_wp2
        go_ret
        exact ⟨rfl, HZ.out.trans (HB.out.mono HZ.out.size)⟩
      | some f =>
        have hz1 : 1 ≤ z := by
          unfold freeB at hF
          split at hF
          · cases hF
          · omega
        obtain ⟨m, rfl⟩ := Int.eq_ofNat_of_zero_le (show 0 ≤ z by omega)
        have hF1 : freeN ys m 0 0 (64 * xs.length) = some f := by
          unfold freeB at hF
          rw [if_neg (by omega)] at hF
          rw [← hF]
          unfold fromB manyB
          rw [hyl]
          congr 1 <;> omega
        obtain ⟨g1, g2, g3, g4⟩ := freeN_some (by omega) hF1 (by omega) (by omega) (fun j a b => by omega)
        have HG3 := Lib.hid g3
        have HF2 := Lib.hid (show freeB ys 0 ((f : Int) + m - 1) (m : Int) = none by
          unfold freeB
          rw [if_neg (by omega)]
          have h := g4 (f + m - 1) (by omega)
          rw [← h]
          unfold fromB manyB
          rw [hyl]
          congr 1 <;> omega)
        clear hF hF1 g3 g4
        have e1 : IntKind.i64.wrap ((f : Int) + m) = (f : Int) + m := IntWalk.i64_in _ (by omega)
        have e2 : IntKind.i64.wrap ((f : Int) + m - 1) = (f : Int) + m - 1 := IntWalk.i64_in _ (by omega)
        have e3 : (f : Int) + m ≤ 64 * (xs.length : Int) := by omega
        unfold optV
        dsimp only
        go_wp2
        go_loopw [14] (fun i ws => ∃ j : Nat, j ≤ m ∧ i = .int .i64 j ∧ Below wz.heap.size wz ws) (fun i _ => m - (intOf i).toNat)
        case atStart => exact ⟨0, Nat.zero_le _, rfl, HB.out⟩
        case round =>
          clear HB hd0
          obtain ⟨j, hj, rfl, hbw⟩ := hrel
          have HB := Lib.hid hbw
          clear hbw
          have hd0 := HDZ.out _ HB.out
          by_cases hlt2 : j < m
          · have e4 : IntKind.i64.wrap ((j : Int) + 1) = (j : Int) + 1 := IntWalk.i64_in _ (by omega)
            have e5 : IntKind.i64.wrap ((f : Int) + j) = ((f + j : Nat) : Int) := by rw [IntWalk.i64_in _ (by omega)]; omega
            have HH := Lib.hid (HG3.out (f + j) (by omega) (by omega))
            have HB2' := Lib.hid (B2.out B d (f + j) (by omega) wr (HOZ.out _ HB.out))
            go_wp2_with fail
            refine (HB2'.out).mono ?_
            rintro e0 w6 ⟨rfl, hb⟩
            have HB := Lib.hid (HB.out.trans (hb.mono HB.out.size))
            clear hb hd0 HB2'
            rw [hasB_nat, HH.out]
            go_wp2
            go_roundw
            case rel =>
              (repeat apply Exists.intro)
              exact ⟨⟨j + 1, by omega, by go_num, HB.out⟩, rfl⟩
            case measure => simp [intOf]; omega
          · obtain rfl : j = m := by omega
            go_wp2_with fail
            refine (F1.out B d ((f : Int) + j - 1) (by omega) (by omega) _ (HOZ.out _ HB.out)).mono ?_
            rintro e0 w6 ⟨rfl, hb⟩
            have HB := Lib.hid (HB.out.trans (hb.mono HB.out.size))
            clear hb hd0
            rw [HF2.out]
            unfold optV
            dsimp only
            go_wp2
            go_ret
            exact ⟨ret_bool (by simp [e3]), HZ.out.trans (HB.out.mono HZ.out.size)⟩
end Go.Proofs.Ytdadplpibdjjbaa
