/- The walks of redo.Do and of the statement RedoOrder. Condition: the slices can be read. -/
import Derived.Test.YtgkojedgamglgaaWrites
import Derived.Test.YtgkojedgamglgaaClone
import Derived.Test.YtgkojedgamglgaaSame13
import Derived.Test.YtgkojedgamglgaaEngQ
import Derived.KernelRfl
namespace Go.Proofs.Ytgkojedgamglgaa
open Go.RowKit
set_option linter.unusedVariables false
set_option linter.unusedSimpArgs false
theorem redoAwake_any (w : World) : Calls Try.prog 22 #[] w fun e w' => e = .returned (.bool true) ∧ Below w.heap.size w w' :=
  Eng.isTrue_ok (by kernel_rfl) (by kernel_rfl) (lf := 5000) (d := 200) (by kernel_rfl) w
set_option maxRecDepth 100000 in
set_option maxHeartbeats 4000000 in
theorem rDo_any (xs : List (BitVec 64)) (A : Option Addr) (c : Nat) (ws : List (Int × BitVec 64)) (L : Option Addr) (lc : Nat) (w : World) (hr : RdU w A xs) (hn : xs.length ≤ 8000) (hl : RdW w L ws) (hll : ws.length ≤ 1000)
    (hlb : ∀ x ∈ ws, -9223372036854775808 ≤ x.1 ∧ x.1 ≤ 9223372036854775807) :
    Calls Try.prog 38 #[.slice A xs.length c, .slice L ws.length lc] w fun r w' => (∃ B d, r = .returned (.slice B xs.length d) ∧ OwnU w' w.heap.size B (doW xs ws) d) ∧ Below w.heap.size w w' := by
  have HR := Lib.hid hr
  have HL := Lib.hid hl
  have HLB := Lib.hid hlb
  clear hr hl hlb
  go_enter Try.func38, Try.ntmps38
  go_wp2_with fail
  refine (CloneU_any xs A c _ HR.out hn).mono ?_
  rintro e w2 ⟨⟨B, d, rfl, hown⟩, hb⟩
  have HO2 := Lib.hid hown
  have HB2 := Lib.hid hb
  clear hown hb
  go_wp2
  go_loopw [12] (fun i wr => ∃ k : Nat, k ≤ ws.length ∧ i = .int .i64 k ∧ OwnU wr w.heap.size B (doW xs (ws.take k)) d ∧ Below w.heap.size w wr) (fun i _ => ws.length - (intOf i).toNat)
  case atStart => exact ⟨0, Nat.zero_le _, rfl, HO2.out, HB2.out⟩
  case round =>
    clear HO2 HB2
    obtain ⟨k, hk, rfl, hown, hbw⟩ := hrel
    have HO := Lib.hid hown
    have HBW := Lib.hid hbw
    clear hown hbw
    by_cases hlt : k < ws.length
    · obtain ⟨lb, lo, rfl, hlc⟩ := (HL.out.below HBW.out).at_ hlt
      obtain ⟨hk1, hk2⟩ := hlc k hlt
      have hbd := HLB.out ws[k] (List.getElem_mem _)
      have HT := Lib.hid (doW_take xs ws k hlt)
      clear hlc
      generalize ws[k] = zv at *
      obtain ⟨z, v⟩ := zv
      simp only at hbd hk1 hk2
      have hzl := doW_len (ws.take k) xs
      generalize doW xs (ws.take k) = zs at *
      have e0 : IntKind.i64.wrap ((k : Int) + 1) = (k : Int) + 1 := IntWalk.i64_in _ (by omega)
      have HO3 := Lib.hid (HO.out.below ((Below.refl wr.heap.size wr).alloc (Nat.le_refl _) (.cells #[.int .i64 z, U v] 59)))
      have HB3 := Lib.hid (HBW.out.alloc HBW.out.size (.cells #[.int .i64 z, U v] 59))
      by_cases hin : 0 ≤ z ∧ z < (xs.length : Int)
      · obtain ⟨m, rfl⟩ := Int.eq_ofNat_of_zero_le hin.1
        have hin2 := hin.2
        have hmz : m < zs.length := by omega
        have hmx : m < xs.length := by omega
        obtain ⟨g, rfl, hgb, hgl⟩ := HO.out.form (by omega)
        have hcell := HO3.out.cellAt m hmz
        have hfz := HO3.out.frozenAt m
        have HT2 := Lib.hid (show doW xs (ws.take (k + 1)) = zs.set m v by
          rw [HT.out]
          unfold doOne
          rw [if_pos (by rw [hzl]; exact hin), Int.toNat_natCast])
        have HO5 := Lib.hid (HO3.out.stored m v)
        have HB5 := Lib.hid (HB3.out.setCell (p := ⟨g, m, none⟩) (show w.heap.size ≤ g by omega) (U v))
        have hgne : ¬ g = wr.heap.size := by omega
        have hgne2 : ¬ wr.heap.size = g := by omega
        clear hgl
        go_wp2
        go_roundw
        case rel => exact ⟨k + 1, by omega, by go_num, by rw [HT2.out]; exact HO5.out, HB5.out⟩
        case measure => simp [intOf]; omega
      · have HT2 := Lib.hid (show doW xs (ws.take (k + 1)) = zs by rw [HT.out]; unfold doOne; rw [if_neg (by rw [hzl]; exact hin)])
        by_cases hz : z < 0
        · have hz1 : ¬ 0 ≤ z := by omega
          go_wp2
          go_roundw
          case rel => exact ⟨k + 1, by omega, by go_num, by rw [HT2.out]; exact HO3.out, HB3.out⟩
          case measure => simp [intOf]; omega
        · have hz0 : 0 ≤ z := by omega
          have hz2 : ¬ z < (xs.length : Int) := by omega
          go_wp2
          go_roundw
          case rel => exact ⟨k + 1, by omega, by go_num, by rw [HT2.out]; exact HO3.out, HB3.out⟩
          case measure => simp [intOf]; omega
    · obtain rfl : k = ws.length := by omega
      rw [List.take_length] at HO
      go_wp2
      go_ret
      exact ⟨⟨B, d, rfl, HO.out⟩, HBW.out⟩
set_option maxRecDepth 100000 in
set_option maxHeartbeats 4000000 in
theorem RedoOrder_walk (xs : List (BitVec 64)) (A : Option Addr) (c : Nat) (ws : List (Int × BitVec 64)) (L : Option Addr) (lc : Nat) (w : World) (hr : RdU w A xs) (hc : xs.length ≤ c) (hm : c ≤ maxLen)
    (hl : RdW w L ws ∧ ∀ x ∈ ws, -9223372036854775808 ≤ x.1 ∧ x.1 ≤ 9223372036854775807) (hlc : ws.length ≤ lc) (hlm : lc ≤ maxLen) :
    Calls Try.prog 9 #[.slice A xs.length c, .slice L ws.length lc] w fun e w' => e = .returned (.bool true) ∧ Below w.heap.size w w' := by
  have HR := Lib.hid hr
  have HL := Lib.hid hl.1
  have HLB := Lib.hid hl.2
  clear hr hl
  unfold maxLen at hm hlm
  by_cases h60 : 60 < xs.length
  · go_enter Try.func9, Try.ntmps9
    go_wp2_with fail
    refine (redoAwake_any _).mono ?_
    rintro e0 w1 ⟨rfl, hb⟩
    have HW := Lib.hid hb
    clear hb
    go_wp2
    go_ret
    exact ⟨rfl, HW.out⟩
  by_cases h40 : 40 < ws.length
  · go_enter Try.func9, Try.ntmps9
    go_wp2_with fail
    refine (redoAwake_any _).mono ?_
    rintro e0 w1 ⟨rfl, hb⟩
    have HW := Lib.hid hb
    clear hb
    go_wp2
    go_ret
    exact ⟨rfl, HW.out⟩
  have hyl := doW_len ws xs
  have htw := doW_twice xs ws
  have D1 := Lib.hid (fun (W : World) h h2 => rDo_any xs A c ws L lc W h (by omega) h2 (by omega) HLB.out)
  have D2 := Lib.hid (fun (B : Option Addr) (d : Nat) (W : World) (h : RdU W B (doW xs ws)) (h2 : RdW W L ws) => show Calls Try.prog 38 #[.slice B xs.length d, .slice L ws.length lc] W fun r w' => (∃ B' d', r = .returned (.slice B' xs.length d') ∧ OwnU w' W.heap.size B' (doW xs ws) d') ∧ Below W.heap.size W w' by
    have k := rDo_any (doW xs ws) B d ws L lc W h (by omega) h2 (by omega) HLB.out
    rw [hyl, htw] at k
    exact k)
  have SM := Lib.hid (fun (B B' : Option Addr) (d d' : Nat) (W : World) (h : RdU W B (doW xs ws)) (h' : RdU W B' (doW xs ws)) => show Calls Try.prog 39 #[.slice B xs.length d, .slice B' xs.length d'] W fun e w' => e = .returned (.bool true) ∧ Drawn W w' by
    have k := same1_any (doW xs ws) (doW xs ws) B B' d d' W h h' (by rw [hyl]; unfold maxLen; omega) (by rw [hyl]; unfold maxLen; omega)
    rw [hyl, beq_self_eq_true] at k
    exact k)
  have HGET := Lib.hid (fun i (hi : i < xs.length) => doW_get ws (List.getElem?_eq_getElem hi))
  generalize doW xs ws = ys at *
  clear htw
  go_enter Try.func9, Try.ntmps9
  go_wp2_with fail
  refine (redoAwake_any _).mono ?_
  rintro e0 w1 ⟨rfl, hb⟩
  have HW := Lib.hid hb
  clear hb
  go_wp2_with fail
  refine (D1.out _ (HR.out.below HW.out) (HL.out.below HW.out)).mono ?_
  rintro e0 w2 ⟨⟨B, d, rfl, ho⟩, hb⟩
  have HO := Lib.hid ho.rd
  have HW := Lib.hid (HW.out.trans (hb.mono HW.out.size))
  clear hb ho
  go_wp2_with fail
  refine (D2.out B d _ HO.out (HL.out.below HW.out)).mono ?_
  rintro e0 w3 ⟨⟨B3, d3, rfl, ho⟩, hb⟩
  have HO3 := Lib.hid ho.rd
  have HO := Lib.hid (HO.out.below hb)
  have HW := Lib.hid (HW.out.trans (hb.mono HW.out.size))
  clear hb ho
  go_wp2_with fail
  refine (SM.out B3 B d3 d _ HO3.out HO.out).mono ?_
  rintro e0 w4 ⟨rfl, hd⟩
  have HO := Lib.hid (HO.out.drawn hd)
  have HW := Lib.hid (HW.out.trans ((hd.below _).mono HW.out.size))
  clear hd HO3
  have HRX := Lib.hid (HR.out.below HW.out)
  have HLX := Lib.hid (HL.out.below HW.out)
  go_wp2
  go_loopw [6] (fun i wr => ∃ k : Nat, k ≤ xs.length ∧ i = .int .i64 k ∧ wr = w4) (fun i _ => xs.length - (intOf i).toNat)
  case atStart => exact ⟨0, Nat.zero_le _, rfl, rfl⟩
  case round =>
    obtain ⟨k, hk, rfl, rfl⟩ := hrel
    by_cases hlt : k < xs.length
    · have e1 : IntKind.i64.wrap ((k : Int) + 1) = (k : Int) + 1 := IntWalk.i64_in _ (by omega)
      obtain ⟨bx, ox, rfl, hxc⟩ := HRX.out.at_ hlt
      have hx1 := hxc k hlt
      have hly : k < ys.length := by omega
      obtain ⟨by_, oy, rfl, hyc⟩ := HO.out.at_ hly
      have hy1 := hyc k hly
      have HGE := Lib.hid (show ys[k] = lastV xs[k] ws k by
        have h := HGET.out k hlt
        rw [List.getElem?_eq_getElem hly] at h
        exact Option.some.inj h)
      clear hxc hyc
      generalize ys[k] = y at *
      generalize xs[k] = x at *
      go_wp2
      go_loopw [7, 8] (fun q i wq => ∃ j : Nat, j ≤ ws.length ∧ i = .int .i64 j ∧ q = U (lastV x (ws.take j) k) ∧ wq = wr) (fun _ i _ => ws.length - (intOf i).toNat)
      case atStart => exact ⟨0, Nat.zero_le _, rfl, rfl, rfl⟩
      case round =>
        obtain ⟨j, hj, rfl, rfl, rfl⟩ := hrel
        by_cases hlt2 : j < ws.length
        · have e2 : IntKind.i64.wrap ((j : Int) + 1) = (j : Int) + 1 := IntWalk.i64_in _ (by omega)
          have HT := Lib.hid (lastV_take x ws k j hlt2)
          obtain ⟨bl, ol, rfl, hlc2⟩ := HLX.out.at_ hlt2
          obtain ⟨hl1, hl2⟩ := hlc2 j hlt2
          clear hlc2
          generalize lastV x (ws.take j) k = v at *
          generalize ws[j] = zv at *
          obtain ⟨z, q⟩ := zv
          simp only at hl1 hl2
          by_cases hz : z = (k : Int)
          · have HT2 := Lib.hid (show lastV x (ws.take (j + 1)) k = q by rw [HT.out, if_pos hz])
            subst hz
            go_wp2
            go_roundw
            case rel => exact ⟨j + 1, by omega, by go_num, by rw [HT2.out], trivial⟩
            case measure => simp [intOf]; omega
          · have HT2 := Lib.hid (show lastV x (ws.take (j + 1)) k = v by rw [HT.out, if_neg hz])
            have hz2 : (z == (k : Int)) = false := by simpa using hz
            go_wp2
            go_roundw
            case rel => exact ⟨j + 1, by omega, by go_num, by rw [HT2.out], trivial⟩
            case measure => simp [intOf]; omega
        · obtain rfl : j = ws.length := by omega
          rw [List.take_length, ← HGE.out]
          have hyy : (y != y) = false := by simp
          go_wp2
          go_roundw
          case rel => exact ⟨k + 1, by omega, by go_num, trivial⟩
          case measure => simp [intOf]; omega
    · obtain rfl : k = xs.length := by omega
      go_wp2
      go_ret
      exact ⟨rfl, HW.out⟩
end Go.Proofs.Ytgkojedgamglgaa
