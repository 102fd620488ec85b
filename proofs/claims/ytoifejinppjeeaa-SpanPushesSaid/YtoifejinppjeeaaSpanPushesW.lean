/- The walk of the statement SpanPushes. Condition: the slices can be read; the numbers are ints. -/
import Derived.Test.YtoifejinppjeeaaSpanPlain
import Derived.BigGuard
namespace Go.Proofs.Ytoifejinppjeeaa
open Go.RowKit
set_option linter.unusedVariables false
set_option linter.unusedSimpArgs false
theorem spAwake_any (w : World) : Calls Try.prog 19 #[] w fun e w' => e = .returned (.bool true) ∧ Below w.heap.size w w' :=
  Eng.isTrue_ok (by kernel_rfl) (by kernel_rfl) (lf := 5000) (d := 200) (by kernel_rfl) w
theorem fence_room' {a : AM} {r : Nat} (h : a.room r) : a.fence.1.room r := by
  unfold AM.fence
  split
  · exact h
  · split
    · exact burn_room h
    · exact fence_room (burn_room h)
theorem sets_room : ∀ (us : List (BitVec 64)) {a : AM} {r : Nat} (f n z : Int), a.room r → (a.sets f n z us).1.room (r + us.length)
  | [], a, r, f, n, z, h => h
  | u :: us, a, r, f, n, z, h => by
    show (if (a.set f n z u).2 = 0 then AM.sets (a.set f n z u).1 f n (z + 1) us else a.set f n z u).1.room _
    split
    · exact room_mono (sets_room us f n (z + 1) (set_room h f n z u)) (by simp; omega)
    · exact room_mono (set_room h f n z u) (by simp)
theorem push_room {a : AM} {r : Nat} (h : a.room r) (f n z : Int) (us : List (BitVec 64)) : (a.push f n z us).1.room (r + us.length) := by
  have hs := sets_room us f n z h
  unfold AM.push
  split
  · split
    · split
      · exact fence_room' (flush_room hs _)
      · exact flush_room hs _
    · exact hs
  · exact room_mono h (Nat.le_add_right _ _)
theorem rn_new (us : List (BitVec 64)) (t : Nat) (c : Int) (ks : List Int) (hc : 1 ≤ c) : Rn us t 0 ((newA 6).setFuse c ks) := by
  have e : (newA 6).setFuse c ks = { newA 6 with fuse := max c 0, keep := ks } := rfl
  rw [e]
  have hln : ∀ i, i < 6 → ({ newA 6 with fuse := max c 0, keep := ks } : AM).ln i = ⟨z8, [], 0⟩ := fun i hi => newA_ln 6 i hi
  have hz : ∀ j, j < 8 → z8.getD j 0#64 = 0#64 := fun j hj => by unfold z8; rw [List.getD_eq_getElem?_getD, List.getElem?_replicate, if_pos hj]; rfl
  refine ⟨⟨newA_len 6, fun i hi => ?_⟩, rfl, by show 0 < max c 0; omega, fun p hp => ?_⟩
  · rw [hln i hi]
    exact ⟨rfl, fun j hj => .inl (hz j hj), (fun s hs => by cases hs), (fun s hs => by cases hs)⟩
  · rw [if_neg (by omega)]
    unfold AM.at_
    rw [show ((p : Int) / 8).toNat = p / 8 by omega, show (p : Int) % 8 = ((p % 8 : Nat) : Int) by omega, hln _ (by omega), at_eq _ _ (by omega)]
    exact hz _ (by omega)
theorem allOf_get (a : AM) (f : Int) (m i : Nat) (h : i < m) : (a.allOf f m)[i]'(by rw [allOf_len]; exact h) = a.at_ (8 * f + (i : Int)) := by simp [AM.allOf]
set_option maxRecDepth 100000 in
set_option maxHeartbeats 8000000 in
theorem SpanPushes_walk (z : Int) (us : List (BitVec 64)) (A : Option Addr) (ac : Nat) (c : Int) (ks : List Int) (K : Option Addr) (kc : Nat) (w : World) (hz0 : -9223372036854775808 ≤ z) (hz1 : z ≤ 9223372036854775807) (hu : RdU w A us) (huc : us.length ≤ ac) (hum : ac ≤ maxLen) (hc0 : -9223372036854775808 ≤ c) (hc1 : c ≤ 9223372036854775807)
    (hk : RdF I6 w K ks ∧ ∀ z ∈ ks, -9223372036854775808 ≤ z ∧ z ≤ 9223372036854775807) (hkc : ks.length ≤ kc) (hkm : kc ≤ maxLen) :
    Calls Try.prog 11 #[.int .i64 z, .slice A us.length ac, .int .i64 c, .slice K ks.length kc] w fun e w' => e = .returned (.bool true) ∧ Below w.heap.size w w' := by
  have KA := Lib.hid (fun W => spAwake_any W)
  have KN := Lib.hid (fun W => show Calls Try.prog 20 #[.int .i64 6] W (fun e w' => Made W.heap.size (newA 6) e w' ∧ Below W.heap.size W w') from mNew_any 6 W (by omega) (by omega))
  have HU := Lib.hid hu
  have HK := Lib.hid hk.1
  have HKM := Lib.hid hkm
  clear hu hk hum hkm
  by_cases q1 : z < 0
  · skip
    have HW := Lib.hid (Below.refl w.heap.size w)
    go_enter Try.func11, Try.ntmps11
    go_wp2_with fail
    refine (KA.out _).mono ?_
    rintro e w1 ⟨rfl, hb⟩
    have HW := Lib.hid (HW.out.trans (hb.mono HW.out.size))
    clear hb
    go_wp2
    go_ret
    exact ⟨rfl, HW.out⟩
  by_cases q2 : 20 < z
  · skip
    have HW := Lib.hid (Below.refl w.heap.size w)
    go_enter Try.func11, Try.ntmps11
    go_wp2_with fail
    refine (KA.out _).mono ?_
    rintro e w1 ⟨rfl, hb⟩
    have HW := Lib.hid (HW.out.trans (hb.mono HW.out.size))
    clear hb
    go_wp2
    go_ret
    exact ⟨rfl, HW.out⟩
  by_cases q3 : (us.length : Int) < 1
  · skip
    have HW := Lib.hid (Below.refl w.heap.size w)
    go_enter Try.func11, Try.ntmps11
    go_wp2_with fail
    refine (KA.out _).mono ?_
    rintro e w1 ⟨rfl, hb⟩
    have HW := Lib.hid (HW.out.trans (hb.mono HW.out.size))
    clear hb
    go_wp2
    go_ret
    exact ⟨rfl, HW.out⟩
  by_cases q4 : 10 < (us.length : Int)
  · skip
    have HW := Lib.hid (Below.refl w.heap.size w)
    go_enter Try.func11, Try.ntmps11
    go_wp2_with fail
    refine (KA.out _).mono ?_
    rintro e w1 ⟨rfl, hb⟩
    have HW := Lib.hid (HW.out.trans (hb.mono HW.out.size))
    clear hb
    go_wp2
    go_ret
    exact ⟨rfl, HW.out⟩
  by_cases q5 : c < 1
  · skip
    have HW := Lib.hid (Below.refl w.heap.size w)
    go_enter Try.func11, Try.ntmps11
    go_wp2_with fail
    refine (KA.out _).mono ?_
    rintro e w1 ⟨rfl, hb⟩
    have HW := Lib.hid (HW.out.trans (hb.mono HW.out.size))
    clear hb
    go_wp2
    go_ret
    exact ⟨rfl, HW.out⟩
  by_cases q6 : 6 < (ks.length : Int)
  · skip
    have HW := Lib.hid (Below.refl w.heap.size w)
    go_enter Try.func11, Try.ntmps11
    go_wp2_with fail
    refine (KA.out _).mono ?_
    rintro e w1 ⟨rfl, hb⟩
    have HW := Lib.hid (HW.out.trans (hb.mono HW.out.size))
    clear hb
    go_wp2
    go_ret
    exact ⟨rfl, HW.out⟩
  obtain ⟨t, rfl⟩ := Int.eq_ofNat_of_zero_le (show 0 ≤ z by omega)
  have HRN := Lib.hid (rn_new us t c ks (by omega))
  have HRM := Lib.hid (show ((newA 6).setFuse c ks).room 0 from newA_room 6 0)
  have HCN := Lib.hid (show ((newA 6).setFuse c ks).cnt 0 from ⟨by show max c 0 ≤ _; omega, by simp [newA, fromA, AM.setFuse], by simp [newA, fromA, AM.setFuse], by simp [newA, fromA, AM.setFuse]⟩)
  have HLN := Lib.hid (newA_len 6)
  have KO := Lib.hid (fun m own G W hm => spOf_yes m own G (newA 6) 1 4 W hm (by rw [HLN.out]; exact decide_eq_true ⟨by omega, by omega, by omega, by omega⟩))
  have KFU := Lib.hid (fun m own G W hm h => mFuse_any m own G (newA 6) c ks K kc W hm h (by omega) hc0 hc1)
  have KPU := Lib.hid (fun m own G W hm h => spPush_any m own G ((newA 6).setFuse c ks) 1 4 (t : Int) us A ac 0 0 W hm HRM.out HCN.out (by omega) (by omega) (by omega) ⟨by omega⟩ ⟨by omega, by omega⟩ h)
  have HPA := Lib.hid (push_all HRN.out (by omega) (by omega))
  have HPR := Lib.hid (push_room HRM.out 1 4 (t : Int) us)
  have HP1 := Lib.hid (HRN.out.p1.push (us := us) (t := t))
  generalize ((newA 6).setFuse c ks).push 1 4 (t : Int) us = pr at *
  obtain ⟨a2, er⟩ := pr
  simp only at HPA HPR HP1
  have HAL := Lib.hid (fun (W : World) (m : Nat) (own : Nat → Nat) (G : MG) (hm : MemAt W m own G (a2.crash ks).on) => show Calls Try.prog 49 #[spV m 1 4] W (fun e w' => (∃ B d, e = .returned (.tuple #[.slice B 32 d, .int .i64 0]) ∧ OwnU w' W.heap.size B ((a2.crash ks).on.allOf 1 32) d) ∧ Below W.heap.size W w') from spAll_on m own G (a2.crash ks).on 1 4 W hm (crash_room (room_mono HPR.out (by omega)) ks) ⟨by omega⟩ rfl (by
    have h := (HP1.out.crash ks).len
    show (1 : Int) + ((4 : Nat) : Int) ≤ ((a2.crash ks).ls.length : Int)
    omega))
  have HWORD := Lib.hid (fun i (hi : i < 32) => ((HP1.out.crash ks).of_ls (b := (a2.crash ks).on) rfl).word (8 + i) (by omega))
  have HVL := Lib.hid (allOf_len (a2.crash ks).on 1 32)
  have HVG := Lib.hid (fun i (hi : i < 32) (h : i < ((a2.crash ks).on.allOf 1 32).length) => show ((a2.crash ks).on.allOf 1 32)[i]'h = (a2.crash ks).on.at_ ((8 + i : Nat) : Int) by
    rw [allOf_get _ _ _ _ (by omega)]
    congr 1)
  generalize (newA 6).setFuse c ks = a1 at *
  clear HRN HRM HCN
  have HW := Lib.hid (Below.refl w.heap.size w)
  go_enter Try.func11, Try.ntmps11
  go_wp2_with fail
  refine (KA.out _).mono ?_
  rintro e w1 ⟨rfl, hb⟩
  have HW := Lib.hid (HW.out.trans (hb.mono HW.out.size))
  clear hb
  go_wp2_with fail
  refine (KN.out _).mono ?_
  rintro e w2 ⟨⟨m, own, G, rfl, hm, hlow⟩, hb⟩
  have HLOW := Lib.hid (fun k (hk : k < w.heap.size) => hlow k (Nat.lt_of_lt_of_le hk HW.out.size))
  have HW := Lib.hid (HW.out.trans (hb.mono HW.out.size))
  clear hb
  have HM := Lib.hid hm
  clear hm hlow
  generalize newA 6 = a0 at *
  go_wp2_with fail
  refine (KO.out _ _ _ _ HM.out).mono ?_
  rintro e w3 ⟨rfl, hb⟩
  have HW := Lib.hid (HW.out.trans (hb.mono HW.out.size))
  have HM := Lib.hid (HM.out.below hb)
  clear hb
  unfold spV at *
  have HX := Lib.hid (heap_alloc_new w3 (.cells #[.pointer (some ⟨m, 0, none⟩), .int .i64 1, .int .i64 4] 29))
  have HXz := Lib.hid (HM.out.fresh _ (Nat.le_refl _))
  have hba : Below w3.heap.size w3 (w3.alloc (.cells #[.pointer (some ⟨m, 0, none⟩), .int .i64 1, .int .i64 4] 29)) := (Below.refl _ _).alloc (Nat.le_refl _) _
  have HW := Lib.hid (HW.out.trans (hba.mono HW.out.size))
  have HM := Lib.hid (HM.out.below hba)
  clear hba
  go_wp2_with fail
  refine (KFU.out m _ _ _ HM.out (HK.out.below HW.out)).mono ?_
  rintro e w4 ⟨rfl, own1, hm2, hfr⟩
  have HLOWn := Lib.hid (hfr.low HW.out.size HLOW.out)
  have HW := Lib.hid (HW.out.trans (hfr.below HW.out.size HLOW.out))
  obtain ⟨hx_, hz_⟩ := hfr.heap HX.out HXz.out
  have HX := Lib.hid hx_
  have HXz := Lib.hid hz_
  clear hx_ hz_
  have HM := Lib.hid hm2
  clear hm2 hfr
  have HLOW := HLOWn
  clear HLOWn
  have c0 := Lib.cell_of_heap HX.out 0
  have c1 := Lib.cell_of_heap HX.out 1
  have c2 := Lib.cell_of_heap HX.out 2
  go_wp2_with fail
  refine (KPU.out m _ _ _ HM.out (fun W own9 hf9 => HU.out.below (HW.out.trans (hf9.below HW.out.size HLOW.out)))).mono ?_
  rintro e w5 ⟨rfl, own2, hm2, hfr⟩
  have HLOWn := Lib.hid (hfr.low HW.out.size HLOW.out)
  have HW := Lib.hid (HW.out.trans (hfr.below HW.out.size HLOW.out))
  obtain ⟨hx_, hz_⟩ := hfr.heap HX.out HXz.out
  have HX := Lib.hid hx_
  have HXz := Lib.hid hz_
  clear hx_ hz_
  have HM := Lib.hid hm2
  clear hm2 hfr
  have HLOW := HLOWn
  clear HLOWn
  clear c0 c1 c2
  rcases HPA.out with ⟨rfl, hoff⟩ | ⟨rfl, hoff, hwd⟩
  · skip
    have KOF := Lib.hid (mOff_any HM.out)
    rw [hoff] at KOF
    clear hoff HPA
    go_wp2_with fail
    refine KOF.out.mono ?_
    rintro e w9 ⟨rfl, rfl⟩
    have KC := Lib.hid (mCrash_any m _ G a2 ks K kc _ HM.out (room_mono HPR.out (by omega)) (fun W own9 hf9 => HK.out.below (HW.out.trans (hf9.below HW.out.size HLOW.out))) hkc HKM.out)
    go_wp2_with fail
    refine (KC.out).mono ?_
    rintro e w6 ⟨rfl, own3, hm2, hfr⟩
    have HLOWn := Lib.hid (hfr.low HW.out.size HLOW.out)
    have HW := Lib.hid (HW.out.trans (hfr.below HW.out.size HLOW.out))
    obtain ⟨hx_, hz_⟩ := hfr.heap HX.out HXz.out
    have HX := Lib.hid hx_
    have HXz := Lib.hid hz_
    clear hx_ hz_
    have HM := Lib.hid hm2
    clear hm2 hfr
    have HLOW := HLOWn
    clear HLOWn
    go_wp2_with fail
    refine (mOn_any HM.out).mono ?_
    rintro e w7 ⟨rfl, own4, hm2, hfr⟩
    have HLOWn := Lib.hid (hfr.low HW.out.size HLOW.out)
    have HW := Lib.hid (HW.out.trans (hfr.below HW.out.size HLOW.out))
    obtain ⟨hx_, hz_⟩ := hfr.heap HX.out HXz.out
    have HX := Lib.hid hx_
    have HXz := Lib.hid hz_
    clear hx_ hz_
    have HM := Lib.hid hm2
    clear hm2 hfr
    have HLOW := HLOWn
    clear HLOWn
    have c0 := Lib.cell_of_heap HX.out 0
    have c1 := Lib.cell_of_heap HX.out 1
    have c2 := Lib.cell_of_heap HX.out 2
    go_wp2_with fail
    refine (HAL.out _ _ _ _ HM.out).mono ?_
    rintro e w8 ⟨⟨B, d, rfl, ho⟩, hb⟩
    have HV := Lib.hid ho.rd
    have HW := Lib.hid (HW.out.trans (hb.mono HW.out.size))
    clear ho hb c0 c1 c2
    have HU2 := Lib.hid (HU.out.below HW.out)
    generalize (a2.crash ks).on.allOf 1 32 = vs at *
    go_wp2
    go_loopw [17] (fun i wr => ∃ k : Nat, k ≤ 32 ∧ i = .int .i64 k ∧ Drawn w8 wr) (fun i _ => 32 - (intOf i).toNat)
    case atStart => exact ⟨0, by omega, rfl, Drawn.refl _⟩
    case round =>
      obtain ⟨p, hp, rfl, hd⟩ := hrel
      have HD := Lib.hid hd
      clear hd
      by_cases hp32 : p < 32
      · have hp32' : (p : Int) < 32 := by omega
        have hpv : p < vs.length := by rw [HVL.out]; omega
        obtain ⟨vb, vo, rfl, hvc⟩ := (HV.out.drawn HD.out).at_ hpv
        have hv1 := hvc p hpv
        have hwo := HWORD.out p hp32
        have hvg := HVG.out p hp32 hpv
        rw [← hvg] at hwo
        have e9 : IntKind.i64.wrap ((p : Int) + 1) = (p : Int) + 1 := IntWalk.i64_in _ (by omega)
        have e8 : IntKind.i64.wrap ((t : Int) + (us.length : Int)) = (t : Int) + (us.length : Int) := IntWalk.i64_in _ (by omega)
        clear hvc
        clear hvg
        generalize vs[p] = v at *
        clear hpv
        by_cases hin : t ≤ p ∧ p < t + us.length
        · obtain ⟨hi1, hi2⟩ := hin
          have hj : p - t < us.length := by omega
          obtain ⟨ub, uo, rfl, huc⟩ := (HU2.out.drawn HD.out).at_ hj
          have hu1 := huc (p - t) hj
          have hio1 : (t : Int) ≤ (p : Int) := by omega
          have hio2 : (p : Int) < (t : Int) + (us.length : Int) := by omega
          have e7 : IntKind.i64.wrap ((p : Int) - (t : Int)) = (p : Int) - (t : Int) := IntWalk.i64_in _ (by omega)
          have e6 : ((p : Int) - (t : Int)).toNat = p - t := by omega
          have e5 : (0 : Int) ≤ (p : Int) - (t : Int) := by omega
          have e4 : (p : Int) - (t : Int) < (us.length : Int) := by omega
          clear huc
          rcases hwo with hv0 | ⟨q, hq, hq1, hq2⟩
          · have hvb : (v != 0#64) = false := by rw [hv0]; rfl
            have hvb2 : (v != BitVec.ofInt 64 0) = false := hvb
            clear hv0 hu1
            generalize us[p - t] = u at *
            go_wp2
            go_quiet (fail)
            go_wp2
            go_roundw
            case rel => exact ⟨p + 1, by omega, by go_num, HD.out.trans (Drawn.some_ _ _)⟩
            case measure => simp [intOf]; omega
          · have hvu : v = us[p - t] := by rw [hq2]; congr 1; omega
            clear hq2 hq1
            subst hvu
            have hvv : (us[p - t] != us[p - t]) = false := by simp
            by_cases hv0 : us[p - t] = 0#64
            · have hvb : (us[p - t] != 0#64) = false := by rw [hv0]; rfl
              have hvb2 : (us[p - t] != BitVec.ofInt 64 0) = false := hvb
              clear hv0
              generalize us[p - t] = u at *
              go_wp2
              go_quiet (fail)
              go_wp2
              go_roundw
              case rel => exact ⟨p + 1, by omega, by go_num, HD.out.trans (Drawn.some_ _ _)⟩
              case measure => simp [intOf]; omega
            · have hvb : (us[p - t] != 0#64) = true := by rw [bne_iff_ne]; exact hv0
              have hvb2 : (us[p - t] != BitVec.ofInt 64 0) = true := hvb
              clear hv0
              generalize us[p - t] = u at *
              go_wp2
              go_quiet (fail)
              go_wp2
              go_roundw
              case rel => exact ⟨p + 1, by omega, by go_num, HD.out.trans (Drawn.some_ _ _)⟩
              case measure => simp [intOf]; omega
        · have hv0 : v = 0#64 := by
            rcases hwo with h | ⟨q, hq, hq1, _⟩
            · exact h
            · omega
          have hvb : (v != 0#64) = false := by rw [hv0]; rfl
          have hvb2 : (v != BitVec.ofInt 64 0) = false := hvb
          clear hv0 hwo
          by_cases hio : (t : Int) ≤ (p : Int)
          · have hio2 : ¬ (p : Int) < (t : Int) + (us.length : Int) := by omega
            go_wp2
            go_quiet (fail)
            go_wp2
            go_roundw
            case rel => exact ⟨p + 1, by omega, by go_num, HD.out.trans (Drawn.some_ _ _)⟩
            case measure => simp [intOf]; omega
          · go_wp2
            go_quiet (fail)
            go_wp2
            go_roundw
            case rel => exact ⟨p + 1, by omega, by go_num, HD.out.trans (Drawn.some_ _ _)⟩
            case measure => simp [intOf]; omega
      · obtain rfl : p = 32 := by omega
        have HW := Lib.hid (HW.out.trans ((HD.out.below _).mono HW.out.size))
        go_wp2
        go_ret
        exact ⟨rfl, HW.out⟩
  · skip
    have KOF := Lib.hid (mOff_any HM.out)
    rw [hoff] at KOF
    have HWD := Lib.hid (fun i (hi : i < 32) => hwd ks (8 + i) (by omega))
    clear hwd
    clear hoff HPA
    go_wp2_with fail
    refine KOF.out.mono ?_
    rintro e w9 ⟨rfl, rfl⟩
    have KC := Lib.hid (mCrash_any m _ G a2 ks K kc _ HM.out (room_mono HPR.out (by omega)) (fun W own9 hf9 => HK.out.below (HW.out.trans (hf9.below HW.out.size HLOW.out))) hkc HKM.out)
    go_wp2_with fail
    refine (KC.out).mono ?_
    rintro e w6 ⟨rfl, own3, hm2, hfr⟩
    have HLOWn := Lib.hid (hfr.low HW.out.size HLOW.out)
    have HW := Lib.hid (HW.out.trans (hfr.below HW.out.size HLOW.out))
    obtain ⟨hx_, hz_⟩ := hfr.heap HX.out HXz.out
    have HX := Lib.hid hx_
    have HXz := Lib.hid hz_
    clear hx_ hz_
    have HM := Lib.hid hm2
    clear hm2 hfr
    have HLOW := HLOWn
    clear HLOWn
    go_wp2_with fail
    refine (mOn_any HM.out).mono ?_
    rintro e w7 ⟨rfl, own4, hm2, hfr⟩
    have HLOWn := Lib.hid (hfr.low HW.out.size HLOW.out)
    have HW := Lib.hid (HW.out.trans (hfr.below HW.out.size HLOW.out))
    obtain ⟨hx_, hz_⟩ := hfr.heap HX.out HXz.out
    have HX := Lib.hid hx_
    have HXz := Lib.hid hz_
    clear hx_ hz_
    have HM := Lib.hid hm2
    clear hm2 hfr
    have HLOW := HLOWn
    clear HLOWn
    have c0 := Lib.cell_of_heap HX.out 0
    have c1 := Lib.cell_of_heap HX.out 1
    have c2 := Lib.cell_of_heap HX.out 2
    go_wp2_with fail
    refine (HAL.out _ _ _ _ HM.out).mono ?_
    rintro e w8 ⟨⟨B, d, rfl, ho⟩, hb⟩
    have HV := Lib.hid ho.rd
    have HW := Lib.hid (HW.out.trans (hb.mono HW.out.size))
    clear ho hb c0 c1 c2
    have HU2 := Lib.hid (HU.out.below HW.out)
    generalize (a2.crash ks).on.allOf 1 32 = vs at *
    go_wp2
    go_loopw [17] (fun i wr => ∃ k : Nat, k ≤ 32 ∧ i = .int .i64 k ∧ Drawn w8 wr) (fun i _ => 32 - (intOf i).toNat)
    case atStart => exact ⟨0, by omega, rfl, Drawn.refl _⟩
    case round =>
      obtain ⟨p, hp, rfl, hd⟩ := hrel
      have HD := Lib.hid hd
      clear hd
      by_cases hp32 : p < 32
      · have hp32' : (p : Int) < 32 := by omega
        have hpv : p < vs.length := by rw [HVL.out]; omega
        obtain ⟨vb, vo, rfl, hvc⟩ := (HV.out.drawn HD.out).at_ hpv
        have hv1 := hvc p hpv
        have hwo := HWORD.out p hp32
        have hvg := HVG.out p hp32 hpv
        rw [← hvg] at hwo
        have e9 : IntKind.i64.wrap ((p : Int) + 1) = (p : Int) + 1 := IntWalk.i64_in _ (by omega)
        have e8 : IntKind.i64.wrap ((t : Int) + (us.length : Int)) = (t : Int) + (us.length : Int) := IntWalk.i64_in _ (by omega)
        clear hvc
        have hw2 := HWD.out p hp32
        rw [← hvg] at hw2
        clear hvg
        generalize vs[p] = v at *
        clear hpv
        by_cases hin : t ≤ p ∧ p < t + us.length
        · obtain ⟨hi1, hi2⟩ := hin
          have hj : p - t < us.length := by omega
          obtain ⟨ub, uo, rfl, huc⟩ := (HU2.out.drawn HD.out).at_ hj
          have hu1 := huc (p - t) hj
          have hio1 : (t : Int) ≤ (p : Int) := by omega
          have hio2 : (p : Int) < (t : Int) + (us.length : Int) := by omega
          have e7 : IntKind.i64.wrap ((p : Int) - (t : Int)) = (p : Int) - (t : Int) := IntWalk.i64_in _ (by omega)
          have e6 : ((p : Int) - (t : Int)).toNat = p - t := by omega
          have e5 : (0 : Int) ≤ (p : Int) - (t : Int) := by omega
          have e4 : (p : Int) - (t : Int) < (us.length : Int) := by omega
          clear huc
          have hvu : v = us[p - t] := by
            rw [hw2, if_pos (by omega), show 8 + p - 8 - t = p - t by omega, List.getD_eq_getElem?_getD, List.getElem?_eq_getElem hj]; rfl
          clear hw2 hwo
          subst hvu
          have hvv : (us[p - t] != us[p - t]) = false := by simp
          by_cases hv0 : us[p - t] = 0#64
          · have hvb : (us[p - t] != 0#64) = false := by rw [hv0]; rfl
            have hvb2 : (us[p - t] != BitVec.ofInt 64 0) = false := hvb
            clear hv0
            generalize us[p - t] = u at *
            go_wp2
            go_quiet (fail)
            go_wp2
            go_roundw
            case rel => exact ⟨p + 1, by omega, by go_num, HD.out.trans (Drawn.some_ _ _)⟩
            case measure => simp [intOf]; omega
          · have hvb : (us[p - t] != 0#64) = true := by rw [bne_iff_ne]; exact hv0
            have hvb2 : (us[p - t] != BitVec.ofInt 64 0) = true := hvb
            clear hv0
            generalize us[p - t] = u at *
            go_wp2
            go_quiet (fail)
            go_wp2
            go_roundw
            case rel => exact ⟨p + 1, by omega, by go_num, HD.out.trans (Drawn.some_ _ _)⟩
            case measure => simp [intOf]; omega
        · have hv0 : v = 0#64 := by
            rcases hwo with h | ⟨q, hq, hq1, _⟩
            · exact h
            · omega
          have hvb : (v != 0#64) = false := by rw [hv0]; rfl
          have hvb2 : (v != BitVec.ofInt 64 0) = false := hvb
          clear hv0 hwo hw2
          by_cases hio : (t : Int) ≤ (p : Int)
          · have hio2 : ¬ (p : Int) < (t : Int) + (us.length : Int) := by omega
            go_wp2
            go_quiet (fail)
            go_wp2
            go_roundw
            case rel => exact ⟨p + 1, by omega, by go_num, HD.out.trans (Drawn.some_ _ _)⟩
            case measure => simp [intOf]; omega
          · go_wp2
            go_quiet (fail)
            go_wp2
            go_roundw
            case rel => exact ⟨p + 1, by omega, by go_num, HD.out.trans (Drawn.some_ _ _)⟩
            case measure => simp [intOf]; omega
      · obtain rfl : p = 32 := by omega
        have HW := Lib.hid (HW.out.trans ((HD.out.below _).mono HW.out.size))
        go_wp2
        go_ret
        exact ⟨rfl, HW.out⟩
end Go.Proofs.Ytoifejinppjeeaa
