/- The walk of the statement SpanSays. Condition: the slices can be read; the numbers are ints. -/
import Derived.Test.YtoifejinppjeeaaSpanFrame
import Derived.BigGuard
namespace Go.Proofs.Ytoifejinppjeeaa
open Go.RowKit
set_option linter.unusedVariables false
set_option linter.unusedSimpArgs false
set_option maxRecDepth 100000 in
set_option maxHeartbeats 8000000 in
theorem SpanSays_walk (xs : List (BitVec 64)) (A : Option Addr) (c : Nat) (f n z : Int) (v : BitVec 64) (us : List (BitVec 64)) (B : Option Addr) (d : Nat) (w : World) (hx : RdU w A xs) (hxc : xs.length ≤ c) (hxm : c ≤ maxLen) (hf0 : -9223372036854775808 ≤ f) (hf1 : f ≤ 9223372036854775807) (hn0 : -9223372036854775808 ≤ n) (hn1 : n ≤ 9223372036854775807) (hz0 : -9223372036854775808 ≤ z) (hz1 : z ≤ 9223372036854775807) (hu : RdU w B us) (hud : us.length ≤ d) (hum : d ≤ maxLen) :
    Calls Try.prog 10 #[.slice A xs.length c, .int .i64 f, .int .i64 n, .int .i64 z, U v, .slice B us.length d] w fun e w' => e = .returned (.bool true) ∧ Below w.heap.size w w' := by
  have KA := Lib.hid (fun W => spAwake_any W)
  have HX := Lib.hid hx
  have HU := Lib.hid hu
  have HXM := Lib.hid hxm
  clear hx hu hum hxm
  by_cases q1 : 200 < (xs.length : Int)
  · skip
    have HW := Lib.hid (Below.refl w.heap.size w)
    go_enter Try.func10, Try.ntmps10
    go_wp2_with fail
    refine (KA.out _).mono ?_
    rintro e w1 ⟨rfl, hb⟩
    have HW := Lib.hid (HW.out.trans (hb.mono HW.out.size))
    clear hb
    go_wp2
    go_ret
    exact ⟨rfl, HW.out⟩
  by_cases q2 : xs.length = 0
  · have q2b : ((xs.length : Int) == 0) = true := by rw [beq_iff_eq]; omega
    clear q2
    have HW := Lib.hid (Below.refl w.heap.size w)
    go_enter Try.func10, Try.ntmps10
    go_wp2_with fail
    refine (KA.out _).mono ?_
    rintro e w1 ⟨rfl, hb⟩
    have HW := Lib.hid (HW.out.trans (hb.mono HW.out.size))
    clear hb
    go_wp2
    go_ret
    exact ⟨rfl, HW.out⟩
  have q2b : ((xs.length : Int) == 0) = false := by rw [beq_eq_false_iff_ne]; omega
  have q6 : (0 : Int) ≤ (xs.length : Int) := by omega
  by_cases q3 : ¬ xs.length % 8 = 0
  · have q3b : ((xs.length : Int) % 8 != 0) = true := by rw [bne_iff_ne]; omega
    clear q3
    have HW := Lib.hid (Below.refl w.heap.size w)
    go_enter Try.func10, Try.ntmps10
    go_wp2_with fail
    refine (KA.out _).mono ?_
    rintro e w1 ⟨rfl, hb⟩
    have HW := Lib.hid (HW.out.trans (hb.mono HW.out.size))
    clear hb
    go_wp2
    go_ret
    exact ⟨rfl, HW.out⟩
  obtain ⟨N, hl⟩ : ∃ N, xs.length = 8 * N := ⟨xs.length / 8, by omega⟩
  have hN0 : 0 < N := by omega
  have hN : N ≤ 25 := by omega
  have HXL := Lib.hid hl
  rw [hl] at hxc ⊢
  clear hl q3 q2b q6 q1 q2
  have q2b : (8 * (N : Int) == 0) = false := by rw [beq_eq_false_iff_ne]; omega
  have q3 : 8 * (N : Int) % 8 = 0 := by omega
  have q4 : 8 * (N : Int) / 8 = (N : Int) := by omega
  have q5 : (0 : Int) ≤ 8 * (N : Int) := by omega
  have q7 : 8 * (N : Int) ≤ 200 := by omega
  by_cases q8 : 40 < (us.length : Int)
  · skip
    have HW := Lib.hid (Below.refl w.heap.size w)
    go_enter Try.func10, Try.ntmps10
    go_wp2_with fail
    refine (KA.out _).mono ?_
    rintro e w1 ⟨rfl, hb⟩
    have HW := Lib.hid (HW.out.trans (hb.mono HW.out.size))
    clear hb
    go_wp2
    go_ret
    exact ⟨rfl, HW.out⟩
  have KN := Lib.hid (fun W (h : RdU W A xs) => show Calls Try.prog 36 #[.slice A (8 * N) c] W (fun e w' => Made W.heap.size (fromA xs N) e w' ∧ Below W.heap.size W w') from by have h9 := mFrom_any xs N A c W h (by rw [HXL.out]; exact hxc) HXM.out HXL.out hN0 (by omega); rwa [HXL.out] at h9)
  have HLEN := Lib.hid (fromL_len xs N)
  have HW := Lib.hid (Below.refl w.heap.size w)
  go_enter Try.func10, Try.ntmps10
  go_wp2_with fail
  refine (KA.out _).mono ?_
  rintro e w1 ⟨rfl, hb⟩
  have HW := Lib.hid (HW.out.trans (hb.mono HW.out.size))
  clear hb
  have HX := Lib.hid (HX.out.below HW.out)
  have HU0 := Lib.hid HU.out
  have HU := Lib.hid (HU.out.below HW.out)
  go_wp2_with fail
  refine (KN.out _ HX.out).mono ?_
  rintro e w2 ⟨⟨m, own, G, rfl, hm, hlow⟩, hb⟩
  have HLOW := Lib.hid (fun k (hk : k < w.heap.size) => hlow k (Nat.lt_of_lt_of_le hk HW.out.size))
  have HW := Lib.hid (HW.out.trans (hb.mono HW.out.size))
  have HX := Lib.hid (HX.out.below hb)
  have HU := Lib.hid (HU.out.below hb)
  clear hb
  have HM := Lib.hid hm
  clear hm hlow
  by_cases r1 : f < 0
  · skip
    have KO := Lib.hid (fun W hm => spOf_no m own G (fromA xs N) f n W hm (by rw [show (fromA xs N).ls.length = N from HLEN.out]; exact decide_eq_false (by omega)))
    generalize fromA xs N = a0 at *
    go_wp2_with fail
    refine (KO.out _ HM.out).mono ?_
    rintro e w3 ⟨rfl, hb⟩
    have HW := Lib.hid (HW.out.trans (hb.mono HW.out.size))
    have HX := Lib.hid (HX.out.below hb)
    have HU := Lib.hid (HU.out.below hb)
    have HM := Lib.hid (HM.out.below hb)
    clear hb
    go_wp2
    go_ret
    exact ⟨rfl, HW.out.alloc HW.out.size _⟩
  by_cases r2 : (N : Int) ≤ f
  · skip
    have KO := Lib.hid (fun W hm => spOf_no m own G (fromA xs N) f n W hm (by rw [show (fromA xs N).ls.length = N from HLEN.out]; exact decide_eq_false (by omega)))
    generalize fromA xs N = a0 at *
    go_wp2_with fail
    refine (KO.out _ HM.out).mono ?_
    rintro e w3 ⟨rfl, hb⟩
    have HW := Lib.hid (HW.out.trans (hb.mono HW.out.size))
    have HX := Lib.hid (HX.out.below hb)
    have HU := Lib.hid (HU.out.below hb)
    have HM := Lib.hid (HM.out.below hb)
    clear hb
    go_wp2
    go_ret
    exact ⟨rfl, HW.out.alloc HW.out.size _⟩
  by_cases r3 : n < 1
  · skip
    have KO := Lib.hid (fun W hm => spOf_no m own G (fromA xs N) f n W hm (by rw [show (fromA xs N).ls.length = N from HLEN.out]; exact decide_eq_false (by omega)))
    generalize fromA xs N = a0 at *
    go_wp2_with fail
    refine (KO.out _ HM.out).mono ?_
    rintro e w3 ⟨rfl, hb⟩
    have HW := Lib.hid (HW.out.trans (hb.mono HW.out.size))
    have HX := Lib.hid (HX.out.below hb)
    have HU := Lib.hid (HU.out.below hb)
    have HM := Lib.hid (HM.out.below hb)
    clear hb
    go_wp2
    go_ret
    exact ⟨rfl, HW.out.alloc HW.out.size _⟩
  have w1_ : IntKind.i64.wrap ((N : Int) - f) = (N : Int) - f := IntWalk.i64_in _ (by omega)
  by_cases r4 : (N : Int) - f < n
  · have r4b : decide (n ≤ (N : Int) - f) = false := decide_eq_false (by omega)
    have KO := Lib.hid (fun W hm => spOf_no m own G (fromA xs N) f n W hm (by rw [show (fromA xs N).ls.length = N from HLEN.out]; exact decide_eq_false (by omega)))
    generalize fromA xs N = a0 at *
    go_wp2_with fail
    refine (KO.out _ HM.out).mono ?_
    rintro e w3 ⟨rfl, hb⟩
    have HW := Lib.hid (HW.out.trans (hb.mono HW.out.size))
    have HX := Lib.hid (HX.out.below hb)
    have HU := Lib.hid (HU.out.below hb)
    have HM := Lib.hid (HM.out.below hb)
    clear hb
    go_wp2
    go_ret
    exact ⟨rfl, HW.out.alloc HW.out.size _⟩
  obtain ⟨F, rfl⟩ := Int.eq_ofNat_of_zero_le (show 0 ≤ f by omega)
  obtain ⟨M, rfl⟩ := Int.eq_ofNat_of_zero_le (show 0 ≤ n by omega)
  have KO := Lib.hid (fun W hm => spOf_yes m own G (fromA xs N) F M W hm (by rw [show (fromA xs N).ls.length = N from HLEN.out]; exact decide_eq_true ⟨by omega, by omega, by omega, by omega⟩))
  have e8 : IntKind.i64.wrap (8 * (M : Int)) = 8 * (M : Int) := IntWalk.i64_in _ (by omega)
  have e9 : IntKind.i64.wrap (8 * (F : Int)) = 8 * (F : Int) := IntWalk.i64_in _ (by omega)
  have HRM := Lib.hid (fromA_room xs N)
  have HCN := Lib.hid (fromA_cnt xs N)
  have hFM : F + M ≤ N := by omega
  have hSF : SpFit (F : Int) (M : Int) := ⟨by omega⟩
  go_wp2_with fail
  refine (KO.out _ HM.out).mono ?_
  rintro e w3 ⟨rfl, hb⟩
  have HW := Lib.hid (HW.out.trans (hb.mono HW.out.size))
  have HX := Lib.hid (HX.out.below hb)
  have HU := Lib.hid (HU.out.below hb)
  have HM := Lib.hid (HM.out.below hb)
  clear hb
  unfold spV at *
  have HS := Lib.hid (heap_alloc_new w3 (.cells #[.pointer (some ⟨m, 0, none⟩), .int .i64 (F : Int), .int .i64 (M : Int)] 29))
  have HSz := Lib.hid (HM.out.fresh _ (Nat.le_refl _))
  have hba : Below w3.heap.size w3 (w3.alloc (.cells #[.pointer (some ⟨m, 0, none⟩), .int .i64 (F : Int), .int .i64 (M : Int)] 29)) := (Below.refl _ _).alloc (Nat.le_refl _) _
  have HW := Lib.hid (HW.out.trans (hba.mono HW.out.size))
  have HX := Lib.hid (HX.out.below hba)
  have HU := Lib.hid (HU.out.below hba)
  have HM := Lib.hid (HM.out.below hba)
  clear hba
  go_wp2_with (first | go_skip | (at_builtin; refine stop_ ?_))
  have hsz0 : ((w3.alloc (.cells #[.pointer (some ⟨m, 0, none⟩), .int .i64 (F : Int), .int .i64 (M : Int)] 29))).heap.size = w3.heap.size + 1 := World.size_alloc _ _
  have hba : Below ((w3.alloc (.cells #[.pointer (some ⟨m, 0, none⟩), .int .i64 (F : Int), .int .i64 (M : Int)] 29))).heap.size (w3.alloc (.cells #[.pointer (some ⟨m, 0, none⟩), .int .i64 (F : Int), .int .i64 (M : Int)] 29)) (((w3.alloc (.cells #[.pointer (some ⟨m, 0, none⟩), .int .i64 (F : Int), .int .i64 (M : Int)] 29))).alloc (.cells #[] 22)) := (Below.refl _ _).alloc (Nat.le_refl _) _
  have hem := OwnU.empty' (w3.alloc (.cells #[.pointer (some ⟨m, 0, none⟩), .int .i64 (F : Int), .int .i64 (M : Int)] 29)) ((w3.alloc (.cells #[.pointer (some ⟨m, 0, none⟩), .int .i64 (F : Int), .int .i64 (M : Int)] 29))).heap.size (Nat.le_refl _)
  rw [hsz0] at hem
  refine appU (.tmp 105) (.tmp 106) rfl rfl (w3.heap.size + 1) (some ⟨w3.heap.size + 1, 0, none⟩) [] 0 0 rfl rfl hem A xs _ c rfl HXL.out.symm (HX.out.below hba) (by rw [HXL.out]; simp; omega) (by simp) ?_
  intro A2 ws c2 wa hws hown2 hg2 hnew
  obtain rfl : xs = ws := by simpa using hws.symm
  have hb : Below ((w3.alloc (.cells #[.pointer (some ⟨m, 0, none⟩), .int .i64 (F : Int), .int .i64 (M : Int)] 29))).heap.size (w3.alloc (.cells #[.pointer (some ⟨m, 0, none⟩), .int .i64 (F : Int), .int .i64 (M : Int)] 29)) wa := hba.grown hg2 (by simp) (fun k hk => by cases hk; exact Nat.le_of_eq hsz0)
  obtain ⟨g, rfl, hg1, hg3⟩ := hown2.form (by rw [HXL.out]; omega)
  have HGz := Lib.hid (HM.out.fresh g (by rw [hsz0]; exact hg1))
  have HGx := Lib.hid (show w3.heap.size ≠ g by omega)
  have HO := Lib.hid hown2
  have HGB := Lib.hid (show w.heap.size ≤ g by have := HW.out.size; omega)
  have hgc := hown2.cap
  rw [HXL.out] at hgc
  clear hws hown2 hg2 hnew hba hg1 hg3 hem hsz0
  clear HX HU
  have HW := Lib.hid (HW.out.trans (hb.mono HW.out.size))
  have HM := Lib.hid (HM.out.below hb)
  have HS := Lib.hid (heap_below HS.out hb)
  clear hb
  unfold Stop
  rw [HXL.out]
  obtain ⟨base, ho_⟩ : ∃ q, OwnU wa q (some ⟨g, 0, none⟩) xs c2 := ⟨_, HO.out⟩
  have HO := Lib.hid ho_
  clear ho_
  generalize hsx : w3.heap.size = sx at HS HSz HGx ⊢
  clear hsx
  by_cases s1 : z < 0
  · skip
    obtain ⟨a1, a2, hs⟩ := sayS_out (N := N) (F := F) (M := M) (v := v) (us := us) HXL.out hFM (show z < 0 ∨ 8 * (M : Int) ≤ z by omega)
    obtain ⟨ys, hys⟩ : ∃ q, q = xs := ⟨_, rfl⟩
    have HYS := Lib.hid hys
    have hs : SayS N F M z v xs us a1 a2 ys ys 1 1 0#64 := by rw [hys]; exact hs
    clear hys
    have HSET := Lib.hid hs.set
    have HSAY := Lib.hid hs
    clear hs
    generalize fromA xs N = a0 at *
    have HALEN := Lib.hid HSAY.out.l1
    have HYL := Lib.hid HSAY.out.y1
    have HR1 := Lib.hid HSAY.out.r1
    have KS := Lib.hid (spSet_any m _ G a0 (F : Int) (M : Int) z v _ HM.out (room_mono HRM.out (by omega)) (HCN.out.fit (by omega)) hSF ⟨by omega, by omega⟩)
    rw [HSET.out] at KS
    unfold spV at KS
    have kc0 := Lib.cell_of_heap HS.out 0
    have kc1 := Lib.cell_of_heap HS.out 1
    have kc2 := Lib.cell_of_heap HS.out 2
    go_wp2_with fail
    refine (KS.out).mono ?_
    rintro e w4 ⟨rfl, own1, hm2, hfr⟩
    have HLOWn := Lib.hid (hfr.low HW.out.size HLOW.out)
    obtain ⟨ho_, hz_⟩ := hfr.ownU HO.out HGz.out
    have HO := Lib.hid ho_
    have HGz := Lib.hid hz_
    clear ho_ hz_
    have HW := Lib.hid (HW.out.trans (hfr.below HW.out.size HLOW.out))
    obtain ⟨hx_, hz_⟩ := hfr.heap HS.out HSz.out
    have HS := Lib.hid hx_
    have HSz := Lib.hid hz_
    clear hx_ hz_
    have HM := Lib.hid hm2
    clear hm2 hfr
    have HLOW := HLOWn
    clear HLOWn
    clear KS kc0 kc1 kc2
    have HO := Lib.hid (show OwnU _ base (some ⟨g, 0, none⟩) ys c2 by rw [HYS.out]; exact HO.out)
    have KW := Lib.hid (mWords_any m _ G a1 _ HM.out (room_mono HR1.out (by omega)))
    rw [HSAY.out.w1, HALEN.out] at KW
    go_wp2_with fail
    refine KW.out.mono ?_
    rintro e w5 ⟨⟨B9, d9, rfl, ho⟩, hb⟩
    have HW := Lib.hid (HW.out.trans (hb.mono HW.out.size))
    have HM := Lib.hid (HM.out.below hb)
    have HS := Lib.hid (heap_below HS.out hb)
    have HO := Lib.hid (HO.out.below hb)
    clear hb
    have KM := Lib.hid (same5_any ys ys B9 (some ⟨g, 0, none⟩) d9 c2 w5 ho.rd HO.out.rd (by rw [HYL.out]; unfold maxLen; omega) (by rw [HYL.out]; unfold maxLen; omega))
    rw [beq_self_eq_true, HYL.out] at KM
    clear ho KW
    go_wp2_with fail
    refine KM.out.mono ?_
    rintro e w6 ⟨rfl, hd⟩
    have hb := hd.below w5.heap.size
    clear hd KM
    have HW := Lib.hid (HW.out.trans (hb.mono HW.out.size))
    have HM := Lib.hid (HM.out.below hb)
    have HS := Lib.hid (heap_below HS.out hb)
    have HO := Lib.hid (HO.out.below hb)
    clear hb
    have kc0 := Lib.cell_of_heap HS.out 0
    have kc1 := Lib.cell_of_heap HS.out 1
    have kc2 := Lib.cell_of_heap HS.out 2
    have KWD := Lib.hid (spWord_any m _ G a1 (F : Int) (M : Int) z _ HM.out (room_mono HR1.out (by omega)) hSF ⟨by omega, by omega⟩)
    rw [HSAY.out.word] at KWD
    unfold spV at KWD
    go_wp2_with fail
    refine KWD.out.mono ?_
    rintro e w7 ⟨rfl, hb⟩
    clear KWD kc0 kc1 kc2
    have HW := Lib.hid (HW.out.trans (hb.mono HW.out.size))
    have HM := Lib.hid (HM.out.below hb)
    have HS := Lib.hid (heap_below HS.out hb)
    have HO := Lib.hid (HO.out.below hb)
    clear hb
    have kc0 := Lib.cell_of_heap HS.out 0
    have kc1 := Lib.cell_of_heap HS.out 1
    have kc2 := Lib.cell_of_heap HS.out 2
    have KP := Lib.hid (spPush_any m _ G a1 (F : Int) (M : Int) z us B d 1 1 _ HM.out HR1.out HSAY.out.c1 (by omega) (by omega) (by omega) hSF ⟨by omega, by omega⟩ (fun W own9 hf9 => HU0.out.below (HW.out.trans (hf9.below HW.out.size HLOW.out))))
    rw [HSAY.out.push] at KP
    unfold spV at KP
    go_wp2_with fail
    refine (KP.out).mono ?_
    rintro e w8 ⟨rfl, own2, hm2, hfr⟩
    have HLOWn := Lib.hid (hfr.low HW.out.size HLOW.out)
    obtain ⟨ho_, hz_⟩ := hfr.ownU HO.out HGz.out
    have HO := Lib.hid ho_
    have HGz := Lib.hid hz_
    clear ho_ hz_
    have HW := Lib.hid (HW.out.trans (hfr.below HW.out.size HLOW.out))
    obtain ⟨hx_, hz_⟩ := hfr.heap HS.out HSz.out
    have HS := Lib.hid hx_
    have HSz := Lib.hid hz_
    clear hx_ hz_
    have HM := Lib.hid hm2
    clear hm2 hfr
    have HLOW := HLOWn
    clear HLOWn
    clear KP kc0 kc1 kc2
    have HALEN := Lib.hid HSAY.out.l2
    have HZL := Lib.hid HSAY.out.y2
    have HCL := Lib.hid (show ((ys.drop (8 * F)).take (8 * M)).length = 8 * M by rw [List.length_take, List.length_drop, HZL.out]; omega)
    have HR2 := Lib.hid (room_mono HSAY.out.r2 (show 1 + us.length ≤ 1000 by omega))
    have kc0 := Lib.cell_of_heap HS.out 0
    have kc1 := Lib.cell_of_heap HS.out 1
    have kc2 := Lib.cell_of_heap HS.out 2
    have KAL := Lib.hid (spAll_on m _ G a2 (F : Int) M _ HM.out HR2.out hSF HSAY.out.o2 (by rw [HALEN.out]; omega))
    rw [HSAY.out.al] at KAL
    unfold spV at KAL
    go_wp2_with fail
    refine KAL.out.mono ?_
    rintro e w9 ⟨⟨B8, d8, rfl, ho⟩, hb⟩
    have HV := Lib.hid ho.rd
    clear KAL kc0 kc1 kc2 ho
    have HW := Lib.hid (HW.out.trans (hb.mono HW.out.size))
    have HM := Lib.hid (HM.out.below hb)
    have HS := Lib.hid (heap_below HS.out hb)
    have HO := Lib.hid (HO.out.below hb)
    clear hb
    have KW := Lib.hid (mWords_any m _ G a2 _ HM.out HR2.out)
    rw [HSAY.out.w2, HALEN.out] at KW
    go_wp2_with fail
    refine KW.out.mono ?_
    rintro e w10 ⟨⟨B9, d9, rfl, ho⟩, hb⟩
    have HW := Lib.hid (HW.out.trans (hb.mono HW.out.size))
    have HM := Lib.hid (HM.out.below hb)
    have HS := Lib.hid (heap_below HS.out hb)
    have HO := Lib.hid (HO.out.below hb)
    have HV := Lib.hid (HV.out.below hb)
    clear hb
    have KM := Lib.hid (same5_any ys ys B9 (some ⟨g, 0, none⟩) d9 c2 w10 ho.rd HO.out.rd (by rw [HZL.out]; unfold maxLen; omega) (by rw [HZL.out]; unfold maxLen; omega))
    rw [beq_self_eq_true, HZL.out] at KM
    clear ho KW
    go_wp2_with fail
    refine KM.out.mono ?_
    rintro e w11 ⟨rfl, hd⟩
    have hb := hd.below w10.heap.size
    clear hd KM
    have HW := Lib.hid (HW.out.trans (hb.mono HW.out.size))
    have HM := Lib.hid (HM.out.below hb)
    have HS := Lib.hid (heap_below HS.out hb)
    have HO := Lib.hid (HO.out.below hb)
    have HV := Lib.hid (HV.out.below hb)
    clear hb
    have e3 : IntKind.i64.wrap ((F : Int) + (M : Int)) = (F : Int) + (M : Int) := IntWalk.i64_in _ (by omega)
    have e4 : IntKind.i64.wrap (8 * ((F : Int) + (M : Int))) = 8 * ((F : Int) + (M : Int)) := IntWalk.i64_in _ (by omega)
    have hgc := HO.out.cap
    rw [HZL.out] at hgc
    obtain ⟨hgc1, hgc2⟩ := hgc
    have i1 : 8 * (F : Int) ≤ 8 * ((F : Int) + (M : Int)) := by omega
    have i2 : 8 * ((F : Int) + (M : Int)) ≤ (c2 : Int) := by omega
    have i3 : (8 * ((F : Int) + (M : Int))).toNat - (8 * (F : Int)).toNat = 8 * M := by omega
    have i4 : (8 * (F : Int)).toNat = 8 * F := by omega
    have i5 : (0 : Int) ≤ 8 * (F : Int) := by omega
    have KM := Lib.hid (same5_any ((ys.drop (8 * F)).take (8 * M)) ((ys.drop (8 * F)).take (8 * M)) B8 (some ⟨g, 8 * F, none⟩) d8 (c2 - 8 * F) w11 HV.out (rdU_slice HO.out.rd) (by rw [HCL.out]; unfold maxLen; omega) (by rw [HCL.out]; unfold maxLen; omega))
    rw [beq_self_eq_true, HCL.out] at KM
    go_wp2_with fail
    rw [show 8 * (F + M) - 8 * F = 8 * M by omega]
    refine KM.out.mono ?_
    rintro e w12 ⟨rfl, hd⟩
    have hb := hd.below w11.heap.size
    clear hd KM i1 i2 i3 i4 i5 e3 e4 hgc1 hgc2
    have HW := Lib.hid (HW.out.trans (hb.mono HW.out.size))
    have HM := Lib.hid (HM.out.below hb)
    have HS := Lib.hid (heap_below HS.out hb)
    have HO := Lib.hid (HO.out.below hb)
    clear hb
    have HCN2 := Lib.hid (show ((a2.crash []).on).room 1000 from crash_room HR2.out [])
    have HCL3 := Lib.hid HSAY.out.l3
    have kc0 := Lib.cell_of_heap HS.out 0
    have kc1 := Lib.cell_of_heap HS.out 1
    have kc2 := Lib.cell_of_heap HS.out 2
    have KC := Lib.hid (mCrash_any m _ G a2 [] none 0 _ HM.out HR2.out (fun _ _ _ => .inl rfl) (Nat.le_refl _) (by unfold maxLen; omega))
    go_wp2_with fail
    refine (KC.out).mono ?_
    rintro e w13 ⟨rfl, own3, hm2, hfr⟩
    have HLOWn := Lib.hid (hfr.low HW.out.size HLOW.out)
    obtain ⟨ho_, hz_⟩ := hfr.ownU HO.out HGz.out
    have HO := Lib.hid ho_
    have HGz := Lib.hid hz_
    clear ho_ hz_
    have HW := Lib.hid (HW.out.trans (hfr.below HW.out.size HLOW.out))
    obtain ⟨hx_, hz_⟩ := hfr.heap HS.out HSz.out
    have HS := Lib.hid hx_
    have HSz := Lib.hid hz_
    clear hx_ hz_
    have HM := Lib.hid hm2
    clear hm2 hfr
    have HLOW := HLOWn
    clear HLOWn
    clear KC kc0 kc1 kc2
    have kc0 := Lib.cell_of_heap HS.out 0
    have kc1 := Lib.cell_of_heap HS.out 1
    have kc2 := Lib.cell_of_heap HS.out 2
    go_wp2_with fail
    refine (mOn_any HM.out).mono ?_
    rintro e w14 ⟨rfl, own4, hm2, hfr⟩
    have HLOWn := Lib.hid (hfr.low HW.out.size HLOW.out)
    obtain ⟨ho_, hz_⟩ := hfr.ownU HO.out HGz.out
    have HO := Lib.hid ho_
    have HGz := Lib.hid hz_
    clear ho_ hz_
    have HW := Lib.hid (HW.out.trans (hfr.below HW.out.size HLOW.out))
    obtain ⟨hx_, hz_⟩ := hfr.heap HS.out HSz.out
    have HS := Lib.hid hx_
    have HSz := Lib.hid hz_
    clear hx_ hz_
    have HM := Lib.hid hm2
    clear hm2 hfr
    have HLOW := HLOWn
    clear HLOWn
    clear kc0 kc1 kc2
    generalize (a2.crash []).on = a3 at *
    have KW := Lib.hid (mWords_any m _ G a3 _ HM.out HCN2.out)
    rw [HCL3.out] at KW
    go_wp2_with fail
    refine KW.out.mono ?_
    rintro e w15 ⟨⟨B7, d7, rfl, ho⟩, hb⟩
    have HN := Lib.hid ho.rd
    clear ho KW
    have HW := Lib.hid (HW.out.trans (hb.mono HW.out.size))
    have HM := Lib.hid (HM.out.below hb)
    have HS := Lib.hid (heap_below HS.out hb)
    have HO := Lib.hid (HO.out.below hb)
    clear hb
    have n1 : (8 * (N : Int) != 8 * (N : Int)) = false := by simp
    go_wp2
    go_loopw [30] (fun i wr => i = .int .i64 0 ∧ wr = w15) (fun _ _ => 0)
    case atStart => exact ⟨rfl, rfl⟩
    case round =>
      skip
      obtain ⟨rfl, rfl⟩ := hrel
      by_cases u9 : 0 < (us.length : Int)
      · first
        | omega
        | (go_wp2
           go_ret
           exact ⟨rfl, HW.out⟩)
      · first
        | omega
        | (go_wp2
           go_ret
           exact ⟨rfl, HW.out⟩)
  by_cases s2 : 8 * (M : Int) ≤ z
  · skip
    obtain ⟨a1, a2, hs⟩ := sayS_out (N := N) (F := F) (M := M) (v := v) (us := us) HXL.out hFM (show z < 0 ∨ 8 * (M : Int) ≤ z by omega)
    obtain ⟨ys, hys⟩ : ∃ q, q = xs := ⟨_, rfl⟩
    have HYS := Lib.hid hys
    have hs : SayS N F M z v xs us a1 a2 ys ys 1 1 0#64 := by rw [hys]; exact hs
    clear hys
    have HSET := Lib.hid hs.set
    have HSAY := Lib.hid hs
    clear hs
    generalize fromA xs N = a0 at *
    have HALEN := Lib.hid HSAY.out.l1
    have HYL := Lib.hid HSAY.out.y1
    have HR1 := Lib.hid HSAY.out.r1
    have KS := Lib.hid (spSet_any m _ G a0 (F : Int) (M : Int) z v _ HM.out (room_mono HRM.out (by omega)) (HCN.out.fit (by omega)) hSF ⟨by omega, by omega⟩)
    rw [HSET.out] at KS
    unfold spV at KS
    have kc0 := Lib.cell_of_heap HS.out 0
    have kc1 := Lib.cell_of_heap HS.out 1
    have kc2 := Lib.cell_of_heap HS.out 2
    go_wp2_with fail
    refine (KS.out).mono ?_
    rintro e w4 ⟨rfl, own1, hm2, hfr⟩
    have HLOWn := Lib.hid (hfr.low HW.out.size HLOW.out)
    obtain ⟨ho_, hz_⟩ := hfr.ownU HO.out HGz.out
    have HO := Lib.hid ho_
    have HGz := Lib.hid hz_
    clear ho_ hz_
    have HW := Lib.hid (HW.out.trans (hfr.below HW.out.size HLOW.out))
    obtain ⟨hx_, hz_⟩ := hfr.heap HS.out HSz.out
    have HS := Lib.hid hx_
    have HSz := Lib.hid hz_
    clear hx_ hz_
    have HM := Lib.hid hm2
    clear hm2 hfr
    have HLOW := HLOWn
    clear HLOWn
    clear KS kc0 kc1 kc2
    have HO := Lib.hid (show OwnU _ base (some ⟨g, 0, none⟩) ys c2 by rw [HYS.out]; exact HO.out)
    have KW := Lib.hid (mWords_any m _ G a1 _ HM.out (room_mono HR1.out (by omega)))
    rw [HSAY.out.w1, HALEN.out] at KW
    go_wp2_with fail
    refine KW.out.mono ?_
    rintro e w5 ⟨⟨B9, d9, rfl, ho⟩, hb⟩
    have HW := Lib.hid (HW.out.trans (hb.mono HW.out.size))
    have HM := Lib.hid (HM.out.below hb)
    have HS := Lib.hid (heap_below HS.out hb)
    have HO := Lib.hid (HO.out.below hb)
    clear hb
    have KM := Lib.hid (same5_any ys ys B9 (some ⟨g, 0, none⟩) d9 c2 w5 ho.rd HO.out.rd (by rw [HYL.out]; unfold maxLen; omega) (by rw [HYL.out]; unfold maxLen; omega))
    rw [beq_self_eq_true, HYL.out] at KM
    clear ho KW
    go_wp2_with fail
    refine KM.out.mono ?_
    rintro e w6 ⟨rfl, hd⟩
    have hb := hd.below w5.heap.size
    clear hd KM
    have HW := Lib.hid (HW.out.trans (hb.mono HW.out.size))
    have HM := Lib.hid (HM.out.below hb)
    have HS := Lib.hid (heap_below HS.out hb)
    have HO := Lib.hid (HO.out.below hb)
    clear hb
    have kc0 := Lib.cell_of_heap HS.out 0
    have kc1 := Lib.cell_of_heap HS.out 1
    have kc2 := Lib.cell_of_heap HS.out 2
    have KWD := Lib.hid (spWord_any m _ G a1 (F : Int) (M : Int) z _ HM.out (room_mono HR1.out (by omega)) hSF ⟨by omega, by omega⟩)
    rw [HSAY.out.word] at KWD
    unfold spV at KWD
    go_wp2_with fail
    refine KWD.out.mono ?_
    rintro e w7 ⟨rfl, hb⟩
    clear KWD kc0 kc1 kc2
    have HW := Lib.hid (HW.out.trans (hb.mono HW.out.size))
    have HM := Lib.hid (HM.out.below hb)
    have HS := Lib.hid (heap_below HS.out hb)
    have HO := Lib.hid (HO.out.below hb)
    clear hb
    have kc0 := Lib.cell_of_heap HS.out 0
    have kc1 := Lib.cell_of_heap HS.out 1
    have kc2 := Lib.cell_of_heap HS.out 2
    have KP := Lib.hid (spPush_any m _ G a1 (F : Int) (M : Int) z us B d 1 1 _ HM.out HR1.out HSAY.out.c1 (by omega) (by omega) (by omega) hSF ⟨by omega, by omega⟩ (fun W own9 hf9 => HU0.out.below (HW.out.trans (hf9.below HW.out.size HLOW.out))))
    rw [HSAY.out.push] at KP
    unfold spV at KP
    go_wp2_with fail
    refine (KP.out).mono ?_
    rintro e w8 ⟨rfl, own2, hm2, hfr⟩
    have HLOWn := Lib.hid (hfr.low HW.out.size HLOW.out)
    obtain ⟨ho_, hz_⟩ := hfr.ownU HO.out HGz.out
    have HO := Lib.hid ho_
    have HGz := Lib.hid hz_
    clear ho_ hz_
    have HW := Lib.hid (HW.out.trans (hfr.below HW.out.size HLOW.out))
    obtain ⟨hx_, hz_⟩ := hfr.heap HS.out HSz.out
    have HS := Lib.hid hx_
    have HSz := Lib.hid hz_
    clear hx_ hz_
    have HM := Lib.hid hm2
    clear hm2 hfr
    have HLOW := HLOWn
    clear HLOWn
    clear KP kc0 kc1 kc2
    have HALEN := Lib.hid HSAY.out.l2
    have HZL := Lib.hid HSAY.out.y2
    have HCL := Lib.hid (show ((ys.drop (8 * F)).take (8 * M)).length = 8 * M by rw [List.length_take, List.length_drop, HZL.out]; omega)
    have HR2 := Lib.hid (room_mono HSAY.out.r2 (show 1 + us.length ≤ 1000 by omega))
    have kc0 := Lib.cell_of_heap HS.out 0
    have kc1 := Lib.cell_of_heap HS.out 1
    have kc2 := Lib.cell_of_heap HS.out 2
    have KAL := Lib.hid (spAll_on m _ G a2 (F : Int) M _ HM.out HR2.out hSF HSAY.out.o2 (by rw [HALEN.out]; omega))
    rw [HSAY.out.al] at KAL
    unfold spV at KAL
    go_wp2_with fail
    refine KAL.out.mono ?_
    rintro e w9 ⟨⟨B8, d8, rfl, ho⟩, hb⟩
    have HV := Lib.hid ho.rd
    clear KAL kc0 kc1 kc2 ho
    have HW := Lib.hid (HW.out.trans (hb.mono HW.out.size))
    have HM := Lib.hid (HM.out.below hb)
    have HS := Lib.hid (heap_below HS.out hb)
    have HO := Lib.hid (HO.out.below hb)
    clear hb
    have KW := Lib.hid (mWords_any m _ G a2 _ HM.out HR2.out)
    rw [HSAY.out.w2, HALEN.out] at KW
    go_wp2_with fail
    refine KW.out.mono ?_
    rintro e w10 ⟨⟨B9, d9, rfl, ho⟩, hb⟩
    have HW := Lib.hid (HW.out.trans (hb.mono HW.out.size))
    have HM := Lib.hid (HM.out.below hb)
    have HS := Lib.hid (heap_below HS.out hb)
    have HO := Lib.hid (HO.out.below hb)
    have HV := Lib.hid (HV.out.below hb)
    clear hb
    have KM := Lib.hid (same5_any ys ys B9 (some ⟨g, 0, none⟩) d9 c2 w10 ho.rd HO.out.rd (by rw [HZL.out]; unfold maxLen; omega) (by rw [HZL.out]; unfold maxLen; omega))
    rw [beq_self_eq_true, HZL.out] at KM
    clear ho KW
    go_wp2_with fail
    refine KM.out.mono ?_
    rintro e w11 ⟨rfl, hd⟩
    have hb := hd.below w10.heap.size
    clear hd KM
    have HW := Lib.hid (HW.out.trans (hb.mono HW.out.size))
    have HM := Lib.hid (HM.out.below hb)
    have HS := Lib.hid (heap_below HS.out hb)
    have HO := Lib.hid (HO.out.below hb)
    have HV := Lib.hid (HV.out.below hb)
    clear hb
    have e3 : IntKind.i64.wrap ((F : Int) + (M : Int)) = (F : Int) + (M : Int) := IntWalk.i64_in _ (by omega)
    have e4 : IntKind.i64.wrap (8 * ((F : Int) + (M : Int))) = 8 * ((F : Int) + (M : Int)) := IntWalk.i64_in _ (by omega)
    have hgc := HO.out.cap
    rw [HZL.out] at hgc
    obtain ⟨hgc1, hgc2⟩ := hgc
    have i1 : 8 * (F : Int) ≤ 8 * ((F : Int) + (M : Int)) := by omega
    have i2 : 8 * ((F : Int) + (M : Int)) ≤ (c2 : Int) := by omega
    have i3 : (8 * ((F : Int) + (M : Int))).toNat - (8 * (F : Int)).toNat = 8 * M := by omega
    have i4 : (8 * (F : Int)).toNat = 8 * F := by omega
    have i5 : (0 : Int) ≤ 8 * (F : Int) := by omega
    have KM := Lib.hid (same5_any ((ys.drop (8 * F)).take (8 * M)) ((ys.drop (8 * F)).take (8 * M)) B8 (some ⟨g, 8 * F, none⟩) d8 (c2 - 8 * F) w11 HV.out (rdU_slice HO.out.rd) (by rw [HCL.out]; unfold maxLen; omega) (by rw [HCL.out]; unfold maxLen; omega))
    rw [beq_self_eq_true, HCL.out] at KM
    go_wp2_with fail
    rw [show 8 * (F + M) - 8 * F = 8 * M by omega]
    refine KM.out.mono ?_
    rintro e w12 ⟨rfl, hd⟩
    have hb := hd.below w11.heap.size
    clear hd KM i1 i2 i3 i4 i5 e3 e4 hgc1 hgc2
    have HW := Lib.hid (HW.out.trans (hb.mono HW.out.size))
    have HM := Lib.hid (HM.out.below hb)
    have HS := Lib.hid (heap_below HS.out hb)
    have HO := Lib.hid (HO.out.below hb)
    clear hb
    have HCN2 := Lib.hid (show ((a2.crash []).on).room 1000 from crash_room HR2.out [])
    have HCL3 := Lib.hid HSAY.out.l3
    have kc0 := Lib.cell_of_heap HS.out 0
    have kc1 := Lib.cell_of_heap HS.out 1
    have kc2 := Lib.cell_of_heap HS.out 2
    have KC := Lib.hid (mCrash_any m _ G a2 [] none 0 _ HM.out HR2.out (fun _ _ _ => .inl rfl) (Nat.le_refl _) (by unfold maxLen; omega))
    go_wp2_with fail
    refine (KC.out).mono ?_
    rintro e w13 ⟨rfl, own3, hm2, hfr⟩
    have HLOWn := Lib.hid (hfr.low HW.out.size HLOW.out)
    obtain ⟨ho_, hz_⟩ := hfr.ownU HO.out HGz.out
    have HO := Lib.hid ho_
    have HGz := Lib.hid hz_
    clear ho_ hz_
    have HW := Lib.hid (HW.out.trans (hfr.below HW.out.size HLOW.out))
    obtain ⟨hx_, hz_⟩ := hfr.heap HS.out HSz.out
    have HS := Lib.hid hx_
    have HSz := Lib.hid hz_
    clear hx_ hz_
    have HM := Lib.hid hm2
    clear hm2 hfr
    have HLOW := HLOWn
    clear HLOWn
    clear KC kc0 kc1 kc2
    have kc0 := Lib.cell_of_heap HS.out 0
    have kc1 := Lib.cell_of_heap HS.out 1
    have kc2 := Lib.cell_of_heap HS.out 2
    go_wp2_with fail
    refine (mOn_any HM.out).mono ?_
    rintro e w14 ⟨rfl, own4, hm2, hfr⟩
    have HLOWn := Lib.hid (hfr.low HW.out.size HLOW.out)
    obtain ⟨ho_, hz_⟩ := hfr.ownU HO.out HGz.out
    have HO := Lib.hid ho_
    have HGz := Lib.hid hz_
    clear ho_ hz_
    have HW := Lib.hid (HW.out.trans (hfr.below HW.out.size HLOW.out))
    obtain ⟨hx_, hz_⟩ := hfr.heap HS.out HSz.out
    have HS := Lib.hid hx_
    have HSz := Lib.hid hz_
    clear hx_ hz_
    have HM := Lib.hid hm2
    clear hm2 hfr
    have HLOW := HLOWn
    clear HLOWn
    clear kc0 kc1 kc2
    generalize (a2.crash []).on = a3 at *
    have KW := Lib.hid (mWords_any m _ G a3 _ HM.out HCN2.out)
    rw [HCL3.out] at KW
    go_wp2_with fail
    refine KW.out.mono ?_
    rintro e w15 ⟨⟨B7, d7, rfl, ho⟩, hb⟩
    have HN := Lib.hid ho.rd
    clear ho KW
    have HW := Lib.hid (HW.out.trans (hb.mono HW.out.size))
    have HM := Lib.hid (HM.out.below hb)
    have HS := Lib.hid (heap_below HS.out hb)
    have HO := Lib.hid (HO.out.below hb)
    clear hb
    have n1 : (8 * (N : Int) != 8 * (N : Int)) = false := by simp
    go_wp2
    go_loopw [30] (fun i wr => i = .int .i64 0 ∧ wr = w15) (fun _ _ => 0)
    case atStart => exact ⟨rfl, rfl⟩
    case round =>
      skip
      obtain ⟨rfl, rfl⟩ := hrel
      by_cases u9 : 0 < (us.length : Int)
      · first
        | omega
        | (go_wp2
           go_ret
           exact ⟨rfl, HW.out⟩)
      · first
        | omega
        | (go_wp2
           go_ret
           exact ⟨rfl, HW.out⟩)
  obtain ⟨t, rfl⟩ := Int.eq_ofNat_of_zero_le (show 0 ≤ z by omega)
  have e5 : IntKind.i64.wrap (8 * (M : Int) - (t : Int)) = 8 * (M : Int) - (t : Int) := IntWalk.i64_in _ (by omega)
  by_cases s3 : (us.length : Int) < 1
  · skip
    obtain ⟨a1, a2, hs⟩ := sayS_in (N := N) (F := F) (M := M) (v := v) (us := us) HXL.out hFM (show t < 8 * M by omega) (by omega)
    obtain ⟨ys, hys⟩ : ∃ q, xs.set (8 * F + t) v = q := ⟨_, rfl⟩
    rw [hys] at hs
    have HYS := Lib.hid hys.symm
    clear hys
    have HSET := Lib.hid hs.set
    have HSAY := Lib.hid hs
    clear hs
    generalize fromA xs N = a0 at *
    have HALEN := Lib.hid HSAY.out.l1
    have HYL := Lib.hid HSAY.out.y1
    have HR1 := Lib.hid HSAY.out.r1
    have KS := Lib.hid (spSet_any m _ G a0 (F : Int) (M : Int) (t : Int) v _ HM.out (room_mono HRM.out (by omega)) (HCN.out.fit (by omega)) hSF ⟨by omega, by omega⟩)
    rw [HSET.out] at KS
    unfold spV at KS
    have kc0 := Lib.cell_of_heap HS.out 0
    have kc1 := Lib.cell_of_heap HS.out 1
    have kc2 := Lib.cell_of_heap HS.out 2
    go_wp2_with fail
    refine (KS.out).mono ?_
    rintro e w4 ⟨rfl, own1, hm2, hfr⟩
    have HLOWn := Lib.hid (hfr.low HW.out.size HLOW.out)
    obtain ⟨ho_, hz_⟩ := hfr.ownU HO.out HGz.out
    have HO := Lib.hid ho_
    have HGz := Lib.hid hz_
    clear ho_ hz_
    have HW := Lib.hid (HW.out.trans (hfr.below HW.out.size HLOW.out))
    obtain ⟨hx_, hz_⟩ := hfr.heap HS.out HSz.out
    have HS := Lib.hid hx_
    have HSz := Lib.hid hz_
    clear hx_ hz_
    have HM := Lib.hid hm2
    clear hm2 hfr
    have HLOW := HLOWn
    clear HLOWn
    clear KS kc0 kc1 kc2
    have hyl := HYL.out
    have e1 : IntKind.i64.wrap (8 * (F : Int) + (t : Int)) = ((8 * F + t : Nat) : Int) := by rw [IntWalk.i64_in _ (by omega)]; omega
    obtain ⟨u7, hgl⟩ : ∃ u, w4.cell? ⟨g, 8 * F + t, none⟩ = some (U u) := ⟨_, HO.out.cellAt (8 * F + t) (by rw [HXL.out]; omega)⟩
    have hgf := HO.out.frozenAt (8 * F + t)
    have HST := Lib.hid (HO.out.stored (8 * F + t) v)
    have hin : ((8 * F + t : Nat) : Int) < 8 * (N : Int) := by omega
    have HM2 := Lib.hid (HM.out.other (i := 8 * F + t) HGz.out (U v))
    have HS2 := Lib.hid (heap_other (i := 8 * F + t) HS.out HGx.out (U v))
    have HW2 := Lib.hid (HW.out.setCell (p := ⟨g, 8 * F + t, none⟩) HGB.out (U v))
    rw [← HYS.out] at HST
    obtain ⟨pq, hpq⟩ : ∃ q, 8 * F + t = q := ⟨_, rfl⟩
    rw [hpq] at hgl hgf HST hin HM2 HS2 HW2 e1
    clear hyl hpq
    have HM := HM2
    have HO := HST
    have HS := HS2
    have HW := HW2
    clear HM2 HST HS2 HW2
    have KW := Lib.hid (mWords_any m _ G a1 _ HM.out (room_mono HR1.out (by omega)))
    rw [HSAY.out.w1, HALEN.out] at KW
    go_wp2_with fail
    refine KW.out.mono ?_
    rintro e w5 ⟨⟨B9, d9, rfl, ho⟩, hb⟩
    have HW := Lib.hid (HW.out.trans (hb.mono HW.out.size))
    have HM := Lib.hid (HM.out.below hb)
    have HS := Lib.hid (heap_below HS.out hb)
    have HO := Lib.hid (HO.out.below hb)
    clear hb
    have KM := Lib.hid (same5_any ys ys B9 (some ⟨g, 0, none⟩) d9 c2 w5 ho.rd HO.out.rd (by rw [HYL.out]; unfold maxLen; omega) (by rw [HYL.out]; unfold maxLen; omega))
    rw [beq_self_eq_true, HYL.out] at KM
    clear ho KW
    go_wp2_with fail
    refine KM.out.mono ?_
    rintro e w6 ⟨rfl, hd⟩
    have hb := hd.below w5.heap.size
    clear hd KM
    have HW := Lib.hid (HW.out.trans (hb.mono HW.out.size))
    have HM := Lib.hid (HM.out.below hb)
    have HS := Lib.hid (heap_below HS.out hb)
    have HO := Lib.hid (HO.out.below hb)
    clear hb
    clear hgl hgf hin e1
    have kc0 := Lib.cell_of_heap HS.out 0
    have kc1 := Lib.cell_of_heap HS.out 1
    have kc2 := Lib.cell_of_heap HS.out 2
    have KWD := Lib.hid (spWord_any m _ G a1 (F : Int) (M : Int) (t : Int) _ HM.out (room_mono HR1.out (by omega)) hSF ⟨by omega, by omega⟩)
    rw [HSAY.out.word] at KWD
    unfold spV at KWD
    go_wp2_with fail
    refine KWD.out.mono ?_
    rintro e w7 ⟨rfl, hb⟩
    clear KWD kc0 kc1 kc2
    have HW := Lib.hid (HW.out.trans (hb.mono HW.out.size))
    have HM := Lib.hid (HM.out.below hb)
    have HS := Lib.hid (heap_below HS.out hb)
    have HO := Lib.hid (HO.out.below hb)
    clear hb
    have kc0 := Lib.cell_of_heap HS.out 0
    have kc1 := Lib.cell_of_heap HS.out 1
    have kc2 := Lib.cell_of_heap HS.out 2
    have KP := Lib.hid (spPush_any m _ G a1 (F : Int) (M : Int) (t : Int) us B d 1 1 _ HM.out HR1.out HSAY.out.c1 (by omega) (by omega) (by omega) hSF ⟨by omega, by omega⟩ (fun W own9 hf9 => HU0.out.below (HW.out.trans (hf9.below HW.out.size HLOW.out))))
    rw [HSAY.out.push] at KP
    unfold spV at KP
    go_wp2_with fail
    refine (KP.out).mono ?_
    rintro e w8 ⟨rfl, own2, hm2, hfr⟩
    have HLOWn := Lib.hid (hfr.low HW.out.size HLOW.out)
    obtain ⟨ho_, hz_⟩ := hfr.ownU HO.out HGz.out
    have HO := Lib.hid ho_
    have HGz := Lib.hid hz_
    clear ho_ hz_
    have HW := Lib.hid (HW.out.trans (hfr.below HW.out.size HLOW.out))
    obtain ⟨hx_, hz_⟩ := hfr.heap HS.out HSz.out
    have HS := Lib.hid hx_
    have HSz := Lib.hid hz_
    clear hx_ hz_
    have HM := Lib.hid hm2
    clear hm2 hfr
    have HLOW := HLOWn
    clear HLOWn
    clear KP kc0 kc1 kc2
    have HALEN := Lib.hid HSAY.out.l2
    have HZL := Lib.hid HSAY.out.y2
    have HCL := Lib.hid (show ((ys.drop (8 * F)).take (8 * M)).length = 8 * M by rw [List.length_take, List.length_drop, HZL.out]; omega)
    have HR2 := Lib.hid (room_mono HSAY.out.r2 (show 1 + us.length ≤ 1000 by omega))
    have kc0 := Lib.cell_of_heap HS.out 0
    have kc1 := Lib.cell_of_heap HS.out 1
    have kc2 := Lib.cell_of_heap HS.out 2
    have KAL := Lib.hid (spAll_on m _ G a2 (F : Int) M _ HM.out HR2.out hSF HSAY.out.o2 (by rw [HALEN.out]; omega))
    rw [HSAY.out.al] at KAL
    unfold spV at KAL
    go_wp2_with fail
    refine KAL.out.mono ?_
    rintro e w9 ⟨⟨B8, d8, rfl, ho⟩, hb⟩
    have HV := Lib.hid ho.rd
    clear KAL kc0 kc1 kc2 ho
    have HW := Lib.hid (HW.out.trans (hb.mono HW.out.size))
    have HM := Lib.hid (HM.out.below hb)
    have HS := Lib.hid (heap_below HS.out hb)
    have HO := Lib.hid (HO.out.below hb)
    clear hb
    have KW := Lib.hid (mWords_any m _ G a2 _ HM.out HR2.out)
    rw [HSAY.out.w2, HALEN.out] at KW
    go_wp2_with fail
    refine KW.out.mono ?_
    rintro e w10 ⟨⟨B9, d9, rfl, ho⟩, hb⟩
    have HW := Lib.hid (HW.out.trans (hb.mono HW.out.size))
    have HM := Lib.hid (HM.out.below hb)
    have HS := Lib.hid (heap_below HS.out hb)
    have HO := Lib.hid (HO.out.below hb)
    have HV := Lib.hid (HV.out.below hb)
    clear hb
    have KM := Lib.hid (same5_any ys ys B9 (some ⟨g, 0, none⟩) d9 c2 w10 ho.rd HO.out.rd (by rw [HZL.out]; unfold maxLen; omega) (by rw [HZL.out]; unfold maxLen; omega))
    rw [beq_self_eq_true, HZL.out] at KM
    clear ho KW
    go_wp2_with fail
    refine KM.out.mono ?_
    rintro e w11 ⟨rfl, hd⟩
    have hb := hd.below w10.heap.size
    clear hd KM
    have HW := Lib.hid (HW.out.trans (hb.mono HW.out.size))
    have HM := Lib.hid (HM.out.below hb)
    have HS := Lib.hid (heap_below HS.out hb)
    have HO := Lib.hid (HO.out.below hb)
    have HV := Lib.hid (HV.out.below hb)
    clear hb
    have e3 : IntKind.i64.wrap ((F : Int) + (M : Int)) = (F : Int) + (M : Int) := IntWalk.i64_in _ (by omega)
    have e4 : IntKind.i64.wrap (8 * ((F : Int) + (M : Int))) = 8 * ((F : Int) + (M : Int)) := IntWalk.i64_in _ (by omega)
    have hgc := HO.out.cap
    rw [HZL.out] at hgc
    obtain ⟨hgc1, hgc2⟩ := hgc
    have i1 : 8 * (F : Int) ≤ 8 * ((F : Int) + (M : Int)) := by omega
    have i2 : 8 * ((F : Int) + (M : Int)) ≤ (c2 : Int) := by omega
    have i3 : (8 * ((F : Int) + (M : Int))).toNat - (8 * (F : Int)).toNat = 8 * M := by omega
    have i4 : (8 * (F : Int)).toNat = 8 * F := by omega
    have i5 : (0 : Int) ≤ 8 * (F : Int) := by omega
    have KM := Lib.hid (same5_any ((ys.drop (8 * F)).take (8 * M)) ((ys.drop (8 * F)).take (8 * M)) B8 (some ⟨g, 8 * F, none⟩) d8 (c2 - 8 * F) w11 HV.out (rdU_slice HO.out.rd) (by rw [HCL.out]; unfold maxLen; omega) (by rw [HCL.out]; unfold maxLen; omega))
    rw [beq_self_eq_true, HCL.out] at KM
    go_wp2_with fail
    rw [show 8 * (F + M) - 8 * F = 8 * M by omega]
    refine KM.out.mono ?_
    rintro e w12 ⟨rfl, hd⟩
    have hb := hd.below w11.heap.size
    clear hd KM i1 i2 i3 i4 i5 e3 e4 hgc1 hgc2
    have HW := Lib.hid (HW.out.trans (hb.mono HW.out.size))
    have HM := Lib.hid (HM.out.below hb)
    have HS := Lib.hid (heap_below HS.out hb)
    have HO := Lib.hid (HO.out.below hb)
    clear hb
    have HCN2 := Lib.hid (show ((a2.crash []).on).room 1000 from crash_room HR2.out [])
    have HCL3 := Lib.hid HSAY.out.l3
    have kc0 := Lib.cell_of_heap HS.out 0
    have kc1 := Lib.cell_of_heap HS.out 1
    have kc2 := Lib.cell_of_heap HS.out 2
    have KC := Lib.hid (mCrash_any m _ G a2 [] none 0 _ HM.out HR2.out (fun _ _ _ => .inl rfl) (Nat.le_refl _) (by unfold maxLen; omega))
    go_wp2_with fail
    refine (KC.out).mono ?_
    rintro e w13 ⟨rfl, own3, hm2, hfr⟩
    have HLOWn := Lib.hid (hfr.low HW.out.size HLOW.out)
    obtain ⟨ho_, hz_⟩ := hfr.ownU HO.out HGz.out
    have HO := Lib.hid ho_
    have HGz := Lib.hid hz_
    clear ho_ hz_
    have HW := Lib.hid (HW.out.trans (hfr.below HW.out.size HLOW.out))
    obtain ⟨hx_, hz_⟩ := hfr.heap HS.out HSz.out
    have HS := Lib.hid hx_
    have HSz := Lib.hid hz_
    clear hx_ hz_
    have HM := Lib.hid hm2
    clear hm2 hfr
    have HLOW := HLOWn
    clear HLOWn
    clear KC kc0 kc1 kc2
    have kc0 := Lib.cell_of_heap HS.out 0
    have kc1 := Lib.cell_of_heap HS.out 1
    have kc2 := Lib.cell_of_heap HS.out 2
    go_wp2_with fail
    refine (mOn_any HM.out).mono ?_
    rintro e w14 ⟨rfl, own4, hm2, hfr⟩
    have HLOWn := Lib.hid (hfr.low HW.out.size HLOW.out)
    obtain ⟨ho_, hz_⟩ := hfr.ownU HO.out HGz.out
    have HO := Lib.hid ho_
    have HGz := Lib.hid hz_
    clear ho_ hz_
    have HW := Lib.hid (HW.out.trans (hfr.below HW.out.size HLOW.out))
    obtain ⟨hx_, hz_⟩ := hfr.heap HS.out HSz.out
    have HS := Lib.hid hx_
    have HSz := Lib.hid hz_
    clear hx_ hz_
    have HM := Lib.hid hm2
    clear hm2 hfr
    have HLOW := HLOWn
    clear HLOWn
    clear kc0 kc1 kc2
    generalize (a2.crash []).on = a3 at *
    have KW := Lib.hid (mWords_any m _ G a3 _ HM.out HCN2.out)
    rw [HCL3.out] at KW
    go_wp2_with fail
    refine KW.out.mono ?_
    rintro e w15 ⟨⟨B7, d7, rfl, ho⟩, hb⟩
    have HN := Lib.hid ho.rd
    clear ho KW
    have HW := Lib.hid (HW.out.trans (hb.mono HW.out.size))
    have HM := Lib.hid (HM.out.below hb)
    have HS := Lib.hid (heap_below HS.out hb)
    have HO := Lib.hid (HO.out.below hb)
    clear hb
    have n1 : (8 * (N : Int) != 8 * (N : Int)) = false := by simp
    have u0 : ¬ 0 < (us.length : Int) := by omega
    go_wp2
    go_loopw [30] (fun i wr => i = .int .i64 0 ∧ wr = w15) (fun _ _ => 0)
    case atStart => exact ⟨rfl, rfl⟩
    case round =>
      skip
      obtain ⟨rfl, rfl⟩ := hrel
      by_cases u9 : 0 < (us.length : Int)
      · first
        | omega
        | (go_wp2
           go_ret
           exact ⟨rfl, HW.out⟩)
      · first
        | omega
        | (go_wp2
           go_ret
           exact ⟨rfl, HW.out⟩)
  by_cases s4 : 8 * (M : Int) - (t : Int) < (us.length : Int)
  · skip
    obtain ⟨a1, a2, hs⟩ := sayS_in (N := N) (F := F) (M := M) (v := v) (us := us) HXL.out hFM (show t < 8 * M by omega) (by omega)
    obtain ⟨ys, hys⟩ : ∃ q, xs.set (8 * F + t) v = q := ⟨_, rfl⟩
    rw [hys] at hs
    have HYS := Lib.hid hys.symm
    clear hys
    have HSET := Lib.hid hs.set
    have HSAY := Lib.hid hs
    clear hs
    generalize fromA xs N = a0 at *
    have HALEN := Lib.hid HSAY.out.l1
    have HYL := Lib.hid HSAY.out.y1
    have HR1 := Lib.hid HSAY.out.r1
    have KS := Lib.hid (spSet_any m _ G a0 (F : Int) (M : Int) (t : Int) v _ HM.out (room_mono HRM.out (by omega)) (HCN.out.fit (by omega)) hSF ⟨by omega, by omega⟩)
    rw [HSET.out] at KS
    unfold spV at KS
    have kc0 := Lib.cell_of_heap HS.out 0
    have kc1 := Lib.cell_of_heap HS.out 1
    have kc2 := Lib.cell_of_heap HS.out 2
    go_wp2_with fail
    refine (KS.out).mono ?_
    rintro e w4 ⟨rfl, own1, hm2, hfr⟩
    have HLOWn := Lib.hid (hfr.low HW.out.size HLOW.out)
    obtain ⟨ho_, hz_⟩ := hfr.ownU HO.out HGz.out
    have HO := Lib.hid ho_
    have HGz := Lib.hid hz_
    clear ho_ hz_
    have HW := Lib.hid (HW.out.trans (hfr.below HW.out.size HLOW.out))
    obtain ⟨hx_, hz_⟩ := hfr.heap HS.out HSz.out
    have HS := Lib.hid hx_
    have HSz := Lib.hid hz_
    clear hx_ hz_
    have HM := Lib.hid hm2
    clear hm2 hfr
    have HLOW := HLOWn
    clear HLOWn
    clear KS kc0 kc1 kc2
    have hyl := HYL.out
    have e1 : IntKind.i64.wrap (8 * (F : Int) + (t : Int)) = ((8 * F + t : Nat) : Int) := by rw [IntWalk.i64_in _ (by omega)]; omega
    obtain ⟨u7, hgl⟩ : ∃ u, w4.cell? ⟨g, 8 * F + t, none⟩ = some (U u) := ⟨_, HO.out.cellAt (8 * F + t) (by rw [HXL.out]; omega)⟩
    have hgf := HO.out.frozenAt (8 * F + t)
    have HST := Lib.hid (HO.out.stored (8 * F + t) v)
    have hin : ((8 * F + t : Nat) : Int) < 8 * (N : Int) := by omega
    have HM2 := Lib.hid (HM.out.other (i := 8 * F + t) HGz.out (U v))
    have HS2 := Lib.hid (heap_other (i := 8 * F + t) HS.out HGx.out (U v))
    have HW2 := Lib.hid (HW.out.setCell (p := ⟨g, 8 * F + t, none⟩) HGB.out (U v))
    rw [← HYS.out] at HST
    obtain ⟨pq, hpq⟩ : ∃ q, 8 * F + t = q := ⟨_, rfl⟩
    rw [hpq] at hgl hgf HST hin HM2 HS2 HW2 e1
    clear hyl hpq
    have HM := HM2
    have HO := HST
    have HS := HS2
    have HW := HW2
    clear HM2 HST HS2 HW2
    have KW := Lib.hid (mWords_any m _ G a1 _ HM.out (room_mono HR1.out (by omega)))
    rw [HSAY.out.w1, HALEN.out] at KW
    go_wp2_with fail
    refine KW.out.mono ?_
    rintro e w5 ⟨⟨B9, d9, rfl, ho⟩, hb⟩
    have HW := Lib.hid (HW.out.trans (hb.mono HW.out.size))
    have HM := Lib.hid (HM.out.below hb)
    have HS := Lib.hid (heap_below HS.out hb)
    have HO := Lib.hid (HO.out.below hb)
    clear hb
    have KM := Lib.hid (same5_any ys ys B9 (some ⟨g, 0, none⟩) d9 c2 w5 ho.rd HO.out.rd (by rw [HYL.out]; unfold maxLen; omega) (by rw [HYL.out]; unfold maxLen; omega))
    rw [beq_self_eq_true, HYL.out] at KM
    clear ho KW
    go_wp2_with fail
    refine KM.out.mono ?_
    rintro e w6 ⟨rfl, hd⟩
    have hb := hd.below w5.heap.size
    clear hd KM
    have HW := Lib.hid (HW.out.trans (hb.mono HW.out.size))
    have HM := Lib.hid (HM.out.below hb)
    have HS := Lib.hid (heap_below HS.out hb)
    have HO := Lib.hid (HO.out.below hb)
    clear hb
    clear hgl hgf hin e1
    have kc0 := Lib.cell_of_heap HS.out 0
    have kc1 := Lib.cell_of_heap HS.out 1
    have kc2 := Lib.cell_of_heap HS.out 2
    have KWD := Lib.hid (spWord_any m _ G a1 (F : Int) (M : Int) (t : Int) _ HM.out (room_mono HR1.out (by omega)) hSF ⟨by omega, by omega⟩)
    rw [HSAY.out.word] at KWD
    unfold spV at KWD
    go_wp2_with fail
    refine KWD.out.mono ?_
    rintro e w7 ⟨rfl, hb⟩
    clear KWD kc0 kc1 kc2
    have HW := Lib.hid (HW.out.trans (hb.mono HW.out.size))
    have HM := Lib.hid (HM.out.below hb)
    have HS := Lib.hid (heap_below HS.out hb)
    have HO := Lib.hid (HO.out.below hb)
    clear hb
    have kc0 := Lib.cell_of_heap HS.out 0
    have kc1 := Lib.cell_of_heap HS.out 1
    have kc2 := Lib.cell_of_heap HS.out 2
    have KP := Lib.hid (spPush_any m _ G a1 (F : Int) (M : Int) (t : Int) us B d 1 1 _ HM.out HR1.out HSAY.out.c1 (by omega) (by omega) (by omega) hSF ⟨by omega, by omega⟩ (fun W own9 hf9 => HU0.out.below (HW.out.trans (hf9.below HW.out.size HLOW.out))))
    rw [HSAY.out.push] at KP
    unfold spV at KP
    go_wp2_with fail
    refine (KP.out).mono ?_
    rintro e w8 ⟨rfl, own2, hm2, hfr⟩
    have HLOWn := Lib.hid (hfr.low HW.out.size HLOW.out)
    obtain ⟨ho_, hz_⟩ := hfr.ownU HO.out HGz.out
    have HO := Lib.hid ho_
    have HGz := Lib.hid hz_
    clear ho_ hz_
    have HW := Lib.hid (HW.out.trans (hfr.below HW.out.size HLOW.out))
    obtain ⟨hx_, hz_⟩ := hfr.heap HS.out HSz.out
    have HS := Lib.hid hx_
    have HSz := Lib.hid hz_
    clear hx_ hz_
    have HM := Lib.hid hm2
    clear hm2 hfr
    have HLOW := HLOWn
    clear HLOWn
    clear KP kc0 kc1 kc2
    have HALEN := Lib.hid HSAY.out.l2
    have HZL := Lib.hid HSAY.out.y2
    have HCL := Lib.hid (show ((ys.drop (8 * F)).take (8 * M)).length = 8 * M by rw [List.length_take, List.length_drop, HZL.out]; omega)
    have HR2 := Lib.hid (room_mono HSAY.out.r2 (show 1 + us.length ≤ 1000 by omega))
    have kc0 := Lib.cell_of_heap HS.out 0
    have kc1 := Lib.cell_of_heap HS.out 1
    have kc2 := Lib.cell_of_heap HS.out 2
    have KAL := Lib.hid (spAll_on m _ G a2 (F : Int) M _ HM.out HR2.out hSF HSAY.out.o2 (by rw [HALEN.out]; omega))
    rw [HSAY.out.al] at KAL
    unfold spV at KAL
    go_wp2_with fail
    refine KAL.out.mono ?_
    rintro e w9 ⟨⟨B8, d8, rfl, ho⟩, hb⟩
    have HV := Lib.hid ho.rd
    clear KAL kc0 kc1 kc2 ho
    have HW := Lib.hid (HW.out.trans (hb.mono HW.out.size))
    have HM := Lib.hid (HM.out.below hb)
    have HS := Lib.hid (heap_below HS.out hb)
    have HO := Lib.hid (HO.out.below hb)
    clear hb
    have KW := Lib.hid (mWords_any m _ G a2 _ HM.out HR2.out)
    rw [HSAY.out.w2, HALEN.out] at KW
    go_wp2_with fail
    refine KW.out.mono ?_
    rintro e w10 ⟨⟨B9, d9, rfl, ho⟩, hb⟩
    have HW := Lib.hid (HW.out.trans (hb.mono HW.out.size))
    have HM := Lib.hid (HM.out.below hb)
    have HS := Lib.hid (heap_below HS.out hb)
    have HO := Lib.hid (HO.out.below hb)
    have HV := Lib.hid (HV.out.below hb)
    clear hb
    have KM := Lib.hid (same5_any ys ys B9 (some ⟨g, 0, none⟩) d9 c2 w10 ho.rd HO.out.rd (by rw [HZL.out]; unfold maxLen; omega) (by rw [HZL.out]; unfold maxLen; omega))
    rw [beq_self_eq_true, HZL.out] at KM
    clear ho KW
    go_wp2_with fail
    refine KM.out.mono ?_
    rintro e w11 ⟨rfl, hd⟩
    have hb := hd.below w10.heap.size
    clear hd KM
    have HW := Lib.hid (HW.out.trans (hb.mono HW.out.size))
    have HM := Lib.hid (HM.out.below hb)
    have HS := Lib.hid (heap_below HS.out hb)
    have HO := Lib.hid (HO.out.below hb)
    have HV := Lib.hid (HV.out.below hb)
    clear hb
    have e3 : IntKind.i64.wrap ((F : Int) + (M : Int)) = (F : Int) + (M : Int) := IntWalk.i64_in _ (by omega)
    have e4 : IntKind.i64.wrap (8 * ((F : Int) + (M : Int))) = 8 * ((F : Int) + (M : Int)) := IntWalk.i64_in _ (by omega)
    have hgc := HO.out.cap
    rw [HZL.out] at hgc
    obtain ⟨hgc1, hgc2⟩ := hgc
    have i1 : 8 * (F : Int) ≤ 8 * ((F : Int) + (M : Int)) := by omega
    have i2 : 8 * ((F : Int) + (M : Int)) ≤ (c2 : Int) := by omega
    have i3 : (8 * ((F : Int) + (M : Int))).toNat - (8 * (F : Int)).toNat = 8 * M := by omega
    have i4 : (8 * (F : Int)).toNat = 8 * F := by omega
    have i5 : (0 : Int) ≤ 8 * (F : Int) := by omega
    have KM := Lib.hid (same5_any ((ys.drop (8 * F)).take (8 * M)) ((ys.drop (8 * F)).take (8 * M)) B8 (some ⟨g, 8 * F, none⟩) d8 (c2 - 8 * F) w11 HV.out (rdU_slice HO.out.rd) (by rw [HCL.out]; unfold maxLen; omega) (by rw [HCL.out]; unfold maxLen; omega))
    rw [beq_self_eq_true, HCL.out] at KM
    go_wp2_with fail
    rw [show 8 * (F + M) - 8 * F = 8 * M by omega]
    refine KM.out.mono ?_
    rintro e w12 ⟨rfl, hd⟩
    have hb := hd.below w11.heap.size
    clear hd KM i1 i2 i3 i4 i5 e3 e4 hgc1 hgc2
    have HW := Lib.hid (HW.out.trans (hb.mono HW.out.size))
    have HM := Lib.hid (HM.out.below hb)
    have HS := Lib.hid (heap_below HS.out hb)
    have HO := Lib.hid (HO.out.below hb)
    clear hb
    have HCN2 := Lib.hid (show ((a2.crash []).on).room 1000 from crash_room HR2.out [])
    have HCL3 := Lib.hid HSAY.out.l3
    have kc0 := Lib.cell_of_heap HS.out 0
    have kc1 := Lib.cell_of_heap HS.out 1
    have kc2 := Lib.cell_of_heap HS.out 2
    have KC := Lib.hid (mCrash_any m _ G a2 [] none 0 _ HM.out HR2.out (fun _ _ _ => .inl rfl) (Nat.le_refl _) (by unfold maxLen; omega))
    go_wp2_with fail
    refine (KC.out).mono ?_
    rintro e w13 ⟨rfl, own3, hm2, hfr⟩
    have HLOWn := Lib.hid (hfr.low HW.out.size HLOW.out)
    obtain ⟨ho_, hz_⟩ := hfr.ownU HO.out HGz.out
    have HO := Lib.hid ho_
    have HGz := Lib.hid hz_
    clear ho_ hz_
    have HW := Lib.hid (HW.out.trans (hfr.below HW.out.size HLOW.out))
    obtain ⟨hx_, hz_⟩ := hfr.heap HS.out HSz.out
    have HS := Lib.hid hx_
    have HSz := Lib.hid hz_
    clear hx_ hz_
    have HM := Lib.hid hm2
    clear hm2 hfr
    have HLOW := HLOWn
    clear HLOWn
    clear KC kc0 kc1 kc2
    have kc0 := Lib.cell_of_heap HS.out 0
    have kc1 := Lib.cell_of_heap HS.out 1
    have kc2 := Lib.cell_of_heap HS.out 2
    go_wp2_with fail
    refine (mOn_any HM.out).mono ?_
    rintro e w14 ⟨rfl, own4, hm2, hfr⟩
    have HLOWn := Lib.hid (hfr.low HW.out.size HLOW.out)
    obtain ⟨ho_, hz_⟩ := hfr.ownU HO.out HGz.out
    have HO := Lib.hid ho_
    have HGz := Lib.hid hz_
    clear ho_ hz_
    have HW := Lib.hid (HW.out.trans (hfr.below HW.out.size HLOW.out))
    obtain ⟨hx_, hz_⟩ := hfr.heap HS.out HSz.out
    have HS := Lib.hid hx_
    have HSz := Lib.hid hz_
    clear hx_ hz_
    have HM := Lib.hid hm2
    clear hm2 hfr
    have HLOW := HLOWn
    clear HLOWn
    clear kc0 kc1 kc2
    generalize (a2.crash []).on = a3 at *
    have KW := Lib.hid (mWords_any m _ G a3 _ HM.out HCN2.out)
    rw [HCL3.out] at KW
    go_wp2_with fail
    refine KW.out.mono ?_
    rintro e w15 ⟨⟨B7, d7, rfl, ho⟩, hb⟩
    have HN := Lib.hid ho.rd
    clear ho KW
    have HW := Lib.hid (HW.out.trans (hb.mono HW.out.size))
    have HM := Lib.hid (HM.out.below hb)
    have HS := Lib.hid (heap_below HS.out hb)
    have HO := Lib.hid (HO.out.below hb)
    clear hb
    have n1 : (8 * (N : Int) != 8 * (N : Int)) = false := by simp
    go_wp2
    go_loopw [30] (fun i wr => i = .int .i64 0 ∧ wr = w15) (fun _ _ => 0)
    case atStart => exact ⟨rfl, rfl⟩
    case round =>
      skip
      obtain ⟨rfl, rfl⟩ := hrel
      by_cases u9 : 0 < (us.length : Int)
      · first
        | omega
        | (go_wp2
           go_ret
           exact ⟨rfl, HW.out⟩)
      · first
        | omega
        | (go_wp2
           go_ret
           exact ⟨rfl, HW.out⟩)
  skip
  obtain ⟨a1, a2, hs⟩ := sayS_fits (N := N) (F := F) (M := M) (v := v) (us := us) HXL.out hFM (show 0 < us.length by omega) (show t + us.length ≤ 8 * M by omega)
  have HZA := Lib.hid (fun k (hk : k < us.length) => show (laid (xs.set (8 * F + t) v) (8 * F + t) us)[8 * F + t + k]? = us[k]? from laid_atQ (ys := xs.set (8 * F + t) v) (p := 8 * F + t) (us := us) (by rw [List.length_set, HXL.out]; omega) hk)
  obtain ⟨ys, hys⟩ : ∃ q, xs.set (8 * F + t) v = q := ⟨_, rfl⟩
  rw [hys] at hs HZA
  have HYS := Lib.hid hys.symm
  clear hys
  have HSET := Lib.hid hs.set
  have HSAY := Lib.hid hs
  clear hs
  generalize fromA xs N = a0 at *
  have HALEN := Lib.hid HSAY.out.l1
  have HYL := Lib.hid HSAY.out.y1
  have HR1 := Lib.hid HSAY.out.r1
  have KS := Lib.hid (spSet_any m _ G a0 (F : Int) (M : Int) (t : Int) v _ HM.out (room_mono HRM.out (by omega)) (HCN.out.fit (by omega)) hSF ⟨by omega, by omega⟩)
  rw [HSET.out] at KS
  unfold spV at KS
  have kc0 := Lib.cell_of_heap HS.out 0
  have kc1 := Lib.cell_of_heap HS.out 1
  have kc2 := Lib.cell_of_heap HS.out 2
  go_wp2_with fail
  refine (KS.out).mono ?_
  rintro e w4 ⟨rfl, own1, hm2, hfr⟩
  have HLOWn := Lib.hid (hfr.low HW.out.size HLOW.out)
  obtain ⟨ho_, hz_⟩ := hfr.ownU HO.out HGz.out
  have HO := Lib.hid ho_
  have HGz := Lib.hid hz_
  clear ho_ hz_
  have HW := Lib.hid (HW.out.trans (hfr.below HW.out.size HLOW.out))
  obtain ⟨hx_, hz_⟩ := hfr.heap HS.out HSz.out
  have HS := Lib.hid hx_
  have HSz := Lib.hid hz_
  clear hx_ hz_
  have HM := Lib.hid hm2
  clear hm2 hfr
  have HLOW := HLOWn
  clear HLOWn
  clear KS kc0 kc1 kc2
  have hyl := HYL.out
  have e1 : IntKind.i64.wrap (8 * (F : Int) + (t : Int)) = ((8 * F + t : Nat) : Int) := by rw [IntWalk.i64_in _ (by omega)]; omega
  obtain ⟨u7, hgl⟩ : ∃ u, w4.cell? ⟨g, 8 * F + t, none⟩ = some (U u) := ⟨_, HO.out.cellAt (8 * F + t) (by rw [HXL.out]; omega)⟩
  have hgf := HO.out.frozenAt (8 * F + t)
  have HST := Lib.hid (HO.out.stored (8 * F + t) v)
  have hin : ((8 * F + t : Nat) : Int) < 8 * (N : Int) := by omega
  have HM2 := Lib.hid (HM.out.other (i := 8 * F + t) HGz.out (U v))
  have HS2 := Lib.hid (heap_other (i := 8 * F + t) HS.out HGx.out (U v))
  have HW2 := Lib.hid (HW.out.setCell (p := ⟨g, 8 * F + t, none⟩) HGB.out (U v))
  rw [← HYS.out] at HST
  obtain ⟨pq, hpq⟩ : ∃ q, 8 * F + t = q := ⟨_, rfl⟩
  rw [hpq] at hgl hgf HST hin HM2 HS2 HW2 e1
  clear hyl hpq
  have HM := HM2
  have HO := HST
  have HS := HS2
  have HW := HW2
  clear HM2 HST HS2 HW2
  have KW := Lib.hid (mWords_any m _ G a1 _ HM.out (room_mono HR1.out (by omega)))
  rw [HSAY.out.w1, HALEN.out] at KW
  go_wp2_with fail
  refine KW.out.mono ?_
  rintro e w5 ⟨⟨B9, d9, rfl, ho⟩, hb⟩
  have HW := Lib.hid (HW.out.trans (hb.mono HW.out.size))
  have HM := Lib.hid (HM.out.below hb)
  have HS := Lib.hid (heap_below HS.out hb)
  have HO := Lib.hid (HO.out.below hb)
  clear hb
  have KM := Lib.hid (same5_any ys ys B9 (some ⟨g, 0, none⟩) d9 c2 w5 ho.rd HO.out.rd (by rw [HYL.out]; unfold maxLen; omega) (by rw [HYL.out]; unfold maxLen; omega))
  rw [beq_self_eq_true, HYL.out] at KM
  clear ho KW
  go_wp2_with fail
  refine KM.out.mono ?_
  rintro e w6 ⟨rfl, hd⟩
  have hb := hd.below w5.heap.size
  clear hd KM
  have HW := Lib.hid (HW.out.trans (hb.mono HW.out.size))
  have HM := Lib.hid (HM.out.below hb)
  have HS := Lib.hid (heap_below HS.out hb)
  have HO := Lib.hid (HO.out.below hb)
  clear hb
  clear hgl hgf hin e1
  have kc0 := Lib.cell_of_heap HS.out 0
  have kc1 := Lib.cell_of_heap HS.out 1
  have kc2 := Lib.cell_of_heap HS.out 2
  have KWD := Lib.hid (spWord_any m _ G a1 (F : Int) (M : Int) (t : Int) _ HM.out (room_mono HR1.out (by omega)) hSF ⟨by omega, by omega⟩)
  rw [HSAY.out.word] at KWD
  unfold spV at KWD
  go_wp2_with fail
  refine KWD.out.mono ?_
  rintro e w7 ⟨rfl, hb⟩
  clear KWD kc0 kc1 kc2
  have HW := Lib.hid (HW.out.trans (hb.mono HW.out.size))
  have HM := Lib.hid (HM.out.below hb)
  have HS := Lib.hid (heap_below HS.out hb)
  have HO := Lib.hid (HO.out.below hb)
  clear hb
  have kc0 := Lib.cell_of_heap HS.out 0
  have kc1 := Lib.cell_of_heap HS.out 1
  have kc2 := Lib.cell_of_heap HS.out 2
  have KP := Lib.hid (spPush_any m _ G a1 (F : Int) (M : Int) (t : Int) us B d 1 1 _ HM.out HR1.out HSAY.out.c1 (by omega) (by omega) (by omega) hSF ⟨by omega, by omega⟩ (fun W own9 hf9 => HU0.out.below (HW.out.trans (hf9.below HW.out.size HLOW.out))))
  rw [HSAY.out.push] at KP
  unfold spV at KP
  go_wp2_with fail
  refine (KP.out).mono ?_
  rintro e w8 ⟨rfl, own2, hm2, hfr⟩
  have HLOWn := Lib.hid (hfr.low HW.out.size HLOW.out)
  obtain ⟨ho_, hz_⟩ := hfr.ownU HO.out HGz.out
  have HO := Lib.hid ho_
  have HGz := Lib.hid hz_
  clear ho_ hz_
  have HW := Lib.hid (HW.out.trans (hfr.below HW.out.size HLOW.out))
  obtain ⟨hx_, hz_⟩ := hfr.heap HS.out HSz.out
  have HS := Lib.hid hx_
  have HSz := Lib.hid hz_
  clear hx_ hz_
  have HM := Lib.hid hm2
  clear hm2 hfr
  have HLOW := HLOWn
  clear HLOWn
  clear KP kc0 kc1 kc2
  go_wp2
  go_loopw [26] (fun i wr => ∃ k : Nat, k ≤ us.length ∧ i = .int .i64 k ∧ MemAt wr m own2 G a2 ∧ wr.heap[sx]? = some (.cells #[.pointer (some ⟨m, 0, none⟩), .int .i64 (F : Int), .int .i64 (M : Int)] 29 (0, 0)) ∧ OwnU wr base (some ⟨g, 0, none⟩) (laid ys (8 * F + t) (us.take k)) c2 ∧ Below w.heap.size w wr) (fun i _ => us.length - (intOf i).toNat)
  case atStart => exact ⟨0, Nat.zero_le _, rfl, HM.out, HS.out, by rw [laid_zero]; exact HO.out, HW.out⟩
  case round =>
    clear HM HS HO HW
    skip
    obtain ⟨k, hk, rfl, hm, hs, ho, hw⟩ := hrel
    have HM := Lib.hid hm
    have HS := Lib.hid hs
    have HO := Lib.hid ho
    have HW := Lib.hid hw
    have HU := Lib.hid (HU0.out.below hw)
    clear hm hs ho hw
    by_cases hlt : k < us.length
    · obtain ⟨ub, uo, rfl, huc⟩ := HU.out.at_ hlt
      have hu1 := huc k hlt
      have e0 : IntKind.i64.wrap ((k : Int) + 1) = (k : Int) + 1 := IntWalk.i64_in _ (by omega)
      have e1 : IntKind.i64.wrap (8 * (F : Int) + (t : Int)) = ((8 * F + t : Nat) : Int) := by rw [IntWalk.i64_in _ (by omega)]; omega
      have e2 : IntKind.i64.wrap (((8 * F + t : Nat) : Int) + (k : Int)) = ((8 * F + t + k : Nat) : Int) := by rw [IntWalk.i64_in _ (by omega)]; omega
      have HLS := Lib.hid (laid_succ ys us (8 * F + t) k hlt (by rw [HYL.out]; omega))
      have HLL := Lib.hid (show (laid ys (8 * F + t) (us.take k)).length = 8 * N by rw [length_laid ys _ _ (by rw [HYL.out, List.length_take]; omega), HYL.out])
      obtain ⟨u7, hgl⟩ : ∃ u, wr.cell? ⟨g, 8 * F + t + k, none⟩ = some (U u) := ⟨_, HO.out.cellAt (8 * F + t + k) (by rw [HLL.out]; omega)⟩
      have hgf := HO.out.frozenAt (8 * F + t + k)
      have HST := Lib.hid (HO.out.stored (8 * F + t + k) us[k])
      rw [HLS.out] at HST
      have hin : ((8 * F + t + k : Nat) : Int) < 8 * (N : Int) := by omega
      have HM2 := Lib.hid (HM.out.other (i := 8 * F + t + k) HGz.out (U us[k]))
      have HS2 := Lib.hid (heap_other (i := 8 * F + t + k) HS.out HGx.out (U us[k]))
      have HW2 := Lib.hid (HW.out.setCell (p := ⟨g, 8 * F + t + k, none⟩) HGB.out (U us[k]))
      obtain ⟨pq, hpq⟩ : ∃ q, 8 * F + t + k = q := ⟨_, rfl⟩
      rw [hpq] at e2 hgl hgf HST hin HM2 HS2 HW2
      obtain ⟨pr, hpr⟩ : ∃ q, 8 * F + t = q := ⟨_, rfl⟩
      rw [hpr] at e1 e2
      rw [hpr] at HST
      clear huc hpq HLS HLL
      generalize us[k] = u at *
      clear HO HM HS HW
      go_wp2
      go_roundw
      case rel => exact ⟨k + 1, by omega, by go_num, HM2.out, HS2.out, by rw [hpr]; exact HST.out, HW2.out⟩
      case measure => simp [intOf]; omega
    · obtain rfl : k = us.length := by omega
      rw [List.take_length] at HO
      clear hlt hk
      generalize laid ys (8 * F + t) us = zs at HSAY HO HZA
      have HALEN := Lib.hid HSAY.out.l2
      have HZL := Lib.hid HSAY.out.y2
      have HCL := Lib.hid (show ((zs.drop (8 * F)).take (8 * M)).length = 8 * M by rw [List.length_take, List.length_drop, HZL.out]; omega)
      have HR2 := Lib.hid (room_mono HSAY.out.r2 (show 1 + us.length ≤ 1000 by omega))
      have kc0 := Lib.cell_of_heap HS.out 0
      have kc1 := Lib.cell_of_heap HS.out 1
      have kc2 := Lib.cell_of_heap HS.out 2
      have KAL := Lib.hid (spAll_on m _ G a2 (F : Int) M _ HM.out HR2.out hSF HSAY.out.o2 (by rw [HALEN.out]; omega))
      rw [HSAY.out.al] at KAL
      unfold spV at KAL
      go_wp2_with fail
      refine KAL.out.mono ?_
      rintro e w29 ⟨⟨B8, d8, rfl, ho⟩, hb⟩
      have HV := Lib.hid ho.rd
      clear KAL kc0 kc1 kc2 ho
      have HW := Lib.hid (HW.out.trans (hb.mono HW.out.size))
      have HM := Lib.hid (HM.out.below hb)
      have HS := Lib.hid (heap_below HS.out hb)
      have HO := Lib.hid (HO.out.below hb)
      clear hb
      have KW := Lib.hid (mWords_any m _ G a2 _ HM.out HR2.out)
      rw [HSAY.out.w2, HALEN.out] at KW
      go_wp2_with fail
      refine KW.out.mono ?_
      rintro e w30 ⟨⟨B9, d9, rfl, ho⟩, hb⟩
      have HW := Lib.hid (HW.out.trans (hb.mono HW.out.size))
      have HM := Lib.hid (HM.out.below hb)
      have HS := Lib.hid (heap_below HS.out hb)
      have HO := Lib.hid (HO.out.below hb)
      have HV := Lib.hid (HV.out.below hb)
      clear hb
      have KM := Lib.hid (same5_any zs zs B9 (some ⟨g, 0, none⟩) d9 c2 w30 ho.rd HO.out.rd (by rw [HZL.out]; unfold maxLen; omega) (by rw [HZL.out]; unfold maxLen; omega))
      rw [beq_self_eq_true, HZL.out] at KM
      clear ho KW
      go_wp2_with fail
      refine KM.out.mono ?_
      rintro e w31 ⟨rfl, hd⟩
      have hb := hd.below w30.heap.size
      clear hd KM
      have HW := Lib.hid (HW.out.trans (hb.mono HW.out.size))
      have HM := Lib.hid (HM.out.below hb)
      have HS := Lib.hid (heap_below HS.out hb)
      have HO := Lib.hid (HO.out.below hb)
      have HV := Lib.hid (HV.out.below hb)
      clear hb
      have e3 : IntKind.i64.wrap ((F : Int) + (M : Int)) = (F : Int) + (M : Int) := IntWalk.i64_in _ (by omega)
      have e4 : IntKind.i64.wrap (8 * ((F : Int) + (M : Int))) = 8 * ((F : Int) + (M : Int)) := IntWalk.i64_in _ (by omega)
      have hgc := HO.out.cap
      rw [HZL.out] at hgc
      obtain ⟨hgc1, hgc2⟩ := hgc
      have i1 : 8 * (F : Int) ≤ 8 * ((F : Int) + (M : Int)) := by omega
      have i2 : 8 * ((F : Int) + (M : Int)) ≤ (c2 : Int) := by omega
      have i3 : (8 * ((F : Int) + (M : Int))).toNat - (8 * (F : Int)).toNat = 8 * M := by omega
      have i4 : (8 * (F : Int)).toNat = 8 * F := by omega
      have i5 : (0 : Int) ≤ 8 * (F : Int) := by omega
      have KM := Lib.hid (same5_any ((zs.drop (8 * F)).take (8 * M)) ((zs.drop (8 * F)).take (8 * M)) B8 (some ⟨g, 8 * F, none⟩) d8 (c2 - 8 * F) w31 HV.out (rdU_slice HO.out.rd) (by rw [HCL.out]; unfold maxLen; omega) (by rw [HCL.out]; unfold maxLen; omega))
      rw [beq_self_eq_true, HCL.out] at KM
      go_wp2_with fail
      rw [show 8 * (F + M) - 8 * F = 8 * M by omega]
      refine KM.out.mono ?_
      rintro e w32 ⟨rfl, hd⟩
      have hb := hd.below w31.heap.size
      clear hd KM i1 i2 i3 i4 i5 e3 e4 hgc1 hgc2
      have HW := Lib.hid (HW.out.trans (hb.mono HW.out.size))
      have HM := Lib.hid (HM.out.below hb)
      have HS := Lib.hid (heap_below HS.out hb)
      have HO := Lib.hid (HO.out.below hb)
      clear hb
      have HCN2 := Lib.hid (show ((a2.crash []).on).room 1000 from crash_room HR2.out [])
      have HCL3 := Lib.hid HSAY.out.l3
      have HW3 := Lib.hid (HSAY.out.w3 rfl)
      have kc0 := Lib.cell_of_heap HS.out 0
      have kc1 := Lib.cell_of_heap HS.out 1
      have kc2 := Lib.cell_of_heap HS.out 2
      have KC := Lib.hid (mCrash_any m _ G a2 [] none 0 _ HM.out HR2.out (fun _ _ _ => .inl rfl) (Nat.le_refl _) (by unfold maxLen; omega))
      go_wp2_with fail
      refine (KC.out).mono ?_
      rintro e w33 ⟨rfl, own3, hm2, hfr⟩
      have HLOWn := Lib.hid (hfr.low HW.out.size HLOW.out)
      obtain ⟨ho_, hz_⟩ := hfr.ownU HO.out HGz.out
      have HO := Lib.hid ho_
      have HGz := Lib.hid hz_
      clear ho_ hz_
      have HW := Lib.hid (HW.out.trans (hfr.below HW.out.size HLOW.out))
      obtain ⟨hx_, hz_⟩ := hfr.heap HS.out HSz.out
      have HS := Lib.hid hx_
      have HSz := Lib.hid hz_
      clear hx_ hz_
      have HM := Lib.hid hm2
      clear hm2 hfr
      have HLOW := HLOWn
      clear HLOWn
      clear KC kc0 kc1 kc2
      have kc0 := Lib.cell_of_heap HS.out 0
      have kc1 := Lib.cell_of_heap HS.out 1
      have kc2 := Lib.cell_of_heap HS.out 2
      go_wp2_with fail
      refine (mOn_any HM.out).mono ?_
      rintro e w34 ⟨rfl, own4, hm2, hfr⟩
      have HLOWn := Lib.hid (hfr.low HW.out.size HLOW.out)
      obtain ⟨ho_, hz_⟩ := hfr.ownU HO.out HGz.out
      have HO := Lib.hid ho_
      have HGz := Lib.hid hz_
      clear ho_ hz_
      have HW := Lib.hid (HW.out.trans (hfr.below HW.out.size HLOW.out))
      obtain ⟨hx_, hz_⟩ := hfr.heap HS.out HSz.out
      have HS := Lib.hid hx_
      have HSz := Lib.hid hz_
      clear hx_ hz_
      have HM := Lib.hid hm2
      clear hm2 hfr
      have HLOW := HLOWn
      clear HLOWn
      clear kc0 kc1 kc2
      generalize (a2.crash []).on = a3 at *
      have KW := Lib.hid (mWords_any m _ G a3 _ HM.out HCN2.out)
      rw [HW3.out] at KW
      rw [HCL3.out] at KW
      go_wp2_with fail
      refine KW.out.mono ?_
      rintro e w35 ⟨⟨B7, d7, rfl, ho⟩, hb⟩
      have HN := Lib.hid ho.rd
      clear ho KW
      have HW := Lib.hid (HW.out.trans (hb.mono HW.out.size))
      have HM := Lib.hid (HM.out.below hb)
      have HS := Lib.hid (heap_below HS.out hb)
      have HO := Lib.hid (HO.out.below hb)
      clear hb
      have n1 : (8 * (N : Int) != 8 * (N : Int)) = false := by simp
      have HU9 := Lib.hid (HU0.out.below HW.out)
      have HZG := Lib.hid HZA.out
      go_wp2
      go_loopw [30] (fun i wr => ∃ k : Nat, k ≤ us.length ∧ i = .int .i64 k ∧ Drawn w35 wr) (fun i _ => us.length - (intOf i).toNat)
      case atStart => exact ⟨0, Nat.zero_le _, rfl, Drawn.refl _⟩
      case round =>
        skip
        obtain ⟨k, hk, rfl, hd⟩ := hrel
        have HD := Lib.hid hd
        clear hd
        by_cases hlt : k < us.length
        · obtain ⟨ub, uo, rfl, huc⟩ := (HU9.out.drawn HD.out).at_ hlt
          have hu1 := huc k hlt
          have hzlt : 8 * F + t + k < zs.length := by rw [HZL.out]; omega
          obtain ⟨nb, no, rfl, hnc⟩ := (HN.out.drawn HD.out).at_ hzlt
          have hn1_ := hnc (8 * F + t + k) hzlt
          have hza := HZG.out k hlt
          rw [List.getElem?_eq_getElem hzlt, List.getElem?_eq_getElem hlt] at hza
          have hza := Option.some.inj hza
          rw [hza] at hn1_
          clear hza
          have e0 : IntKind.i64.wrap ((k : Int) + 1) = (k : Int) + 1 := IntWalk.i64_in _ (by omega)
          have e1 : IntKind.i64.wrap (8 * (F : Int) + (t : Int)) = ((8 * F + t : Nat) : Int) := by rw [IntWalk.i64_in _ (by omega)]; omega
          have e2 : IntKind.i64.wrap (((8 * F + t : Nat) : Int) + (k : Int)) = ((8 * F + t + k : Nat) : Int) := by rw [IntWalk.i64_in _ (by omega)]; omega
          have hin : ((8 * F + t + k : Nat) : Int) < 8 * (N : Int) := by omega
          have hbn : ∀ x : BitVec 64, (x != x) = false := fun x => by simp
          obtain ⟨pr, hpr⟩ : ∃ q, 8 * F + t = q := ⟨_, rfl⟩
          rw [hpr] at e1 e2 hin hn1_
          obtain ⟨pq, hpq⟩ : ∃ q, pr + k = q := ⟨_, rfl⟩
          rw [hpq] at e2 hin hn1_
          clear huc hnc
          generalize us[k] = u at *
          have hbn := hbn u
          go_wp2
          go_quiet (fail)
          go_wp2
          go_roundw
          case rel => exact ⟨k + 1, by omega, by go_num, HD.out.trans (Drawn.some_ _ _)⟩
          case measure => simp [intOf]; omega
        · obtain rfl : k = us.length := by omega
          have HW := Lib.hid (HW.out.trans ((HD.out.below _).mono HW.out.size))
          go_wp2
          go_ret
          exact ⟨rfl, HW.out⟩
end Go.Proofs.Ytoifejinppjeeaa
