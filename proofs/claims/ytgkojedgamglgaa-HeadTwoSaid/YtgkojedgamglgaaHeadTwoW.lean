/- The walk of the statement HeadTwo. No condition but that the numbers are ints. -/
import Derived.Test.YtgkojedgamglgaaHeadFind2
namespace Go.Proofs.Ytgkojedgamglgaa
open Go.RowKit
set_option linter.unusedVariables false
set_option linter.unusedSimpArgs false
theorem isAt_head {g : Geo} (h : g.good = true) (p : BitVec 64) {m : Nat} (hm : g.b = (m : Int)) : isAt (headW g p) m = true ∧ tellG (headW g p) = g ∧ tellP (headW g p) = p := by
  obtain ⟨h1, h2, h3⟩ := headOk_back h p
  have hg : tellG (headW g p) = g := by unfold tellG; rw [h1, if_pos rfl, h2]
  refine ⟨?_, hg, by unfold tellP; rw [h1, if_pos rfl, h3]⟩
  unfold isAt
  rw [h1, hg, decide_eq_true hm]
  rfl
theorem isAt_none (m : Nat) : isAt z8 m = false := by
  unfold isAt
  rw [show headOk z8 = false by decide +kernel]
  rfl
theorem f8_head {g : Geo} (h : g.good = true) (p : BitVec 64) : f8 (headW g p) = headW g p := by
  unfold f8
  rw [if_pos (by rw [headW_len, if_pos h])]
theorem findV_tt {g : Geo} (h : g.good = true) (p : BitVec 64) {m : Nat} (hm : g.b = (m : Int)) : findV (f8 (headW g p)) (f8 (headW g p)) m = .tuple #[headV g p, .bool true, .bool true] := by
  obtain ⟨h1, h2, h3⟩ := isAt_head h p hm
  rw [f8_head h]
  unfold findV
  rw [h1, if_pos rfl, h2, h3]
theorem findV_tf {g : Geo} (h : g.good = true) (p : BitVec 64) {m : Nat} (hm : g.b = (m : Int)) : findV (f8 (headW g p)) (f8 []) m = .tuple #[headV g p, .bool true, .bool false] := by
  obtain ⟨h1, h2, h3⟩ := isAt_head h p hm
  rw [f8_head h]
  unfold findV
  rw [h1, if_pos rfl, h2, h3, show f8 [] = z8 from rfl, isAt_none]
theorem findV_ft {g : Geo} (h : g.good = true) (p : BitVec 64) {m : Nat} (hm : g.b = (m : Int)) : findV (f8 []) (f8 (headW g p)) m = .tuple #[headV g p, .bool false, .bool true] := by
  obtain ⟨h1, h2, h3⟩ := isAt_head h p hm
  rw [f8_head h]
  unfold findV
  rw [show f8 [] = z8 from rfl, isAt_none, if_neg (by decide), h1, if_pos rfl, h2, h3]
theorem findV_ff (m : Nat) : findV (f8 []) (f8 []) m = .tuple #[headV ⟨0, 0, 0, 0⟩ 0#64, .bool false, .bool false] := by
  unfold findV
  rw [show f8 [] = z8 from rfl, isAt_none, if_neg (by decide), if_neg (by decide)]
set_option maxRecDepth 100000 in
set_option maxHeartbeats 4000000 in
theorem HeadTwo_walk (g : Geo) (first back : Bool) (p : BitVec 64) (w : World) (hf : g.Fit) :
    Calls Try.prog 7 #[g.v, .bool first, .bool back, U p] w fun e w' => e = .returned (.bool true) ∧ Below w.heap.size w w' := by
  have KA := Lib.hid (fun W => headAwake_any W)
  have KG := Lib.hid (fun W => ggood_any g W)
  by_cases hg : g.good = true
  · rw [hg] at KG
    by_cases h200 : 200 < g.b
    · clear hg hf
      obtain ⟨b, n, c, k⟩ := g
      simp only [Geo.v] at *
      have HX := Lib.hid ((Below.refl w.heap.size w).alloc (Nat.le_refl _) (.cells #[.int .i64 b, .int .i64 n, .int .i64 c, .int .i64 k] 33))
      have HC := Lib.hid (fun (W : World) (h : Below (w.alloc (.cells #[.int .i64 b, .int .i64 n, .int .i64 c, .int .i64 k] 33)).heap.size (w.alloc (.cells #[.int .i64 b, .int .i64 n, .int .i64 c, .int .i64 k] 33)) W) => geo_cells h)
      have HB := Lib.hid (Below.refl (w.alloc (.cells #[.int .i64 b, .int .i64 n, .int .i64 c, .int .i64 k] 33)).heap.size (w.alloc (.cells #[.int .i64 b, .int .i64 n, .int .i64 c, .int .i64 k] 33)))
      go_enter Try.func7, Try.ntmps7
      go_wp2_with fail
      refine (KA.out _).mono ?_
      rintro e w1 ⟨rfl, hb⟩
      have HB := Lib.hid (HB.out.trans (hb.mono HB.out.size))
      clear hb
      obtain ⟨c0, c1, c2, c3⟩ := HC.out _ HB.out
      go_wp2_with fail
      refine (KG.out _).mono ?_
      rintro e w2 ⟨rfl, hb⟩
      have HB := Lib.hid (HB.out.trans (hb.mono HB.out.size))
      clear hb c0 c1 c2 c3
      obtain ⟨c0, c1, c2, c3⟩ := HC.out _ HB.out
      go_wp2
      go_ret
      exact ⟨rfl, HX.out.trans (HB.out.mono HX.out.size)⟩
    obtain ⟨hIn, _⟩ := (Geo.good_iff g).1 hg
    obtain ⟨m, hm⟩ := Int.eq_ofNat_of_zero_le (show 0 ≤ g.b by have := hIn.1; omega)
    have hm1 : 64 ≤ m := by have := hIn.1; omega
    have hm2 : m ≤ 1024 := by omega
    have KP := Lib.hid (fun W => hPut_good hg p W)
    have HLN := Lib.hid (show (headW g p).length = 8 by rw [headW_len, if_pos hg])
    have Vtt := Lib.hid (findV_tt hg p hm)
    have Vtf := Lib.hid (findV_tf hg p hm)
    have Vft := Lib.hid (findV_ft hg p hm)
    have Vff := Lib.hid (findV_ff m)
    have KI := Lib.hid (fun f F cf l L cl W h h' => image_any m hm1 hm2 f F cf l L cl W h h')
    have KF := Lib.hid (fun xs hl A cc W h h1 h2 => hFind_any m hm1 hm2 xs hl A cc W h h1 h2)
    have hb0 : ((0 : Int) == (m : Int)) = false := by rw [beq_eq_false_iff_ne]; omega
    have hb1 : ¬ (0 : Int) = (m : Int) := by omega
    have hb2 : ¬ m = 0 := by omega
    have hb3 : ((m : Int) == 0) = false := by rw [beq_eq_false_iff_ne]; omega
    generalize headW g p = hw at *
    clear hIn hg hf
    obtain ⟨b, n, c, k⟩ := g
    simp only at hm
    subst hm
    unfold headV at *
    simp only [Geo.v] at *
    have HX := Lib.hid ((Below.refl w.heap.size w).alloc (Nat.le_refl _) (.cells #[.int .i64 (m : Int), .int .i64 n, .int .i64 c, .int .i64 k] 33))
    have HC := Lib.hid (fun (W : World) (h : Below (w.alloc (.cells #[.int .i64 (m : Int), .int .i64 n, .int .i64 c, .int .i64 k] 33)).heap.size (w.alloc (.cells #[.int .i64 (m : Int), .int .i64 n, .int .i64 c, .int .i64 k] 33)) W) => geo_cells h)
    have HB := Lib.hid (Below.refl (w.alloc (.cells #[.int .i64 (m : Int), .int .i64 n, .int .i64 c, .int .i64 k] 33)).heap.size (w.alloc (.cells #[.int .i64 (m : Int), .int .i64 n, .int .i64 c, .int .i64 k] 33)))
    cases first with
    | false =>
      cases back with
      | false =>
        go_enter Try.func7, Try.ntmps7
        go_wp2_with fail
        refine (KA.out _).mono ?_
        rintro e w1 ⟨rfl, hb⟩
        have HB := Lib.hid (HB.out.trans (hb.mono HB.out.size))
        clear hb
        obtain ⟨c0, c1, c2, c3⟩ := HC.out _ HB.out
        go_wp2_with fail
        refine (KG.out _).mono ?_
        rintro e w2 ⟨rfl, hb⟩
        have HB := Lib.hid (HB.out.trans (hb.mono HB.out.size))
        clear hb c0 c1 c2 c3
        obtain ⟨c0, c1, c2, c3⟩ := HC.out _ HB.out
        go_wp2_with fail
        refine (KP.out _).mono ?_
        rintro e w3 ⟨⟨B, d, rfl, ho⟩, hb⟩
        have HO := Lib.hid ho.rd
        have HB := Lib.hid (HB.out.trans (hb.mono HB.out.size))
        clear hb ho c0 c1 c2 c3
        obtain ⟨c0, c1, c2, c3⟩ := HC.out _ HB.out
        go_wp2_with fail
        have hki := KI.out [] none 0 [] none 0 w3 RdU.nil_ RdU.nil_
        refine hki.mono ?_
        clear hki
        rintro e w4 ⟨⟨B4, d4, zs, rfl, hzl, hz1, hz2, ho⟩, hb⟩
        have HB := Lib.hid (HB.out.trans (hb.mono HB.out.size))
        have hkf := KF.out zs hzl B4 d4 _ ho.rd (by rw [← hzl]; exact ho.cap.1) ho.cap.2
        rw [hz1, hz2, Vff.out] at hkf
        have HKF := Lib.hid hkf
        clear hkf hzl hz1 hz2 ho hb
        go_wp2_with fail
        refine HKF.out.mono ?_
        rintro e w5 ⟨rfl, hb⟩
        have HB := Lib.hid (HB.out.trans (hb.mono HB.out.size))
        clear hb c0 c1 c2 c3 HKF
        have HB := Lib.hid (HB.out.alloc HB.out.size (.cells #[.int .i64 0, .int .i64 0, .int .i64 0, .int .i64 0, U 0#64] 36))
        obtain ⟨c0, c1, c2, c3⟩ := HC.out _ HB.out
        obtain ⟨l0, l1, l2, l3, l4⟩ := head_cells (Below.refl (w5.alloc (.cells #[.int .i64 0, .int .i64 0, .int .i64 0, .int .i64 0, U 0#64] 36)).heap.size (w5.alloc (.cells #[.int .i64 0, .int .i64 0, .int .i64 0, .int .i64 0, U 0#64] 36)))
        go_wp2
        go_ret
        exact ⟨rfl, HX.out.trans (HB.out.mono HX.out.size)⟩
      | true =>
        go_enter Try.func7, Try.ntmps7
        go_wp2_with fail
        refine (KA.out _).mono ?_
        rintro e w1 ⟨rfl, hb⟩
        have HB := Lib.hid (HB.out.trans (hb.mono HB.out.size))
        clear hb
        obtain ⟨c0, c1, c2, c3⟩ := HC.out _ HB.out
        go_wp2_with fail
        refine (KG.out _).mono ?_
        rintro e w2 ⟨rfl, hb⟩
        have HB := Lib.hid (HB.out.trans (hb.mono HB.out.size))
        clear hb c0 c1 c2 c3
        obtain ⟨c0, c1, c2, c3⟩ := HC.out _ HB.out
        go_wp2_with fail
        refine (KP.out _).mono ?_
        rintro e w3 ⟨⟨B, d, rfl, ho⟩, hb⟩
        have HO := Lib.hid ho.rd
        have HB := Lib.hid (HB.out.trans (hb.mono HB.out.size))
        clear hb ho c0 c1 c2 c3
        obtain ⟨c0, c1, c2, c3⟩ := HC.out _ HB.out
        go_wp2_with fail
        have hki := KI.out [] none 0 hw B d w3 RdU.nil_ HO.out
        rw [HLN.out] at hki
        refine hki.mono ?_
        clear hki
        rintro e w4 ⟨⟨B4, d4, zs, rfl, hzl, hz1, hz2, ho⟩, hb⟩
        have HB := Lib.hid (HB.out.trans (hb.mono HB.out.size))
        have hkf := KF.out zs hzl B4 d4 _ ho.rd (by rw [← hzl]; exact ho.cap.1) ho.cap.2
        rw [hz1, hz2, Vft.out] at hkf
        have HKF := Lib.hid hkf
        clear hkf hzl hz1 hz2 ho hb
        go_wp2_with fail
        refine HKF.out.mono ?_
        rintro e w5 ⟨rfl, hb⟩
        have HB := Lib.hid (HB.out.trans (hb.mono HB.out.size))
        clear hb c0 c1 c2 c3 HKF
        have HB := Lib.hid (HB.out.alloc HB.out.size (.cells #[.int .i64 (m : Int), .int .i64 n, .int .i64 c, .int .i64 k, U p] 36))
        obtain ⟨c0, c1, c2, c3⟩ := HC.out _ HB.out
        obtain ⟨l0, l1, l2, l3, l4⟩ := head_cells (Below.refl (w5.alloc (.cells #[.int .i64 (m : Int), .int .i64 n, .int .i64 c, .int .i64 k, U p] 36)).heap.size (w5.alloc (.cells #[.int .i64 (m : Int), .int .i64 n, .int .i64 c, .int .i64 k, U p] 36)))
        go_wp2
        go_ret
        exact ⟨rfl, HX.out.trans (HB.out.mono HX.out.size)⟩
    | true =>
      cases back with
      | false =>
        go_enter Try.func7, Try.ntmps7
        go_wp2_with fail
        refine (KA.out _).mono ?_
        rintro e w1 ⟨rfl, hb⟩
        have HB := Lib.hid (HB.out.trans (hb.mono HB.out.size))
        clear hb
        obtain ⟨c0, c1, c2, c3⟩ := HC.out _ HB.out
        go_wp2_with fail
        refine (KG.out _).mono ?_
        rintro e w2 ⟨rfl, hb⟩
        have HB := Lib.hid (HB.out.trans (hb.mono HB.out.size))
        clear hb c0 c1 c2 c3
        obtain ⟨c0, c1, c2, c3⟩ := HC.out _ HB.out
        go_wp2_with fail
        refine (KP.out _).mono ?_
        rintro e w3 ⟨⟨B, d, rfl, ho⟩, hb⟩
        have HO := Lib.hid ho.rd
        have HB := Lib.hid (HB.out.trans (hb.mono HB.out.size))
        clear hb ho c0 c1 c2 c3
        obtain ⟨c0, c1, c2, c3⟩ := HC.out _ HB.out
        go_wp2_with fail
        have hki := KI.out hw B d [] none 0 w3 HO.out RdU.nil_
        rw [HLN.out] at hki
        refine hki.mono ?_
        clear hki
        rintro e w4 ⟨⟨B4, d4, zs, rfl, hzl, hz1, hz2, ho⟩, hb⟩
        have HB := Lib.hid (HB.out.trans (hb.mono HB.out.size))
        have hkf := KF.out zs hzl B4 d4 _ ho.rd (by rw [← hzl]; exact ho.cap.1) ho.cap.2
        rw [hz1, hz2, Vtf.out] at hkf
        have HKF := Lib.hid hkf
        clear hkf hzl hz1 hz2 ho hb
        go_wp2_with fail
        refine HKF.out.mono ?_
        rintro e w5 ⟨rfl, hb⟩
        have HB := Lib.hid (HB.out.trans (hb.mono HB.out.size))
        clear hb c0 c1 c2 c3 HKF
        have HB := Lib.hid (HB.out.alloc HB.out.size (.cells #[.int .i64 (m : Int), .int .i64 n, .int .i64 c, .int .i64 k, U p] 36))
        obtain ⟨c0, c1, c2, c3⟩ := HC.out _ HB.out
        obtain ⟨l0, l1, l2, l3, l4⟩ := head_cells (Below.refl (w5.alloc (.cells #[.int .i64 (m : Int), .int .i64 n, .int .i64 c, .int .i64 k, U p] 36)).heap.size (w5.alloc (.cells #[.int .i64 (m : Int), .int .i64 n, .int .i64 c, .int .i64 k, U p] 36)))
        go_wp2
        go_ret
        exact ⟨rfl, HX.out.trans (HB.out.mono HX.out.size)⟩
      | true =>
        go_enter Try.func7, Try.ntmps7
        go_wp2_with fail
        refine (KA.out _).mono ?_
        rintro e w1 ⟨rfl, hb⟩
        have HB := Lib.hid (HB.out.trans (hb.mono HB.out.size))
        clear hb
        obtain ⟨c0, c1, c2, c3⟩ := HC.out _ HB.out
        go_wp2_with fail
        refine (KG.out _).mono ?_
        rintro e w2 ⟨rfl, hb⟩
        have HB := Lib.hid (HB.out.trans (hb.mono HB.out.size))
        clear hb c0 c1 c2 c3
        obtain ⟨c0, c1, c2, c3⟩ := HC.out _ HB.out
        go_wp2_with fail
        refine (KP.out _).mono ?_
        rintro e w3 ⟨⟨B, d, rfl, ho⟩, hb⟩
        have HO := Lib.hid ho.rd
        have HB := Lib.hid (HB.out.trans (hb.mono HB.out.size))
        clear hb ho c0 c1 c2 c3
        obtain ⟨c0, c1, c2, c3⟩ := HC.out _ HB.out
        go_wp2_with fail
        have hki := KI.out hw B d hw B d w3 HO.out HO.out
        rw [HLN.out] at hki
        refine hki.mono ?_
        clear hki
        rintro e w4 ⟨⟨B4, d4, zs, rfl, hzl, hz1, hz2, ho⟩, hb⟩
        have HB := Lib.hid (HB.out.trans (hb.mono HB.out.size))
        have hkf := KF.out zs hzl B4 d4 _ ho.rd (by rw [← hzl]; exact ho.cap.1) ho.cap.2
        rw [hz1, hz2, Vtt.out] at hkf
        have HKF := Lib.hid hkf
        clear hkf hzl hz1 hz2 ho hb
        go_wp2_with fail
        refine HKF.out.mono ?_
        rintro e w5 ⟨rfl, hb⟩
        have HB := Lib.hid (HB.out.trans (hb.mono HB.out.size))
        clear hb c0 c1 c2 c3 HKF
        have HB := Lib.hid (HB.out.alloc HB.out.size (.cells #[.int .i64 (m : Int), .int .i64 n, .int .i64 c, .int .i64 k, U p] 36))
        obtain ⟨c0, c1, c2, c3⟩ := HC.out _ HB.out
        obtain ⟨l0, l1, l2, l3, l4⟩ := head_cells (Below.refl (w5.alloc (.cells #[.int .i64 (m : Int), .int .i64 n, .int .i64 c, .int .i64 k, U p] 36)).heap.size (w5.alloc (.cells #[.int .i64 (m : Int), .int .i64 n, .int .i64 c, .int .i64 k, U p] 36)))
        go_wp2
        go_ret
        exact ⟨rfl, HX.out.trans (HB.out.mono HX.out.size)⟩
  · have hg' : g.good = false := by simpa using hg
    rw [hg'] at KG
    clear hg hg' hf
    obtain ⟨b, n, c, k⟩ := g
    simp only [Geo.v] at *
    have HX := Lib.hid ((Below.refl w.heap.size w).alloc (Nat.le_refl _) (.cells #[.int .i64 b, .int .i64 n, .int .i64 c, .int .i64 k] 33))
    have HC := Lib.hid (fun (W : World) (h : Below (w.alloc (.cells #[.int .i64 b, .int .i64 n, .int .i64 c, .int .i64 k] 33)).heap.size (w.alloc (.cells #[.int .i64 b, .int .i64 n, .int .i64 c, .int .i64 k] 33)) W) => geo_cells h)
    have HB := Lib.hid (Below.refl (w.alloc (.cells #[.int .i64 b, .int .i64 n, .int .i64 c, .int .i64 k] 33)).heap.size (w.alloc (.cells #[.int .i64 b, .int .i64 n, .int .i64 c, .int .i64 k] 33)))
    go_enter Try.func7, Try.ntmps7
    go_wp2_with fail
    refine (KA.out _).mono ?_
    rintro e w1 ⟨rfl, hb⟩
    have HB := Lib.hid (HB.out.trans (hb.mono HB.out.size))
    clear hb
    obtain ⟨c0, c1, c2, c3⟩ := HC.out _ HB.out
    go_wp2_with fail
    refine (KG.out _).mono ?_
    rintro e w2 ⟨rfl, hb⟩
    have HB := Lib.hid (HB.out.trans (hb.mono HB.out.size))
    clear hb c0 c1 c2 c3
    obtain ⟨c0, c1, c2, c3⟩ := HC.out _ HB.out
    go_wp2
    go_ret
    exact ⟨rfl, HX.out.trans (HB.out.mono HX.out.size)⟩
end Go.Proofs.Ytgkojedgamglgaa
