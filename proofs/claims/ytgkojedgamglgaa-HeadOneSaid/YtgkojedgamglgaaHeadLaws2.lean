/- The walk of the statement HeadOne. No condition but that the numbers are ints. -/
import Derived.Test.YtgkojedgamglgaaHeadLaws
namespace Go.Proofs.Ytgkojedgamglgaa
open Go.RowKit
set_option linter.unusedVariables false
set_option linter.unusedSimpArgs false
theorem getV_one {g : Geo} (h : g.good = true) (p v : BitVec 64) (hv : v ≠ 0#64) (k : Nat) (hk : k < 8) :
    getV ((headW g p).set k ((headW g p).getD k 0 ^^^ v)) = if k = 6 then .tuple #[headV g (p ^^^ v), .bool true] else .tuple #[headZ, .bool false] := by
  obtain ⟨h1, h2⟩ := headOk_one h p v hv k hk
  by_cases h6 : k = 6
  · rw [if_pos h6, h2 h6, getV_back h]
  · rw [if_neg h6, getV_none (by rw [h1, decide_eq_false h6])]
set_option maxRecDepth 100000 in
set_option maxHeartbeats 4000000 in
theorem HeadOne_walk (g : Geo) (p : BitVec 64) (x : Int) (v : BitVec 64) (w : World) (hf : g.Fit) (hx1 : -9223372036854775808 ≤ x) (hx2 : x ≤ 9223372036854775807) :
    Calls Try.prog 6 #[headV g p, .int .i64 x, U v] w fun e w' => e = .returned (.bool true) ∧ Below w.heap.size w w' := by
  have KA := Lib.hid (fun W => headAwake_any W)
  have KG := Lib.hid (fun W => ggood_any g W)
  by_cases hg : g.good = true
  · rw [hg] at KG
    have KP := Lib.hid (fun W => hPut_good hg p W)
    have HLN := Lib.hid (show (headW g p).length = 8 by rw [headW_len, if_pos hg])
    have HV1 := Lib.hid (fun hv k hk => getV_one hg p v hv k hk)
    generalize headW g p = xs at *
    clear hg hf
    obtain ⟨b, n, c, k⟩ := g
    unfold headV at *
    simp only [Geo.v] at *
    have HX := Lib.hid ((Below.refl w.heap.size w).alloc (Nat.le_refl _) (.cells #[.int .i64 b, .int .i64 n, .int .i64 c, .int .i64 k, U p] 36))
    have HC := Lib.hid (fun (W : World) (h : Below (w.alloc (.cells #[.int .i64 b, .int .i64 n, .int .i64 c, .int .i64 k, U p] 36)).heap.size (w.alloc (.cells #[.int .i64 b, .int .i64 n, .int .i64 c, .int .i64 k, U p] 36)) W) => head_cells h)
    have HB := Lib.hid (Below.refl (w.alloc (.cells #[.int .i64 b, .int .i64 n, .int .i64 c, .int .i64 k, U p] 36)).heap.size (w.alloc (.cells #[.int .i64 b, .int .i64 n, .int .i64 c, .int .i64 k, U p] 36)))
    by_cases hx : x < 0
    · go_enter Try.func6, Try.ntmps6
      go_wp2_with fail
      refine (KA.out _).mono ?_
      rintro e w1 ⟨rfl, hb⟩
      have HB := Lib.hid (HB.out.trans (hb.mono HB.out.size))
      clear hb
      obtain ⟨c0, c1, c2, c3, c4⟩ := HC.out _ HB.out
      go_wp2_with fail
      refine (KP.out _).mono ?_
      rintro e w2 ⟨⟨B, d, rfl, ho⟩, hb⟩
      have HO := Lib.hid ho
      have HB := Lib.hid (HB.out.trans (hb.mono HB.out.size))
      clear hb ho c0 c1 c2 c3 c4
      obtain ⟨c0, c1, c2, c3, c4⟩ := HC.out _ HB.out
      go_wp2
      go_ret
      exact ⟨rfl, HX.out.trans (HB.out.mono HX.out.size)⟩
    by_cases hx3 : 7 < x
    · go_enter Try.func6, Try.ntmps6
      go_wp2_with fail
      refine (KA.out _).mono ?_
      rintro e w1 ⟨rfl, hb⟩
      have HB := Lib.hid (HB.out.trans (hb.mono HB.out.size))
      clear hb
      obtain ⟨c0, c1, c2, c3, c4⟩ := HC.out _ HB.out
      go_wp2_with fail
      refine (KP.out _).mono ?_
      rintro e w2 ⟨⟨B, d, rfl, ho⟩, hb⟩
      have HO := Lib.hid ho
      have HB := Lib.hid (HB.out.trans (hb.mono HB.out.size))
      clear hb ho c0 c1 c2 c3 c4
      obtain ⟨c0, c1, c2, c3, c4⟩ := HC.out _ HB.out
      go_wp2
      go_ret
      exact ⟨rfl, HX.out.trans (HB.out.mono HX.out.size)⟩
    by_cases hv : v = 0#64
    · subst hv
      go_enter Try.func6, Try.ntmps6
      go_wp2_with fail
      refine (KA.out _).mono ?_
      rintro e w1 ⟨rfl, hb⟩
      have HB := Lib.hid (HB.out.trans (hb.mono HB.out.size))
      clear hb
      obtain ⟨c0, c1, c2, c3, c4⟩ := HC.out _ HB.out
      go_wp2_with fail
      refine (KP.out _).mono ?_
      rintro e w2 ⟨⟨B, d, rfl, ho⟩, hb⟩
      have HO := Lib.hid ho
      have HB := Lib.hid (HB.out.trans (hb.mono HB.out.size))
      clear hb ho c0 c1 c2 c3 c4
      obtain ⟨c0, c1, c2, c3, c4⟩ := HC.out _ HB.out
      have hv0 : (0#64 == BitVec.ofInt 64 0) = true := by decide
      go_wp2
      go_ret
      exact ⟨rfl, HX.out.trans (HB.out.mono HX.out.size)⟩
    obtain ⟨m, rfl⟩ := Int.eq_ofNat_of_zero_le (show 0 ≤ x by omega)
    have hm : m < 8 := by omega
    have hmx : m < xs.length := by rw [HLN.out]; exact hm
    have hv1 : (v == 0#64) = false := by
      rw [beq_eq_false_iff_ne]
      exact hv
    have hm0 : ¬ (m : Int) < 0 := by omega
    have hm7 : ¬ 7 < (m : Int) := by omega
    have hv0 : (v == BitVec.ofInt 64 0) = false := by
      rw [beq_eq_false_iff_ne]
      exact hv
    have HG := Lib.hid (HV1.out hv m hm)
    clear HV1 hx1 hx2
    go_enter Try.func6, Try.ntmps6
    go_wp2_with fail
    refine (KA.out _).mono ?_
    rintro e w1 ⟨rfl, hb⟩
    have HB := Lib.hid (HB.out.trans (hb.mono HB.out.size))
    clear hb
    obtain ⟨c0, c1, c2, c3, c4⟩ := HC.out _ HB.out
    go_wp2_with fail
    refine (KP.out _).mono ?_
    rintro e w2 ⟨⟨B, d, rfl, ho⟩, hb⟩
    have HO := Lib.hid (show OwnU w2 (w.alloc (.cells #[.int .i64 b, .int .i64 n, .int .i64 c, .int .i64 k, U p] 36)).heap.size B xs d from Go.Joins.ownsRow_le ho HB.out.size)
    have HB := Lib.hid (HB.out.trans (hb.mono HB.out.size))
    clear hb ho c0 c1 c2 c3 c4
    obtain ⟨c0, c1, c2, c3, c4⟩ := HC.out _ HB.out
    obtain ⟨q, rfl, hq1, hq2⟩ := HO.out.form (by omega)
    have hcell := HO.out.cellAt m hmx
    have hfz := HO.out.frozenAt m
    have HGE := Lib.hid (show xs.getD m 0 = xs[m] by rw [List.getD_eq_getElem?_getD, List.getElem?_eq_getElem hmx]; rfl)
    rw [HGE.out] at HG
    have HO2 := Lib.hid (HO.out.stored m (xs[m] ^^^ v))
    have HB2 := Lib.hid (HB.out.setCell (p := ⟨q, m, none⟩) (show _ ≤ q from hq1) (U (xs[m] ^^^ v)))
    have HL2 := Lib.hid (show (xs.set m (xs[m] ^^^ v)).length = 8 by rw [List.length_set, HLN.out])
    generalize xs[m] = y at *
    generalize xs.set m (y ^^^ v) = ys at *
    by_cases h6 : m = 6
    · subst h6
      rw [if_pos rfl] at HG
      go_wp2_with fail
      generalize w2.setCell ⟨q, 6, none⟩ (U (y ^^^ v)) = w3 at *
      refine (hGet_eight HL2.out _ d _ _ HO2.out _ HG.out).mono ?_
      rintro e w4 ⟨rfl, hb⟩
      have HB := Lib.hid (HB2.out.trans (hb.mono HB2.out.size))
      clear hb c0 c1 c2 c3 c4 hcell hfz
      obtain ⟨c0, c1, c2, c3, c4⟩ := HC.out _ HB.out
      have HB9 := Lib.hid (HB.out.alloc HB.out.size (.cells #[.int .i64 b, .int .i64 n, .int .i64 c, .int .i64 k, U (p ^^^ v)] 36))
      obtain ⟨d0, d1, d2, d3, d4⟩ := HC.out _ HB9.out
      go_wp2
      go_ret
      exact ⟨rfl, HX.out.trans (HB9.out.mono HX.out.size)⟩
    · rw [if_neg h6] at HG
      unfold headZ at HG
      have h6b : ((m : Int) == 6) = false := by rw [beq_eq_false_iff_ne]; omega
      go_wp2_with fail
      generalize w2.setCell ⟨q, m, none⟩ (U (y ^^^ v)) = w3 at *
      refine (hGet_eight HL2.out _ d _ _ HO2.out _ HG.out).mono ?_
      rintro e w4 ⟨rfl, hb⟩
      have HB := Lib.hid (HB2.out.trans (hb.mono HB2.out.size))
      clear hb c0 c1 c2 c3 c4 hcell hfz
      have HB9 := Lib.hid (HB.out.alloc HB.out.size (.cells #[.int .i64 0, .int .i64 0, .int .i64 0, .int .i64 0, .int .u64 0] 36))
      go_wp2
      go_ret
      exact ⟨rfl, HX.out.trans (HB9.out.mono HX.out.size)⟩
  · have hg' : g.good = false := by simpa using hg
    rw [hg'] at KG
    have KP := Lib.hid (fun W => hPut_bad hg' p W)
    clear hg hg' hf
    obtain ⟨b, n, c, k⟩ := g
    unfold headV at *
    simp only [Geo.v] at *
    have HX := Lib.hid ((Below.refl w.heap.size w).alloc (Nat.le_refl _) (.cells #[.int .i64 b, .int .i64 n, .int .i64 c, .int .i64 k, U p] 36))
    have HC := Lib.hid (fun (W : World) (h : Below (w.alloc (.cells #[.int .i64 b, .int .i64 n, .int .i64 c, .int .i64 k, U p] 36)).heap.size (w.alloc (.cells #[.int .i64 b, .int .i64 n, .int .i64 c, .int .i64 k, U p] 36)) W) => head_cells h)
    have HB := Lib.hid (Below.refl (w.alloc (.cells #[.int .i64 b, .int .i64 n, .int .i64 c, .int .i64 k, U p] 36)).heap.size (w.alloc (.cells #[.int .i64 b, .int .i64 n, .int .i64 c, .int .i64 k, U p] 36)))
    go_enter Try.func6, Try.ntmps6
    go_wp2_with fail
    refine (KA.out _).mono ?_
    rintro e w1 ⟨rfl, hb⟩
    have HB := Lib.hid (HB.out.trans (hb.mono HB.out.size))
    clear hb
    obtain ⟨c0, c1, c2, c3, c4⟩ := HC.out _ HB.out
    go_wp2_with fail
    refine (KP.out _).mono ?_
    rintro e w2 ⟨⟨B, d, rfl⟩, hb⟩
    have HB := Lib.hid (HB.out.trans (hb.mono HB.out.size))
    clear hb c0 c1 c2 c3 c4
    obtain ⟨c0, c1, c2, c3, c4⟩ := HC.out _ HB.out
    go_wp2_with fail
    refine (KG.out _).mono ?_
    rintro e w3 ⟨rfl, hb⟩
    have HB := Lib.hid (HB.out.trans (hb.mono HB.out.size))
    clear hb
    go_wp2
    go_ret
    exact ⟨rfl, HX.out.trans (HB.out.mono HX.out.size)⟩
end Go.Proofs.Ytgkojedgamglgaa
