/- The walk of the statement SlotOne. No condition. -/
import Derived.Test.YtgkojedgamglgaaSlotW2
import Derived.Test.YtgkojedgamglgaaSlotNamesW
namespace Go.Proofs.Ytgkojedgamglgaa
open Go.RowKit
set_option linter.unusedVariables false
set_option linter.unusedSimpArgs false
theorem sGet_len (xs : List (BitVec 64)) (m : Nat) (hm : xs.length = m) (A : Option Addr) (c base : Nat) (w : World) (ho : OwnU w base A xs c) :
    Calls Try.prog 67 #[.slice A m c] w fun e w' => e = .returned (.tuple #[slV (tellZ xs) (tellS xs), .bool (slotOk xs)]) ∧ Below w.heap.size w w' := by
  subst hm
  exact sGet_any xs A c w ho.rd ho.cap.1 ho.cap.2
set_option maxRecDepth 100000 in
set_option maxHeartbeats 8000000 in
theorem SlotOne_walk (y : Int) (st : ByteArray) (z : Int) (v : BitVec 64) (w : World) (h0 : (-9223372036854775808 ≤ y ∧ y ≤ 9223372036854775807) ∧ st.size ≤ maxLen) (hz1 : -9223372036854775808 ≤ z) (hz2 : z ≤ 9223372036854775807) :
    Calls Try.prog 20 #[slV y st, .int .i64 z, U v] w fun e w' => e = .returned (.bool true) ∧ Below w.heap.size w w' := by
  clear h0
  have KA := Lib.hid (fun W => slotAwake_any W)
  have KP := Lib.hid (fun (W : World) => sPut_any y st W)
  have HLN := Lib.hid (slotW_len y st)
  have HBK := Lib.hid (fun h hz => slot_back (z := y) (s := st) h hz)
  have HON := Lib.hid (fun h ht hv k hk => slotOk_one (z := y) (s := st) h ht v hv k hk)
  generalize goodS y st = ft at *
  generalize slotW y st = xs at *
  unfold slV at *
  have HX := Lib.hid ((Below.refl w.heap.size w).alloc (Nat.le_refl _) (.cells #[.int .i64 y, .string st] 105))
  have HBX := Lib.hid (heap_alloc_new w (.cells #[.int .i64 y, .string st] 105))
  by_cases q100 : 100 < (st.size : Int)
  · skip
    cases ft with
    | false =>
      rw [if_neg (by decide)] at HLN
      go_enter Try.func20, Try.ntmps20
      go_wp2_with fail
      refine (KA.out _).mono ?_
      rintro e w1 ⟨rfl, hb⟩
      have HX := Lib.hid (HX.out.trans (hb.mono HX.out.size))
      have HBX := Lib.hid (heap_below HBX.out hb)
      clear hb
      have hws := HX.out.size
      have hbw1 := heap_lt HBX.out
      obtain ⟨c0, c1⟩ := cells2 HBX.out
      go_wp2_with fail
      refine (KP.out _).mono ?_
      rintro e w2 ⟨⟨B, d, rfl, ho⟩, hb⟩
      have HX := Lib.hid (HX.out.trans (hb.mono HX.out.size))
      have HBX := Lib.hid (heap_below HBX.out hb)
      clear hb
      have HO := Lib.hid ho
      clear ho c0 c1
      rw [show xs.length = 0 from HLN.out]
      obtain ⟨c0, c1⟩ := cells2 HBX.out
      go_wp2
      go_ret
      exact ⟨rfl, HX.out⟩
    | true =>
      rw [if_pos rfl] at HLN
      go_enter Try.func20, Try.ntmps20
      go_wp2_with fail
      refine (KA.out _).mono ?_
      rintro e w1 ⟨rfl, hb⟩
      have HX := Lib.hid (HX.out.trans (hb.mono HX.out.size))
      have HBX := Lib.hid (heap_below HBX.out hb)
      clear hb
      have hws := HX.out.size
      have hbw1 := heap_lt HBX.out
      obtain ⟨c0, c1⟩ := cells2 HBX.out
      go_wp2_with fail
      refine (KP.out _).mono ?_
      rintro e w2 ⟨⟨B, d, rfl, ho⟩, hb⟩
      have HX := Lib.hid (HX.out.trans (hb.mono HX.out.size))
      have HBX := Lib.hid (heap_below HBX.out hb)
      clear hb
      have HO := Lib.hid ho
      clear ho c0 c1
      rw [show xs.length = 8 from HLN.out]
      obtain ⟨c0, c1⟩ := cells2 HBX.out
      go_wp2
      go_ret
      exact ⟨rfl, HX.out⟩
  cases ft with
  | false =>
    rw [if_neg (by decide)] at HLN
    go_enter Try.func20, Try.ntmps20
    go_wp2_with fail
    refine (KA.out _).mono ?_
    rintro e w1 ⟨rfl, hb⟩
    have HX := Lib.hid (HX.out.trans (hb.mono HX.out.size))
    have HBX := Lib.hid (heap_below HBX.out hb)
    clear hb
    have hws := HX.out.size
    have hbw1 := heap_lt HBX.out
    obtain ⟨c0, c1⟩ := cells2 HBX.out
    go_wp2_with fail
    refine (KP.out _).mono ?_
    rintro e w2 ⟨⟨B, d, rfl, ho⟩, hb⟩
    have HX := Lib.hid (HX.out.trans (hb.mono HX.out.size))
    have HBX := Lib.hid (heap_below HBX.out hb)
    clear hb
    have HO := Lib.hid ho
    clear ho c0 c1
    rw [show xs.length = 0 from HLN.out]
    obtain ⟨c0, c1⟩ := cells2 HBX.out
    go_wp2
    go_ret
    exact ⟨rfl, HX.out⟩
  | true =>
    rw [if_pos rfl] at HLN
    by_cases hq : y = 0
    · skip
      have k0 : (y == 0) = true := by simp [hq]
      clear hq
      go_enter Try.func20, Try.ntmps20
      go_wp2_with fail
      refine (KA.out _).mono ?_
      rintro e w1 ⟨rfl, hb⟩
      have HX := Lib.hid (HX.out.trans (hb.mono HX.out.size))
      have HBX := Lib.hid (heap_below HBX.out hb)
      clear hb
      have hws := HX.out.size
      have hbw1 := heap_lt HBX.out
      obtain ⟨c0, c1⟩ := cells2 HBX.out
      go_wp2_with fail
      refine (KP.out _).mono ?_
      rintro e w2 ⟨⟨B, d, rfl, ho⟩, hb⟩
      have HX := Lib.hid (HX.out.trans (hb.mono HX.out.size))
      have HBX := Lib.hid (heap_below HBX.out hb)
      clear hb
      have HO := Lib.hid ho
      clear ho c0 c1
      rw [show xs.length = 8 from HLN.out]
      obtain ⟨c0, c1⟩ := cells2 HBX.out
      go_wp2
      go_ret
      exact ⟨rfl, HX.out⟩
    have ht := hq
    clear hq
    by_cases hq : z < 0
    · skip
      have k0 : (y == 0) = false := by rw [beq_eq_false_iff_ne]; exact ht
      go_enter Try.func20, Try.ntmps20
      go_wp2_with fail
      refine (KA.out _).mono ?_
      rintro e w1 ⟨rfl, hb⟩
      have HX := Lib.hid (HX.out.trans (hb.mono HX.out.size))
      have HBX := Lib.hid (heap_below HBX.out hb)
      clear hb
      have hws := HX.out.size
      have hbw1 := heap_lt HBX.out
      obtain ⟨c0, c1⟩ := cells2 HBX.out
      go_wp2_with fail
      refine (KP.out _).mono ?_
      rintro e w2 ⟨⟨B, d, rfl, ho⟩, hb⟩
      have HX := Lib.hid (HX.out.trans (hb.mono HX.out.size))
      have HBX := Lib.hid (heap_below HBX.out hb)
      clear hb
      have HO := Lib.hid ho
      clear ho c0 c1
      rw [show xs.length = 8 from HLN.out]
      obtain ⟨c0, c1⟩ := cells2 HBX.out
      go_wp2
      go_ret
      exact ⟨rfl, HX.out⟩
    have hz0 := hq
    clear hq
    by_cases hq : 7 < z
    · skip
      have k0 : (y == 0) = false := by rw [beq_eq_false_iff_ne]; exact ht
      go_enter Try.func20, Try.ntmps20
      go_wp2_with fail
      refine (KA.out _).mono ?_
      rintro e w1 ⟨rfl, hb⟩
      have HX := Lib.hid (HX.out.trans (hb.mono HX.out.size))
      have HBX := Lib.hid (heap_below HBX.out hb)
      clear hb
      have hws := HX.out.size
      have hbw1 := heap_lt HBX.out
      obtain ⟨c0, c1⟩ := cells2 HBX.out
      go_wp2_with fail
      refine (KP.out _).mono ?_
      rintro e w2 ⟨⟨B, d, rfl, ho⟩, hb⟩
      have HX := Lib.hid (HX.out.trans (hb.mono HX.out.size))
      have HBX := Lib.hid (heap_below HBX.out hb)
      clear hb
      have HO := Lib.hid ho
      clear ho c0 c1
      rw [show xs.length = 8 from HLN.out]
      obtain ⟨c0, c1⟩ := cells2 HBX.out
      go_wp2
      go_ret
      exact ⟨rfl, HX.out⟩
    have hz7 := hq
    clear hq
    by_cases hq : v = 0#64
    · skip
      have k0 : (y == 0) = false := by rw [beq_eq_false_iff_ne]; exact ht
      have k1 : (v == 0#64) = true := by rw [hq]; rfl
      have k2 : (v == BitVec.ofInt 64 0) = true := k1
      clear hq
      go_enter Try.func20, Try.ntmps20
      go_wp2_with fail
      refine (KA.out _).mono ?_
      rintro e w1 ⟨rfl, hb⟩
      have HX := Lib.hid (HX.out.trans (hb.mono HX.out.size))
      have HBX := Lib.hid (heap_below HBX.out hb)
      clear hb
      have hws := HX.out.size
      have hbw1 := heap_lt HBX.out
      obtain ⟨c0, c1⟩ := cells2 HBX.out
      go_wp2_with fail
      refine (KP.out _).mono ?_
      rintro e w2 ⟨⟨B, d, rfl, ho⟩, hb⟩
      have HX := Lib.hid (HX.out.trans (hb.mono HX.out.size))
      have HBX := Lib.hid (heap_below HBX.out hb)
      clear hb
      have HO := Lib.hid ho
      clear ho c0 c1
      rw [show xs.length = 8 from HLN.out]
      obtain ⟨c0, c1⟩ := cells2 HBX.out
      go_wp2
      go_ret
      exact ⟨rfl, HX.out⟩
    have hv := hq
    clear hq
    have k0 : (y == 0) = false := by rw [beq_eq_false_iff_ne]; exact ht
    have k1 : (v == 0#64) = false := by rw [beq_eq_false_iff_ne]; exact hv
    have k2 : (v == BitVec.ofInt 64 0) = false := k1
    have HONE := Lib.hid (HON.out rfl ht hv)
    obtain ⟨hb1, hb2, hb3⟩ := HBK.out rfl ht
    have HB1 := Lib.hid hb1
    have HB2 := Lib.hid hb2
    have HB3 := Lib.hid hb3
    clear ht hv HON HBK hb1 hb2 hb3
    obtain ⟨k, rfl⟩ := Int.eq_ofNat_of_zero_le (show 0 ≤ z by omega)
    have hk8 : k < 8 := by omega
    go_enter Try.func20, Try.ntmps20
    go_wp2_with fail
    refine (KA.out _).mono ?_
    rintro e w1 ⟨rfl, hb⟩
    have HX := Lib.hid (HX.out.trans (hb.mono HX.out.size))
    have HBX := Lib.hid (heap_below HBX.out hb)
    clear hb
    have hws := HX.out.size
    have hbw1 := heap_lt HBX.out
    obtain ⟨c0, c1⟩ := cells2 HBX.out
    go_wp2_with fail
    refine (KP.out _).mono ?_
    rintro e w2 ⟨⟨B, d, rfl, ho⟩, hb⟩
    have HX := Lib.hid (HX.out.trans (hb.mono HX.out.size))
    have HBX := Lib.hid (heap_below HBX.out hb)
    clear hb
    have HO := Lib.hid ho
    clear ho c0 c1
    rw [show xs.length = 8 from HLN.out]
    obtain ⟨c0, c1⟩ := cells2 HBX.out
    have KG := Lib.hid (sGet_len xs 8 HLN.out B d _ _ HO.out)
    rw [HB1.out, HB2.out, HB3.out] at KG
    unfold slV at KG
    go_wp2_with fail
    refine (KG.out).mono ?_
    rintro e w3 ⟨rfl, hb⟩
    have HX := Lib.hid (HX.out.trans (hb.mono HX.out.size))
    have HBX := Lib.hid (heap_below HBX.out hb)
    have HO := Lib.hid (HO.out.below hb)
    clear hb
    clear KG c0 c1
    obtain ⟨gg, rfl, hg1, hg2⟩ := HO.out.form (by rw [HLN.out]; omega)
    have hkx : k < xs.length := by rw [HLN.out]; exact hk8
    have HN1 := Lib.hid (HONE.out k hkx)
    have hby : Below w3.heap.size w3 (w3.alloc (.cells #[.int .i64 y, .string st] 105)) := (Below.refl _ _).alloc (Nat.le_refl _) _
    have cz := (HO.out.below hby).cellAt k hkx
    have fz := (HO.out.below hby).frozenAt k
    obtain ⟨c0, c1⟩ := cells2 (heap_below HBX.out hby)
    have hk0 : (0 : Int) ≤ (k : Int) := by omega
    have hk9 : (k : Int) < 8 := by omega
    generalize xs[k] = x at *
    have hss : (w3.setCell ⟨gg, k, none⟩ (U (x ^^^ v))).heap.size = w3.heap.size := by simp [World.setCell]
    have hbs : Below w3.heap.size (w3.setCell ⟨gg, k, none⟩ (U (x ^^^ v))) ((w3.setCell ⟨gg, k, none⟩ (U (x ^^^ v))).alloc (.cells #[.int .i64 y, .string st] 105)) := (Below.refl _ _).alloc (by rw [hss]; exact Nat.le_refl _) _
    have hbs2 : Below (w3.setCell ⟨gg, k, none⟩ (U (x ^^^ v))).heap.size (w3.setCell ⟨gg, k, none⟩ (U (x ^^^ v))) ((w3.setCell ⟨gg, k, none⟩ (U (x ^^^ v))).alloc (.cells #[.int .i64 y, .string st] 105)) := (Below.refl _ _).alloc (Nat.le_refl _) _
    have HO2 := Lib.hid ((HO.out.stored k (x ^^^ v)).below hbs2)
    have HX2 := Lib.hid ((HX.out.setCell (p := ⟨gg, k, none⟩) (Nat.le_trans hws hg1) (U (x ^^^ v))).alloc (by rw [hss]; exact HX.out.size) (.cells #[.int .i64 y, .string st] 105))
    have KG := Lib.hid (sGet_len (xs.set k (x ^^^ v)) 8 (by rw [List.length_set]; exact HLN.out) _ _ _ _ HO2.out)
    rw [HN1.out] at KG
    have HBX2 := Lib.hid (heap_below ((Below.heap_setCell w3 ⟨gg, k, none⟩ (U (x ^^^ v)) w.heap.size (show w.heap.size ≠ gg by omega)).trans HBX.out) hbs2)
    have HBY2 := Lib.hid (show ((w3.setCell ⟨gg, k, none⟩ (U (x ^^^ v))).alloc (.cells #[.int .i64 y, .string st] 105)).heap[w3.heap.size]? = some (.cells #[.int .i64 y, .string st] 105 (0, 0)) by have h := heap_alloc_new (w3.setCell ⟨gg, k, none⟩ (U (x ^^^ v))) (.cells #[.int .i64 y, .string st] 105); rw [hss] at h; exact h)
    clear hkx hby hbs hbs2 hss
    unfold slV at KG
    generalize tellZ (xs.set k (x ^^^ v)) = z9 at *
    generalize tellS (xs.set k (x ^^^ v)) = s9 at *
    go_wp2_with fail
    refine KG.out.mono ?_
    rintro e w9 ⟨rfl, hb⟩
    have HBX3 := Lib.hid (heap_below HBX2.out hb)
    have HBY3 := Lib.hid (heap_below HBY2.out hb)
    have HX3 := Lib.hid (HX2.out.trans (hb.mono HX2.out.size))
    clear hb KG c0 c1 cz fz
    have hba : Below w9.heap.size w9 (w9.alloc (.cells #[.int .i64 z9, .string s9] 105)) := (Below.refl _ _).alloc (Nat.le_refl _) _
    obtain ⟨c0, c1⟩ := cells2 (heap_below HBX3.out hba)
    obtain ⟨d0, d1⟩ := cells2 (heap_below HBY3.out hba)
    have HX4 := Lib.hid (HX3.out.trans (hba.mono HX3.out.size))
    clear hba
    go_wp2
    go_ret
    exact ⟨rfl, HX4.out⟩
end Go.Proofs.Ytgkojedgamglgaa
