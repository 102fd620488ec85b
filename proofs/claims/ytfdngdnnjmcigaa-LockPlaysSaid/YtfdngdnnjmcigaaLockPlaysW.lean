/- The walk of the statement LockPlays. Conditions: the slice can be read; its numbers are ints. -/
import Derived.Test.YtfdngdnnjmcigaaLpPlain2
import Derived.Test.YtfdngdnnjmcigaaActs23
import Derived.Test.YtfdngdnnjmcigaaLpApp
import Derived.Test.YtfdngdnnjmcigaaLpApp
import Derived.BigQuiet
import Derived.Deep.CutRange
import Derived.Deep.CutBlock
namespace Go.Proofs.Ytfdngdnnjmcigaa
open Go.RowKit Go.Maps
set_option linter.unusedVariables false
set_option linter.unusedSimpArgs false
def SlQ9 : Fact := fun v _ => ∃ q d, v = .slice (some ⟨q, d, none⟩) 0 0 ∧ True
theorem stab_slE {R : World → World → Prop} : Stab R SlQ9 := fun _ _ _ h _ => h
/-- Between two calls. -/
def LpR (w0 : World) (x b g N : Nat) (w : World) : Prop := ∃ (n : Nat) (T : Int → Sl) (H : Nat → Sl), n ≤ N ∧ LkJ w0 w x b n T ∧ LpH w0 w g H ∧ Sm T H
set_option maxRecDepth 100000 in
set_option maxHeartbeats 8000000 in
theorem LockPlays_walk (bs : List Ab) (X : Option Addr) (xc : Nat) (w : World) (hx : RdB w X bs ∧ AbFit bs) (hxc : bs.length ≤ xc) (hxm : xc ≤ maxLen) :
    Calls Try.prog 4 #[.slice X bs.length xc] w fun e w' => e = .returned (.bool true) ∧ Below w.heap.size w w' := by
  have KA := Lib.hid (lkAwake_any w)
  have HX := Lib.hid hx.1
  have HF := Lib.hid hx.2
  clear hx hxc hxm
  by_cases q1 : 60 < bs.length
  · have d1 : decide ((60 : Int) < (bs.length : Int)) = true := decide_eq_true (by omega)
    have d1' : decide (60 < bs.length) = true := decide_eq_true q1
    clear q1
    go_enter Try.func4, Try.ntmps4
    go_wp2_with fail
    refine KA.out.mono ?_
    rintro e w1 ⟨rfl, hb⟩
    go_wp2
    all_goals go_ret
    all_goals exact ⟨rfl, hb⟩
  have d1 : decide ((60 : Int) < (bs.length : Int)) = false := decide_eq_false (by omega)
  have d1' : decide (60 < bs.length) = false := decide_eq_false q1
  have HL := Lib.hid (show bs.length ≤ 60 by omega)
  clear q1
  go_enter Try.func4, Try.ntmps4
  go_wp2_with fail
  refine KA.out.mono ?_
  rintro e w1 ⟨rfl, hb⟩
  have HW := Lib.hid hb
  have KN := Lib.hid (new_any w1)
  clear hb KA
  go_wp2_with fail
  refine KN.out.mono ?_
  rintro e w2 ⟨x, b, rfl, hb1, hx1, hl, hb⟩
  have J2 := Lib.hid (show LkJ w w2 x b 0 (fun _ => nilSl) from ⟨hl, nilT0, HW.out.trans (hb.mono HW.out.size), Nat.le_trans HW.out.size hb1⟩)
  have HG := Lib.hid (show w.heap.size ≤ w2.heap.size from J2.out.bel.size)
  clear hb1 hx1 hl hb KN HW
  go_upto_region 7 with fail
  have HH0 := Lib.hid (show HvG (w2.alloc (.cells #[.slice none 0 0, .slice none 0 0, .slice none 0 0, .slice none 0 0, .slice none 0 0, .slice none 0 0] 36)) w2.heap.size (fun _ => nilSl) from
    ⟨_, heap_alloc_new w2 _, rfl, fun p hp => by
      match p, hp with
      | 0, _ => rfl
      | 1, _ => rfl
      | 2, _ => rfl
      | 3, _ => rfl
      | 4, _ => rfl
      | 5, _ => rfl⟩)
  have HQ := Lib.hid (show LpR w x b w2.heap.size 0 (w2.alloc (.cells #[.slice none 0 0, .slice none 0 0, .slice none 0 0, .slice none 0 0, .slice none 0 0, .slice none 0 0] 36)) from
    ⟨0, _, fun _ => nilSl, Nat.le_refl _, J2.out.below ((Below.refl _ _).alloc (Nat.le_refl _) _), ⟨HH0.out, HG.out, fun p _ => .inl rfl⟩, Sm.new _ fun _ _ => rfl⟩)
  clear HH0 HG J2
  generalize hgg : w2.heap.size = g at *
  clear hgg
  go_wp2
  go_loopw [5] (fun i wr => ∃ k : Nat, k ≤ bs.length ∧ i = .int .i64 k ∧ LpR w x b g k wr) (fun i _ => bs.length - (intOf i).toNat)
  case atStart => exact ⟨0, Nat.zero_le _, rfl, HQ.out⟩
  case round =>
    clear HQ
    obtain ⟨k, hk, rfl, n, T, H, hn, hj, hh, hs⟩ := hrel
    have HJ := Lib.hid hj
    have HH := Lib.hid hh
    have HS := Lib.hid hs
    have HNK := Lib.hid hn
    clear hj hh hs hn
    by_cases hlt : k < bs.length
    · obtain ⟨lb, lo, rfl, hc0⟩ := (HX.out.below HJ.out.bel).at_ hlt
      have hAC := hc0 k hlt
      have hOK := HF.out _ (List.getElem_mem hlt)
      clear hc0
      have e1 : IntKind.i64.wrap ((k : Int) + 1) = (k : Int) + 1 := IntWalk.i64_in _ (by have := HL.out; omega)
      generalize bs[k] = y at *
      obtain ⟨op, who, B, L, c⟩ := y
      obtain ⟨j0, j1, j2, j3⟩ := hAC
      have HWB := Lib.hid (show In64 who from hOK.f1)
      have HLB := Lib.hid (show ∀ y ∈ L, -9223372036854775808 ≤ y.1 ∧ y.1 ≤ 9223372036854775807 from hOK.f2)
      simp only at j0 j1 j2 j3
      have hal : Below wr.heap.size wr (wr.alloc (.cells #[.int .i64 op, .int .i64 who, .slice B L.length c] 38)) := (Below.refl _ _).alloc (Nat.le_refl _) _
      have J1 := Lib.hid (HJ.out.below hal)
      have H1 := Lib.hid (HH.out.below hal)
      have HA1 := Lib.hid (heap_alloc_new wr (.cells #[.int .i64 op, .int .i64 who, .slice B L.length c] 38))
      have HR1 := Lib.hid (show RdL (wr.alloc (.cells #[.int .i64 op, .int .i64 who, .slice B L.length c] 38)) B L from RdL.below j3 hal)
      have HBX := Lib.hid (show wr.heap.size ≠ g ∧ wr.heap.size ≠ b from ⟨by have := HH.out.hat.lt; omega, by have := lk_map_lt HJ.out.lk; omega⟩)
      have HBL := Lib.hid J1.out.bel
      clear hal hOK j3
      have q0 := Lib.cell_of_heap HA1.out 0
      have q1 := Lib.cell_of_heap HA1.out 1
      have q2 := Lib.cell_of_heap HA1.out 2
      go_upto_region 11 with fail
      generalize wr.alloc (.cells #[.int .i64 op, .int .i64 who, .slice B L.length c] 38) = w3 at *
      generalize wr.heap.size = bx at *
      clear HJ HH j0 j1 j2
      by_cases c1 : who < 0
      · have f1 : decide (who < 0) = true := decide_eq_true c1
        clear c1
        as_aux_lemma =>
          go_wp2
          go_ret
          exact ⟨rfl, HBL.out⟩
      have f1 : decide (who < 0) = false := decide_eq_false c1
      by_cases c2 : 5 < who
      · have f2 : decide (5 < who) = true := decide_eq_true c2
        clear c1 c2
        as_aux_lemma =>
          go_wp2
          go_ret
          exact ⟨rfl, HBL.out⟩
      have f2 : decide (5 < who) = false := decide_eq_false c2
      by_cases c3 : 10 < L.length
      · have f3 : decide ((10 : Int) < (L.length : Int)) = true := decide_eq_true (by omega)
        have f3' : decide (10 < L.length) = true := decide_eq_true c3
        clear c1 c2 c3
        as_aux_lemma =>
          go_wp2
          go_ret
          exact ⟨rfl, HBL.out⟩
      have f3 : decide ((10 : Int) < (L.length : Int)) = false := decide_eq_false (by omega)
      have f3' : decide (10 < L.length) = false := decide_eq_false c3
      obtain ⟨p, rfl⟩ : ∃ p : Nat, who = (p : Int) := ⟨who.toNat, by omega⟩
      have HP6 := Lib.hid (show p < 6 by omega)
      have HL10 := Lib.hid (show L.length ≤ 10 by omega)
      clear c1 c2 c3
      go_upto_if 54 with fail
      go_cut [7, 8, 9, 10, 11, 12] from 52 to 266 (fun _ _ _ _ _ _ wx => LpR w x b g (k + 1) wx)
      case first =>
        have hpI : (p : Int) < 6 := by have := HP6.out; omega
        have hp0 : p < 6 := HP6.out
        by_cases h0 : op = 0
        · have h0b : (op != 0) = false := by rw [h0]; simp
          clear h0
          have QB := Lib.hid (fun W (hd : Drawn w3 W) => show (W.cell? ⟨bx, 1, none⟩ = some (.int .i64 (p : Int)) ∧ W.cell? ⟨bx, 2, none⟩ = some (.slice B L.length c)) ∧ (∀ q, q < 6 → W.cell? ⟨g, q, none⟩ = some (.slice (H q).1 (H q).2.1.length (H q).2.2)) ∧ RdL W B L ∧ (∀ q, q < 6 → RdL W (H q).1 (H q).2.1) from
            ⟨⟨((hd.below _).cell (p := ⟨bx, 1, none⟩) (cell_lt q1)).trans q1, ((hd.below _).cell (p := ⟨bx, 2, none⟩) (cell_lt q2)).trans q2⟩, fun q hq => (H1.out.below (hd.below _)).hat.cell hq, HR1.out.below (hd.below _), fun q hq => (H1.out.below (hd.below _)).rd q hq⟩)
          have s1 := H1.out.hat.cell hp0
          go_upto_region 17 with fail
          go_cut [73] from 52 to 266 (fun v wx => v = .bool (decide (0 < (H p).2.1.length) || decide (L.length = 0)) ∧ w3 = wx)
          case first => -- done
            as_aux_lemma =>
              by_cases c1 : 0 < (H p).2.1.length
              · have f4 : decide ((0 : Int) < ((H p).2.1.length : Int)) = true := decide_eq_true (by omega)
                have f4' : decide (0 < (H p).2.1.length) = true := decide_eq_true c1
                clear c1
                go_wp2
                go_meet
                exact ⟨by rw [f4']; rfl, rfl⟩
              · have f4 : decide ((0 : Int) < ((H p).2.1.length : Int)) = false := decide_eq_false (by omega)
                have f4' : decide (0 < (H p).2.1.length) = false := decide_eq_false c1
                by_cases c2 : L.length = 0
                · have f5 : ((L.length : Int) == 0) = true := by rw [beq_iff_eq]; omega
                  have HF5 := Lib.hid (show decide (L.length = 0) = true from decide_eq_true c2)
                  clear c1 c2
                  go_wp2
                  go_meet
                  exact ⟨by rw [f4', HF5.out]; rfl, rfl⟩
                · have f5 : ((L.length : Int) == 0) = false := by rw [beq_eq_false_iff_ne]; omega
                  have HF5 := Lib.hid (show decide (L.length = 0) = false from decide_eq_false c2)
                  clear c1 c2
                  go_wp2
                  go_meet
                  exact ⟨by rw [f4', HF5.out]; rfl, rfl⟩
          case rest =>
            obtain ⟨rfl, rfl⟩ := hcut
            generalize hz : (decide (0 < (H p).2.1.length) || decide (L.length = 0)) = z
            have HV1 := Lib.hid (show argV H p L 1 = if z = true then 1 else 0 from by
              cases z with
              | true =>
                rw [if_pos rfl]
                refine argV_one_bad ?_
                rcases Bool.or_eq_true .. ▸ hz with h | h
                · exact .inl (List.length_pos_iff.1 (of_decide_eq_true h))
                · exact .inr (List.eq_nil_of_length_eq_zero (of_decide_eq_true h))
              | false =>
                obtain ⟨h1, h2⟩ := Bool.or_eq_false_iff.1 hz
                have h1 := of_decide_eq_false h1
                have h2 := of_decide_eq_false h2
                rw [if_neg (by decide)]
                exact argV_one_ok (List.eq_nil_of_length_eq_zero (by omega)) (fun e => h2 (by rw [e]; rfl)))
            clear hz
            go_upto_if 73 with fail
            go_cut [7] from 52 to 266 (fun v7 wx => v7 = .int .i64 (argV H p L 1) ∧ w3 = wx)
            case first => -- done
              as_aux_lemma =>
                cases z with
                | true =>
                  go_wp2
                  go_meet
                  exact ⟨by rw [HV1.out]; rfl, rfl⟩
                | false =>
                  go_wp2
                  go_meet
                  exact ⟨by rw [HV1.out]; rfl, rfl⟩
            case rest =>
              obtain ⟨rfl, rfl⟩ := hcut
              clear HV1
              go_wp2
              go_loopw [7, 8] (fun v i wr => ∃ k1 : Nat, 1 ≤ k1 ∧ i = .int .i64 k1 ∧ v = .int .i64 (argV H p L k1) ∧ Drawn w3 wr) (fun _ i _ => L.length + 1 - (intOf i).toNat)
              case atStart => exact ⟨1, Nat.le_refl _, rfl, rfl, Drawn.refl _⟩
              case round =>
                obtain ⟨k1, hk1, rfl, rfl, hd⟩ := hrel
                have HD := Lib.hid hd
                clear hd
                obtain ⟨⟨t1, t2⟩, t3, t4, t5⟩ := QB.out wr HD.out
                clear t3 t5
                by_cases hlt1 : k1 < L.length
                · skip -- done
                  as_aux_lemma =>
                    obtain ⟨j, rfl⟩ : ∃ j, k1 = j + 1 := ⟨k1 - 1, by omega⟩
                    obtain ⟨bl, ol, rfl, hcl⟩ := t4.at_ hlt1
                    have hjl : j < L.length := by omega
                    obtain ⟨y0, _⟩ := hcl j hjl
                    obtain ⟨y1, _⟩ := hcl (j + 1) hlt1
                    have e8 : IntKind.i64.wrap ((j : Int) + 1 + 1) = (j : Int) + 1 + 1 := IntWalk.i64_in _ (by have := HL10.out; omega)
                    have e9 : IntKind.i64.wrap (j : Int) = (j : Int) := IntWalk.i64_in _ (by have := HL10.out; omega)
                    have HB1 := Lib.hid (fun h => argV_bad (H := H) (p := p) hlt1 h)
                    have HB2 := Lib.hid (fun h => argV_same (H := H) (p := p) hlt1 h)
                    clear hcl t4
                    generalize L[j].1 = z0 at *
                    generalize L[j + 1].1 = z1 at *
                    by_cases hge : z1 ≤ z0
                    · have f1 : decide (z1 ≤ z0) = true := decide_eq_true hge
                      have HV := Lib.hid (show argV H p L (j + 1 + 1) = 1 from HB1.out (by omega))
                      clear hge HB1 HB2
                      go_wp2
                      go_quiet (fail)
                      go_wp2
                      go_roundw
                      case rel => exact ⟨j + 1 + 1, by omega, by go_num, by rw [HV.out], HD.out.trans (Drawn.some_ _ _)⟩
                      case measure => simp [intOf]; omega
                    · have f1 : decide (z1 ≤ z0) = false := decide_eq_false hge
                      have HV := Lib.hid (show argV H p L (j + 1 + 1) = argV H p L (j + 1) from HB2.out (by omega))
                      clear hge HB1 HB2
                      go_wp2
                      go_quiet (fail)
                      go_wp2
                      go_roundw
                      case rel => exact ⟨j + 1 + 1, by omega, by go_num, by rw [HV.out], HD.out.trans (Drawn.some_ _ _)⟩
                      case measure => simp [intOf]; omega
                · rw [argV_end (by omega)]
                  have f9 : decide ((k1 : Int) < (L.length : Int)) = false := decide_eq_false (by omega)
                  have HMV := Lib.hid (HS.out.may hp0 L)
                  clear t1 t4
                  go_upto_block 4 with fail
                  go_cut [7, 9, 10, 11] from 52 to 266 (fun v7 _ _ _ wx => v7 = .int .i64 (mayV T (p : Int) L) ∧ Drawn w3 wx)
                  case first => -- done
                    as_aux_lemma =>
                      go_wp2
                      go_loopw [7, 9] (fun v i wr => ∃ q : Nat, q ≤ 6 ∧ i = .int .i64 q ∧ v = .int .i64 (ifA (ArgC H p L) (clV (CTo H p L q))) ∧ (ArgC H p L → q = 0) ∧ Drawn w3 wr) (fun _ i _ => 6 - (intOf i).toNat)
                      case atStart => exact ⟨0, Nat.zero_le _, rfl, by rw [clV_neg cTo_zero], fun _ => rfl, HD.out⟩
                      case round =>
                        clear HD
                        obtain ⟨q, hq, rfl, rfl, hq0, hd⟩ := hrel
                        have HD := Lib.hid hd
                        clear hd
                        by_cases hA : ArgC H p L
                        · skip -- done
                          as_aux_lemma =>
                          rw [ifA_pos hA]
                          obtain rfl := hq0 hA
                          have HV := Lib.hid (show mayV T (p : Int) L = 1 by rw [HMV.out, ifA_pos hA])
                          clear hA hq0
                          go_wp2
                          go_meet
                          exact ⟨by rw [HV.out], HD.out⟩
                        · rw [ifA_neg hA]
                          have HA := Lib.hid hA
                          clear hq0
                          by_cases hC : CTo H p L q
                          · as_aux_lemma =>
                              rw [clV_pos hC]
                              have HV := Lib.hid (show mayV T (p : Int) L = 15 by
                                rw [HMV.out, ifA_neg hA, clV_pos]
                                obtain ⟨r, hr, h⟩ := hC
                                exact ⟨r, by omega, h⟩)
                              clear hC hA
                              by_cases hq6 : q < 6
                              · have f6 : decide ((q : Int) < 6) = true := decide_eq_true (by omega)
                                have f6' : decide (q < 6) = true := decide_eq_true hq6
                                go_wp2
                                go_meet
                                exact ⟨by rw [HV.out], HD.out⟩
                              · have f6 : decide ((q : Int) < 6) = false := decide_eq_false (by omega)
                                have f6' : decide (q < 6) = false := decide_eq_false hq6
                                go_wp2
                                go_meet
                                exact ⟨by rw [HV.out], HD.out⟩
                          · as_aux_lemma =>
                              rw [clV_neg hC]
                              have HC := Lib.hid hC
                              by_cases hq6 : q < 6
                              · have f6 : decide ((q : Int) < 6) = true := decide_eq_true (by omega)
                                have f6' : decide (q < 6) = true := decide_eq_true hq6
                                have eq6 : IntKind.i64.wrap ((q : Int) + 1) = (q : Int) + 1 := IntWalk.i64_in _ (by omega)
                                have hqI : (q : Int) < 6 := by omega
                                clear hA hC
                                go_wp2
                                go_loopw [7, 10] (fun v i wr => ∃ k2 : Nat, k2 ≤ (H q).2.1.length ∧ i = .int .i64 k2 ∧ v = .int .i64 (clV (CTo H p L q ∨ CRow H p L q k2)) ∧ Drawn w3 wr) (fun _ i _ => (H q).2.1.length - (intOf i).toNat)
                                case atStart => exact ⟨0, Nat.zero_le _, rfl, by rw [clV_or_neg cRow_zero, clV_neg HC.out], HD.out⟩
                                case round =>
                                  clear HD
                                  obtain ⟨k2, hk2, rfl, rfl, hd⟩ := hrel
                                  have HD := Lib.hid hd
                                  clear hd
                                  obtain ⟨⟨t1, t2⟩, t3, t4, t5⟩ := QB.out wr HD.out
                                  have u3 := t3 q hq6
                                  have u5 := t5 q hq6
                                  clear t3 t5
                                  by_cases hlt2 : k2 < (H q).2.1.length
                                  · skip -- done
                                    as_aux_lemma =>
                                      obtain ⟨bh, oh, hAe, hch⟩ := u5.at_ hlt2
                                      obtain ⟨m0, m1⟩ := hch k2 hlt2
                                      have HRW := Lib.hid (show CRow H p L q (k2 + 1) ↔ CRow H p L q k2 ∨ CX p L q (H q).2.1[k2] L.length from cRow_succ hlt2)
                                      have HU5 := Lib.hid (show ∀ W, Drawn w3 W → W.cell? ⟨bh, oh + k2 * 2, none⟩ = some (.int .i64 (H q).2.1[k2].1) ∧ W.cell? ⟨bh, oh + k2 * 2 + 1, none⟩ = some (.bool (H q).2.1[k2].2) ∧ W.cell? ⟨g, q, none⟩ = some (.slice (some ⟨bh, oh, none⟩) (H q).2.1.length (H q).2.2) from fun W hd => by
                                        obtain ⟨_, v3, _, v5⟩ := QB.out W hd
                                        have v3 := v3 q hq6
                                        obtain ⟨b2, o2, hA2, hc2⟩ := (v5 q hq6).at_ hlt2
                                        rw [hAe] at hA2 v3
                                        injection hA2 with hA2
                                        injection hA2 with h1 h2 _
                                        subst h1
                                        subst h2
                                        exact ⟨(hc2 k2 hlt2).1, (hc2 k2 hlt2).2, v3⟩)
                                      rw [hAe] at u3
                                      clear hch u5 m0 m1 t4
                                      generalize (H q).2.1[k2] = y at *
                                      obtain ⟨hk, ha⟩ := y
                                      have HRW := Lib.hid (show CRow H p L q (k2 + 1) ↔ CRow H p L q k2 ∨ CX p L q (hk, ha) L.length from HRW.out)
                                      have ek2 : IntKind.i64.wrap ((k2 : Int) + 1) = (k2 : Int) + 1 := IntWalk.i64_in _ (by have := HS.out.few q hq6; omega)
                                      have HEX := Lib.hid (show ∀ k3, (q = p ∨ k3 = L.length) → clV (CTo H p L q ∨ CRow H p L q (k2 + 1)) = clV ((CTo H p L q ∨ CRow H p L q k2) ∨ CX p L q (hk, ha) k3) from fun k3 h => clV_congr (by
                                        rw [HRW.out, ← or_assoc]
                                        rcases h with h | h
                                        · exact or_congr Iff.rfl ⟨fun hc => absurd hc (cX_same h), fun hc => absurd hc (cX_same h)⟩
                                        · rw [h]))
                                      go_wp2
                                      go_loopw [7, 11] (fun v i wr => ∃ k3 : Nat, k3 ≤ L.length ∧ i = .int .i64 k3 ∧ v = .int .i64 (clV ((CTo H p L q ∨ CRow H p L q k2) ∨ CX p L q (hk, ha) k3)) ∧ Drawn w3 wr) (fun _ i _ => L.length - (intOf i).toNat)
                                      case atStart => exact ⟨0, Nat.zero_le _, rfl, by rw [clV_or_neg cX_zero], HD.out⟩
                                      case round =>
                                        clear HD t1 t2 u3
                                        obtain ⟨k3, hk3, rfl, rfl, hd⟩ := hrel
                                        have HD := Lib.hid hd
                                        clear hd
                                        obtain ⟨⟨t1, t2⟩, _, t4, _⟩ := QB.out wr HD.out
                                        obtain ⟨m0, m1, u3⟩ := HU5.out wr HD.out
                                        by_cases hlt3 : k3 < L.length
                                        · by_cases hqp : q = p
                                          · have f7 : ((q : Int) != (p : Int)) = false := by rw [hqp]; simp
                                            have HV := Lib.hid (HEX.out k3 (.inl hqp))
                                            clear hqp t4
                                            go_wp2
                                            go_roundw
                                            case rel => exact ⟨k2 + 1, hlt2, by go_num, by rw [HV.out], HD.out⟩
                                            case measure => simp [intOf]; omega
                                          · have f7 : ((q : Int) != (p : Int)) = true := by rw [bne_iff_ne]; omega
                                            obtain ⟨bl, ol, rfl, hcl⟩ := t4.at_ hlt3
                                            obtain ⟨x0, x1⟩ := hcl k3 hlt3
                                            have HXS := Lib.hid (show CX p L q (hk, ha) (k3 + 1) ↔ CX p L q (hk, ha) k3 ∨ apartB L[k3] (hk, ha) = false from cX_succ hlt3 hqp)
                                            have ek3 : IntKind.i64.wrap ((k3 : Int) + 1) = (k3 : Int) + 1 := IntWalk.i64_in _ (by have := HL10.out; omega)
                                            clear hcl t4
                                            generalize L[k3] = xx at *
                                            obtain ⟨xk, xa⟩ := xx
                                            simp only at x0 x1
                                            have HBAD := Lib.hid (fun (h : apartB (xk, xa) (hk, ha) = false) => show clV ((CTo H p L q ∨ CRow H p L q k2) ∨ CX p L q (hk, ha) (k3 + 1)) = 15 from clV_pos (.inr (HXS.out.2 (.inr h))))
                                            have HOK := Lib.hid (fun (h : apartB (xk, xa) (hk, ha) = true) => show clV ((CTo H p L q ∨ CRow H p L q k2) ∨ CX p L q (hk, ha) (k3 + 1)) = clV ((CTo H p L q ∨ CRow H p L q k2) ∨ CX p L q (hk, ha) k3) from clV_congr (or_congr Iff.rfl (HXS.out.trans ⟨fun hc => hc.resolve_right (by rw [h]; decide), .inl⟩)))
                                            by_cases hkx : hk = xk
                                            · subst hkx
                                              have fk : (hk == hk) = true := beq_self_eq_true _
                                              cases ha with
                                              | true =>
                                                have HV := Lib.hid (HBAD.out (by simp [apartB]))
                                                clear HBAD HOK hqp
                                                go_wp2
                                                go_quiet (fail)
                                                go_wp2
                                                go_roundw
                                                case rel => exact ⟨k3 + 1, by omega, by go_num, by rw [HV.out], HD.out.trans (Drawn.some_ _ _)⟩
                                                case measure => simp [intOf]; omega
                                              | false =>
                                                cases xa with
                                                | true =>
                                                  have HV := Lib.hid (HBAD.out (by simp [apartB]))
                                                  clear HBAD HOK hqp
                                                  go_wp2
                                                  go_quiet (fail)
                                                  go_wp2
                                                  go_roundw
                                                  case rel => exact ⟨k3 + 1, by omega, by go_num, by rw [HV.out], HD.out.trans (Drawn.some_ _ _)⟩
                                                  case measure => simp [intOf]; omega
                                                | false =>
                                                  have HV := Lib.hid (HOK.out (by simp [apartB]))
                                                  clear HBAD HOK hqp
                                                  go_wp2
                                                  go_quiet (fail)
                                                  go_wp2
                                                  go_roundw
                                                  case rel => exact ⟨k3 + 1, by omega, by go_num, by rw [HV.out], HD.out.trans (Drawn.some_ _ _)⟩
                                                  case measure => simp [intOf]; omega
                                            · have fk : (hk == xk) = false := beq_eq_false_iff_ne.2 hkx
                                              have HV := Lib.hid (HOK.out (by have : (xk != hk) = true := bne_iff_ne.2 (fun e => hkx e.symm); simp [apartB, this]))
                                              clear HBAD HOK hqp hkx
                                              go_wp2
                                              go_quiet (fail)
                                              go_wp2
                                              go_roundw
                                              case rel => exact ⟨k3 + 1, by omega, by go_num, by rw [HV.out], HD.out.trans (Drawn.some_ _ _)⟩
                                              case measure => simp [intOf]; omega
                                        · obtain rfl : k3 = L.length := by omega
                                          have HV := Lib.hid (HEX.out L.length (.inr rfl))
                                          clear t4
                                          go_wp2
                                          go_roundw
                                          case rel => exact ⟨k2 + 1, hlt2, by go_num, by rw [HV.out], HD.out⟩
                                          case measure => simp [intOf]; omega
                                  · obtain rfl : k2 = (H q).2.1.length := by omega
                                    clear t4 u5
                                    have HV := Lib.hid (show clV (CTo H p L (q + 1)) = clV (CTo H p L q ∨ CRow H p L q (H q).2.1.length) from clV_congr cTo_succ)
                                    have HNA := Lib.hid (show ifA (ArgC H p L) (clV (CTo H p L (q + 1))) = clV (CTo H p L q ∨ CRow H p L q (H q).2.1.length) by rw [ifA_neg HA.out, HV.out])
                                    go_wp2
                                    go_roundw
                                    case rel => exact ⟨q + 1, hq6, by go_num, by rw [HNA.out], fun h => absurd h HA.out, HD.out⟩
                                    case measure => simp [intOf]; omega
                              · obtain rfl : q = 6 := by omega
                                have HV := Lib.hid (show mayV T (p : Int) L = 0 by rw [HMV.out, ifA_neg hA, clV_neg hC])
                                clear hA hC
                                go_wp2
                                go_meet
                                exact ⟨by rw [HV.out], HD.out⟩
                  case rest =>
                    as_aux_lemma =>
                      obtain ⟨rfl, hd⟩ := hcut
                      have J5 := Lib.hid (J1.out.below (hd.below _))
                      have H5 := Lib.hid (H1.out.below (hd.below _))
                      have HA5 := Lib.hid (heap_below HA1.out (hd.below _))
                      have HR5 := Lib.hid (HR1.out.below (hd.below _))
                      have KM := Lib.hid (mayF_any T p L B c wc x b n J5.out.lk HWB.out HR5.out (by have := HL10.out; omega))
                      clear hd QB
                      clear q0 q1 q2
                      have q1 := Lib.cell_of_heap HA5.out 1
                      have q2 := Lib.cell_of_heap HA5.out 2
                      go_wp2_with fail
                      refine KM.out.mono ?_
                      rintro e w6 ⟨rfl, hb⟩
                      have J6 := Lib.hid (J5.out.below hb)
                      have H6 := Lib.hid (H5.out.below hb)
                      have HA6 := Lib.hid (heap_below HA5.out hb)
                      have HR6 := Lib.hid (HR5.out.below hb)
                      have KT := Lib.hid (take_any T p L B c w6 x b n J6.out.lk HWB.out HR6.out (by have := HL10.out; omega) (by have := HNK.out; have := HL.out; omega))
                      clear hb KM J5 H5 HA5 HR5 q1 q2
                      have q1 := Lib.cell_of_heap HA6.out 1
                      have q2 := Lib.cell_of_heap HA6.out 2
                      by_cases hm : mayV T (p : Int) L = 0
                      · have HM := Lib.hid hm
                        rw [hm]
                        clear hm
                        have f0 : ((0 : Int) == 0) = true := by decide
                        go_wp2_with fail
                        refine KT.out.mono ?_
                        rintro e w7 hp
                        obtain rfl := hp.1
                        rw [HM.out]
                        obtain ⟨B7, d7, hj7⟩ := J6.out.take0 hp HM.out
                        have J7 := Lib.hid hj7
                        have H7 := Lib.hid (H6.out.turn J6.out hp.2.1)
                        have HA7 := Lib.hid ((hp.2.1.block bx (heap_lt HA6.out) (fun e => HBX.out.2 (by injection e))).trans HA6.out)
                        have HR7 := Lib.hid (HR6.out.turnJ J6.out hp.2.1)
                        clear hp hj7 KT J6 H6 HA6 HR6 q1 q2
                        have q1 := Lib.cell_of_heap HA7.out 1
                        have q2 := Lib.cell_of_heap HA7.out 2
                        have q1 : w7.cell? ⟨bx, 1, none⟩ = some (.int .i64 (p : Int)) := q1
                        have q2 : w7.cell? ⟨bx, 2, none⟩ = some (.slice B L.length c) := q2
                        go_wp2_with fail
                        apply wp_region_ja (fun _ _ => True) (fun _ _ _ _ _ => trivial) (fun _ => trivial) (LmJ w7 w7.heap.size L) 267 6 (Eqs _ :: Eqs _ :: SlQ9 :: Eqs _ :: Eqs _ :: (fun _ _ => True) :: []) (by kernel_rfl) (by rfl) rfl (stab_cons (stab_eq _) (stab_cons (stab_eq _) (stab_cons stab_slE (stab_cons (stab_eq _) (stab_cons (stab_eq _) (stab_cons stab_true stab_nil)))))) (by kernel_rfl) (by kernel_rfl) (by kernel_rfl) (by kernel_rfl)
                        case h0 =>
                          exact LmJ.start (Nat.le_refl _) _
                        case hstep =>
                          simp only [List.take_succ_cons, List.take_zero]
                          refine ⟨?_, ?_⟩
                          · -- 0: Go.Op.fieldAddr 38 (Go.Operand.tmp 6) 1
                            intro listed a w1 hJ hls hl0 hlw hlc hF hU hsz
                            have e6 : a.eval (.tmp 6) = _ := hU 6 (by kernel_rfl)
                            rw [if_pos (by rfl)]
                            intro K hK
                            clear hF hU hsz
                            obtain ⟨q1, q2, q3⟩ := eval_rest a
                            generalize hρ : a.eval = ρ
                            rw [hρ] at q1 q2 q3 e6
                            clear hρ
                            have u1 := OpUp_value Try.prog K
                            have u2 := OpUp_enter Try.prog K
                            go_simp
                            exact hK _ _ ((hJ.quiet (by decide) (by decide) _)) trivial rfl
                          refine ⟨?_, ?_⟩
                          · -- 1: Go.Op.load 3 (Go.Operand.tmp 177)
                            intro listed a w1 hJ hls hl0 hlw hlc hF hU hsz
                            have e177 : a.eval (.tmp 177) = _ := hF 0 _ _ rfl rfl (by kernel_rfl)
                            rw [if_pos (by rfl)]
                            intro K hK
                            clear hF hU hsz
                            have q1_ := (hJ.hb.cell (p := ⟨bx, 1, none⟩) (cell_lt q1)).trans q1
                            obtain ⟨q1, q2, q3⟩ := eval_rest a
                            generalize hρ : a.eval = ρ
                            rw [hρ] at q1 q2 q3 e177
                            clear hρ
                            have u1 := OpUp_value Try.prog K
                            have u2 := OpUp_enter Try.prog K
                            go_simp
                            exact hK _ _ ((hJ.quiet (by decide) (by decide) _)) trivial rfl
                          refine ⟨?_, ?_⟩
                          · -- 2: Go.Op.buildSlice 30 0 #[]
                            intro listed a w1 hJ hls hl0 hlw hlc hF hU hsz
                            rw [if_pos (by rfl)]
                            intro K hK
                            clear hF hU
                            have hsz9 : 179 < a.tmps.size := by rw [hsz]; simp only [List.size_toArray, List.length_cons, List.length_nil]; omega
                            obtain ⟨q1, q2, q3⟩ := eval_rest a
                            generalize hρ : a.eval = ρ
                            rw [hρ] at q1 q2 q3
                            clear hρ
                            have u1 := OpUp_value Try.prog K
                            have u2 := OpUp_enter Try.prog K
                            go_simp
                            exact hK _ _ (hJ.made hls (hlc 5 _ rfl (by kernel_rfl)) hsz9) trivial ⟨_, _, rfl, trivial⟩
                          refine ⟨?_, ?_⟩
                          · -- 3: Go.Op.fieldAddr 38 (Go.Operand.tmp 6) 2
                            intro listed a w1 hJ hls hl0 hlw hlc hF hU hsz
                            have e6 : a.eval (.tmp 6) = _ := hU 6 (by kernel_rfl)
                            rw [if_pos (by rfl)]
                            intro K hK
                            clear hF hU hsz
                            obtain ⟨q1, q2, q3⟩ := eval_rest a
                            generalize hρ : a.eval = ρ
                            rw [hρ] at q1 q2 q3 e6
                            clear hρ
                            have u1 := OpUp_value Try.prog K
                            have u2 := OpUp_enter Try.prog K
                            go_simp
                            exact hK _ _ ((hJ.quiet (by decide) (by decide) _)) trivial rfl
                          refine ⟨?_, ?_⟩
                          · -- 4: Go.Op.load 30 (Go.Operand.tmp 180)
                            intro listed a w1 hJ hls hl0 hlw hlc hF hU hsz
                            have e180 : a.eval (.tmp 180) = _ := hF 3 _ _ rfl rfl (by kernel_rfl)
                            rw [if_pos (by rfl)]
                            intro K hK
                            clear hF hU hsz
                            have q2_ := (hJ.hb.cell (p := ⟨bx, 2, none⟩) (cell_lt q2)).trans q2
                            obtain ⟨q1, q2, q3⟩ := eval_rest a
                            generalize hρ : a.eval = ρ
                            rw [hρ] at q1 q2 q3 e180
                            clear hρ
                            have u1 := OpUp_value Try.prog K
                            have u2 := OpUp_enter Try.prog K
                            go_simp
                            exact hK _ _ ((hJ.quiet (by decide) (by decide) _)) trivial rfl
                          refine ⟨?_, ?_⟩
                          · -- 5: Go.Op.call { callee := Go.Callee.builtin Go.Builtin.append, args := #[Go.Operand
                            intro listed a w1 hJ hls hl0 hlw hlc hF hU hsz
                            have e179 := hF 2 _ _ rfl rfl (by kernel_rfl)
                            obtain ⟨B179, d179, e179, r179⟩ := e179
                            have e179 : a.eval (.tmp 179) = _ := e179
                            have e181 : a.eval (.tmp 181) = _ := hF 4 _ _ rfl rfl (by kernel_rfl)
                            rw [if_pos (by rfl)]
                            intro K hK
                            clear hF hU
                            have hsz9 : 182 < a.tmps.size := by rw [hsz]; simp only [List.size_toArray, List.length_cons, List.length_nil]; omega
                            have h9_ := e179
                            rw [Act.eval_getD] at h9_
                            obtain ⟨q1, q2, q3⟩ := eval_rest a
                            generalize hρ : a.eval = ρ
                            rw [hρ] at q1 q2 q3 e179 e181
                            clear hρ
                            have u1 := OpUp_value Try.prog K
                            have u2 := OpUp_enter Try.prog K
                            have hl0 : listed.getD 5 false = false := hl0
                            have hlb := hlw 2 (by kernel_rfl)
                            obtain ⟨i9, hi9, hz0, hz1, hz2⟩ := info_parts infoWant
                            have hJ0 := hJ
                            obtain ⟨A8, c8, hb8, hs8, g1, g2⟩ := hJ
                            obtain ⟨ge, go⟩ := g1 hlb hl0
                            have ge0 := ge
                            rw [ge] at h9_
                            injection h9_ with h91 _ h93
                            subst h91 h93
                            have hrd8 : Rd w1 B (L.flatMap encW) := (HR7.out.below hb8).rd
                            refine OpUp_app (.tmp 179) (.tmp 181) 30 rfl w7.heap.size 28 i9 _ 2 16 Try.underlying30 hi9 hz0 hz1 hz2 rfl (by omega) (by omega) _ 0 _ [] e179 go B L.length c (L.flatMap encW) e181 (flatW_len L) hrd8 (flatW_one L) (by have := HL10.out; omega) hs8 ?_
                            intro A9 c9 w9 k1 k2 k3
                            refine hK _ _ (hJ0.app ge0 hlb hl0 hls hsz9 ?_ k2) trivial trivial
                            unfold OwnL
                            simp only [Nat.zero_add, List.nil_append] at k1
                            exact k1
                          exact trivial
                        case hend =>
                          intro vs0 w1 listed hJ hl1 hl2 hH0
                          obtain ⟨vs1, rfl, hH1⟩ := hH0.eq_
                          obtain ⟨vs2, rfl, hH2⟩ := hH1.eq_
                          obtain ⟨v2, vs3, rfl, hv2, hH3⟩ := hH2.cons
                          obtain ⟨vs4, rfl, hH4⟩ := hH3.eq_
                          obtain ⟨vs5, rfl, hH5⟩ := hH4.eq_
                          obtain ⟨v5, vs6, rfl, hv5, hH6⟩ := hH5.cons
                          obtain rfl := hH6.nil
                          clear hH0 hH1 hH2 hH3 hH4 hH5 hH6
                          simp only [List.take_succ_cons, List.take_zero, putAll, Act.put, List.setIfInBounds_toArray, List.set_cons_zero, List.set_cons_succ]
  
                          obtain ⟨A6, c6, hb6, hs6, g1, g2⟩ := hJ
                          obtain ⟨e5, ho6⟩ := g2 (hl1 5 (by decide))
                          simp only [List.take_succ_cons, List.take_zero, putAll, Act.put, List.setIfInBounds_toArray, List.set_cons_zero, List.set_cons_succ] at e5
                          have e5 : v5 = .slice A6 L.length c6 := e5
                          subst e5
                          obtain ⟨_, _, rfl, _⟩ := hv2
                          have hb9 : Below w7.heap.size w7 w1 := hb6
                          have hown : OwnL w1 w7.heap.size A6 L c6 := ho6
                          have J9 := Lib.hid (J7.out.below hb9)
                          have H9 := Lib.hid (H7.out.below hb9)
                          have HR9 := Lib.hid hown.rd
                          have s1 := H9.out.hat.cell hp0
                          have s2 := H9.out.hat.fz p
                          obtain ⟨_, _, hris, _⟩ := mayV_zero HM.out
                          have HF9 := Lib.hid (show LpR w x b g (k + 1) (w1.setCell ⟨g, p, none⟩ (.slice A6 L.length c6)) from
                            ⟨n + 1, _, _, by have := HNK.out; omega, J9.out.setg H9.out p (.slice A6 L.length c6), H9.out.set HP6.out (A6, L, c6) HR9.out, HS.out.upd HP6.out (s := (B7, L, d7)) (t := (A6, L, c6)) rfl hris HL10.out⟩)
                          clear hb9 hown hb6 ho6 hs6 g1 g2 hris q1 q2
                          clear hl1 hl2
                          go_wp2
                          go_meet
                          exact HF9.out
                      · have f0 : (mayV T (p : Int) L == 0) = false := beq_eq_false_iff_ne.2 hm
                        have f1m : (mayV T (p : Int) L != mayV T (p : Int) L) = false := by simp
                        have HM := Lib.hid hm
                        clear hm
                        have f0b : ((mayV T (p : Int) L == 0) != (mayV T (p : Int) L == 0)) = false := by simp
                        go_wp2_with fail
                        refine KT.out.mono ?_
                        rintro e w7 hp
                        obtain rfl := hp.1
                        have HF7 := Lib.hid (show LpR w x b g (k + 1) w7 from ⟨n, T, H, by have := HNK.out; omega, J6.out.takeN hp HM.out, H6.out.turn J6.out hp.2.1, HS.out⟩)
                        clear hp KT J6 H6 HA6 HR6 q1 q2
                        go_wp2
                        go_meet
                        exact HF7.out
        · skip -- done
          as_aux_lemma =>
            have h0b : (op != 0) = true := by rw [bne_iff_ne]; exact h0
            clear h0
            have KG := Lib.hid (give_any T p w3 x b n J1.out.lk HWB.out)
            go_wp2_with fail
            refine KG.out.mono ?_
            rintro e w4 ⟨rfl, hl, hg⟩
            have H4 := Lib.hid (H1.out.turn J1.out hg)
            have J4 := Lib.hid (J1.out.give hl hg)
            have HA4 := Lib.hid ((hg.block bx (heap_lt HA1.out) (fun e => HBX.out.2 (by injection e))).trans HA1.out)
            clear hl hg KG q0 q1 q2
            have q1 := Lib.cell_of_heap HA4.out 1
            have s1 := H4.out.hat.cell HP6.out
            have s2 := H4.out.hat.fz p
            have HF4 := Lib.hid (show LpR w x b g (k + 1) (w4.setCell ⟨g, p, none⟩ (.slice none 0 0)) from
              ⟨n, _, _, by have := HNK.out; omega, J4.out.setg H4.out p (.slice none 0 0), H4.out.set HP6.out nilSl (.inl rfl), HS.out.upd HP6.out (s := nilSl) (t := nilSl) rfl rfl (Nat.zero_le _)⟩)
            go_wp2
            go_meet
            exact HF4.out
      case rest =>
        clear J1 H1 HA1 HR1 HBX HBL HS HNK HWB HLB HP6 HL10
        clear q0 q1 q2
        obtain ⟨n2, T2, H2, hn2, hj, hh, hs⟩ := hcut
        have HJ2 := Lib.hid hj
        have HH2 := Lib.hid hh
        have HS2 := Lib.hid hs
        have HN2 := Lib.hid hn2
        clear hj hh hs hn2
        go_wp2
        go_loopw [13] (fun i wr => ∃ q : Nat, q ≤ 6 ∧ i = .int .i64 q ∧ Below wc.heap.size wc wr) (fun i _ => 6 - (intOf i).toNat)
        case atStart => exact ⟨0, Nat.zero_le _, rfl, Below.refl _ _⟩
        case round =>
          obtain ⟨q, hq, rfl, hb⟩ := hrel
          have HB := Lib.hid hb
          clear hb
          by_cases hq6 : q < 6
          · skip -- done
            as_aux_lemma =>
              have f6 : decide ((q : Int) < 6) = true := decide_eq_true (by omega)
              have f6' : decide (q < 6) = true := decide_eq_true hq6
              have eq6 : IntKind.i64.wrap ((q : Int) + 1) = (q : Int) + 1 := IntWalk.i64_in _ (by omega)
              have hqI : (q : Int) < 6 := by omega
              have KH := Lib.hid (holds_any T2 (q : Int) wr x b n2 (HJ2.out.below HB.out).lk (by unfold In64; omega) (HJ2.out.below HB.out).nt)
              rw [HS2.out.same q hq6] at KH
              go_wp2_with fail
              refine KH.out.mono ?_
              rintro e w5 ⟨⟨B5, d5, rfl, hr5⟩, hb5⟩
              have HB5 := Lib.hid (HB.out.trans (hb5.mono HB.out.size))
              have HR5 := Lib.hid hr5
              have HFW := Lib.hid (HS2.out.few q hq6)
              have HR6 := Lib.hid ((HH2.out.below HB5.out).rd q hq6)
              have s1 := (HH2.out.below HB5.out).hat.cell hq6
              clear hr5 hb5 KH HB
              generalize H2 q = hq9 at *
              obtain ⟨B6, ws, d6⟩ := hq9
              simp only at s1
              have HR5 := Lib.hid (show RdL w5 B5 ws from HR5.out)
              have HR6 := Lib.hid (show RdL w5 B6 ws from HR6.out)
              have HFW := Lib.hid (show ws.length ≤ 10 from HFW.out)
              have fnn : ((ws.length : Int) != (ws.length : Int)) = false := by simp
              go_wp2
              go_loopw [15] (fun i wr => ∃ j : Nat, j ≤ ws.length ∧ i = .int .i64 j ∧ Below w5.heap.size w5 wr) (fun i _ => ws.length - (intOf i).toNat)
              case atStart => exact ⟨0, Nat.zero_le _, rfl, Below.refl _ _⟩
              case round =>
                obtain ⟨j, hj, rfl, hb⟩ := hrel
                have HB := Lib.hid hb
                have s2 := (HB.out.cell (p := ⟨g, q, none⟩) (cell_lt s1)).trans s1
                clear hb
                by_cases hlt9 : j < ws.length
                · obtain ⟨b5, o5, rfl, hc5⟩ := (HR5.out.below HB.out).at_ hlt9
                  obtain ⟨b6, o6, rfl, hc6⟩ := (HR6.out.below HB.out).at_ hlt9
                  obtain ⟨m0, m1⟩ := hc5 j hlt9
                  obtain ⟨m2, m3⟩ := hc6 j hlt9
                  clear hc5 hc6 s1
                  generalize ws[j] = y at *
                  obtain ⟨yk, ya⟩ := y
                  simp only at m0 m1 m2 m3
                  have ej : IntKind.i64.wrap ((j : Int) + 1) = (j : Int) + 1 := IntWalk.i64_in _ (by have := HFW.out; omega)
                  have fy1 : (yk == yk) = true := beq_self_eq_true _
                  have fy2 : (ya == ya) = true := beq_self_eq_true _
                  go_wp2
                  go_quiet (fail)
                  go_wp2
                  go_roundw
                  case rel => exact ⟨j + 1, hlt9, by go_num, HB.out.trans ((Drawn.some_ _ _).below _)⟩
                  case measure => simp [intOf]; omega
                · obtain rfl : j = ws.length := by omega
                  clear s1 s2
                  go_wp2
                  go_roundw
                  case rel => exact ⟨q + 1, hq6, by go_num, HB5.out.trans (HB.out.mono HB5.out.size)⟩
                  case measure => simp [intOf]; omega
          · obtain rfl : q = 6 := by omega
            have HB0 := Lib.hid HB.out
            clear HB hq6 hq
            go_wp2
            go_loopw [16] (fun i wr => ∃ y : Nat, y ≤ 6 ∧ i = .int .i64 y ∧ Below wc.heap.size wc wr) (fun i _ => 6 - (intOf i).toNat)
            case atStart => exact ⟨0, Nat.zero_le _, rfl, HB0.out⟩
            case round =>
              clear HB0
              obtain ⟨y, hy, rfl, hb⟩ := hrel
              have HB := Lib.hid hb
              clear hb
              by_cases hy6 : y < 6
              · as_aux_lemma =>
                  have f6 : decide ((y : Int) < 6) = true := decide_eq_true (by omega)
                  have f6' : decide (y < 6) = true := decide_eq_true hy6
                  have ey6 : IntKind.i64.wrap ((y : Int) + 1) = (y : Int) + 1 := IntWalk.i64_in _ (by omega)
                  go_wp2
                  go_loopw [17, 18] (fun v i wr => ∃ (q : Nat) (A : Option Addr) (d : Nat), q ≤ 6 ∧ i = .int .i64 q ∧ v = .slice A (eL H2 (y : Int) q).length d ∧ OwnF Zv 3 wr wc.heap.size A (eL H2 (y : Int) q) d ∧ Below wc.heap.size wc wr) (fun _ i _ => 6 - (intOf i).toNat)
                  case atStart => exact ⟨0, none, 0, Nat.zero_le _, rfl, rfl, OwnF.nil_ _ _, HB.out⟩
                  case round =>
                    clear HB
                    obtain ⟨q, A, d, hq, rfl, rfl, hown, hb⟩ := hrel
                    have HO := Lib.hid hown
                    have HB := Lib.hid hb
                    clear hown hb
                    by_cases hq6 : q < 6
                    · as_aux_lemma =>
                        have g6 : decide ((q : Int) < 6) = true := decide_eq_true (by omega)
                        have g6' : decide (q < 6) = true := decide_eq_true hq6
                        have eq6 : IntKind.i64.wrap ((q : Int) + 1) = (q : Int) + 1 := IntWalk.i64_in _ (by omega)
                        have hqI : (q : Int) < 6 := by omega
                        have HFW := Lib.hid (HS2.out.few q hq6)
                        have HES := Lib.hid (show eL H2 (y : Int) (q + 1) = eL H2 (y : Int) q ++ fL H2 (y : Int) q (H2 q).2.1.length from eL_succ (HS2.out.ris q hq6))
                        have HEL := Lib.hid (eL_len H2 (y : Int) q)
                        go_wp2
                        go_loopw [17, 19] (fun v i wr => ∃ (k3 : Nat) (rs : List Int) (A : Option Addr) (d : Nat), k3 ≤ (H2 q).2.1.length ∧ i = .int .i64 k3 ∧ v = .slice A rs.length d ∧ Go.RowKit.Hid (rs = eL H2 (y : Int) q ++ fL H2 (y : Int) q k3) ∧ OwnF Zv 3 wr wc.heap.size A rs d ∧ Below wc.heap.size wc wr) (fun _ i _ => (H2 q).2.1.length - (intOf i).toNat)
                        case atStart => exact ⟨0, eL H2 (y : Int) q, A, d, Nat.zero_le _, rfl, rfl, Lib.hid (by unfold fL; simp), HO.out, HB.out⟩
                        case round =>
                          clear HO HB
                          obtain ⟨k3, rs, A, d, hk3, rfl, rfl, hrs, hown, hb⟩ := hrel
                          have HO := Lib.hid hown
                          have HB := Lib.hid hb
                          have HRS := Lib.hid hrs.out
                          have HRL := Lib.hid (show rs.length ≤ 20 by have h1 := HEL.out; have h2 := fL_len H2 (y : Int) q k3; have h3 := HFW.out; rw [HRS.out, List.length_append]; omega)
                          clear hown hb hrs
                          have s1 := (HH2.out.below HB.out).hat.cell hq6
                          by_cases hlt9 : k3 < (H2 q).2.1.length
                          · obtain ⟨bh, oh, hAe, hch⟩ := ((HH2.out.below HB.out).rd q hq6).at_ hlt9
                            obtain ⟨m0, _⟩ := hch k3 hlt9
                            rw [hAe] at s1
                            have HFS := Lib.hid (show fL H2 (y : Int) q (k3 + 1) = fL H2 (y : Int) q k3 ++ (if ((H2 q).2.1[k3].1 == (y : Int)) = true then [(q : Int)] else []) from fL_succ hlt9)
                            have e8 : IntKind.i64.wrap ((k3 : Int) + 1) = (k3 : Int) + 1 := IntWalk.i64_in _ (by have := HFW.out; omega)
                            clear hch hAe
                            generalize (H2 q).2.1[k3].1 = z at *
                            by_cases hzy : z = (y : Int)
                            · subst hzy
                              have fz : ((y : Int) == (y : Int)) = true := beq_self_eq_true _
                              have HN := Lib.hid (show rs ++ [(q : Int)] = eL H2 (y : Int) q ++ fL H2 (y : Int) q (k3 + 1) by rw [HFS.out, if_pos fz, HRS.out, List.append_assoc])
                              go_upto_region 62 with fail
                              have hal : Below wr.heap.size wr (wr.alloc (.cells #[.int .i64 (q : Int)] 3)) := (Below.refl _ _).alloc (Nat.le_refl _) _
                              have HO2 := Lib.hid (HO.out.below hal)
                              have HB2 := Lib.hid (HB.out.trans (hal.mono HB.out.size))
                              have HRN := Lib.hid (show RdF Zv (wr.alloc (.cells #[.int .i64 (q : Int)] 3)) (some ⟨wr.heap.size, 0, none⟩) [(q : Int)] from RdF.new1 _ _ _)
                              clear hal HO HB s1 m0
                              go_wp2_with (first | go_skip | (at_builtin; refine stop_ ?_))
                              refine appF (f := Zv) (fun _ => rfl) 33 3 (.int .i64 0) 8 rfl (by decide) (by decide) Try.underlying33 infoZ (.tmp 240) (.tmp 242) rfl rfl wc.heap.size A rs _ d rfl rfl HO2.out _ [(q : Int)] 1 1 rfl rfl HRN.out (by have := HRL.out; simp; omega) HB2.out.size ?_
                              intro A2 us c2 w7 hz hown hg2 hloc
                              have HZ2 := Lib.hid (show us = eL H2 (y : Int) q ++ fL H2 (y : Int) q (k3 + 1) by rw [hz, HN.out])
                              have HO7 := Lib.hid hown
                              have HB7 := Lib.hid (HB2.out.grown hg2 HB2.out.size fun q hq => (own_lt HO2.out q hq).1)
                              clear hz hown hg2 hloc HO2 HB2 HRN
                              unfold Stop
                              go_wp2
                              go_roundw
                              case rel =>
                                (repeat apply Exists.intro)
                                exact ⟨⟨k3 + 1, us, A2, c2, hlt9, by go_num, rfl, Lib.hid HZ2.out, HO7.out, HB7.out⟩, rfl⟩
                              case measure => simp [intOf]; omega
                            · have fz : (z == (y : Int)) = false := beq_eq_false_iff_ne.2 hzy
                              have HN := Lib.hid (show rs = eL H2 (y : Int) q ++ fL H2 (y : Int) q (k3 + 1) by rw [HFS.out, if_neg (by rw [fz]; decide), HRS.out, List.append_nil])
                              clear hzy
                              go_wp2
                              go_roundw
                              case rel => exact ⟨k3 + 1, rs, A, d, hlt9, by go_num, rfl, Lib.hid HN.out, HO.out, HB.out⟩
                              case measure => simp [intOf]; omega
                          · obtain rfl : k3 = (H2 q).2.1.length := by omega
                            have HN := Lib.hid (show rs = eL H2 (y : Int) (q + 1) by rw [HES.out, HRS.out])
                            have HO3 := Lib.hid (show OwnF Zv 3 wr wc.heap.size A (eL H2 (y : Int) (q + 1)) d by rw [← HN.out]; exact HO.out)
                            clear HO
                            go_wp2
                            go_roundw
                            case rel => exact ⟨q + 1, A, d, hq6, by go_num, by rw [HN.out], HO3.out, HB.out⟩
                            case measure => simp [intOf]; omega
                    · obtain rfl : q = 6 := by omega
                      have KW := Lib.hid (who_any T2 (y : Int) wr x b n2 (HJ2.out.below HB.out).lk (by unfold In64; omega) (by have := HN2.out; have := HL.out; omega))
                      unfold WhoPost at KW
                      have HRE := Lib.hid (HO.out.rd)
                      have HEL := Lib.hid (eL_len H2 (y : Int) 6)
                      clear hq6 HO
                      go_wp2_with fail
                      refine KW.out.mono ?_
                      rintro e w5 ⟨A5, d5, rs, rfl, hr, hsort, hmem, _, hb⟩
                      obtain rfl : rs = eL H2 (y : Int) 6 := HS2.out.who (y : Int) hsort hmem
                      have HB5 := Lib.hid (HB.out.trans (hb.mono HB.out.size))
                      have HR5 := Lib.hid hr
                      have HR6 := Lib.hid (HRE.out.below hb)
                      clear hr hsort hmem hb KW HRE HB
                      generalize eL H2 (y : Int) 6 = ws at *
                      have fnn : ((ws.length : Int) != (ws.length : Int)) = false := by simp
                      go_wp2
                      go_loopw [21] (fun i wr => ∃ j : Nat, j ≤ ws.length ∧ i = .int .i64 j ∧ Below w5.heap.size w5 wr) (fun i _ => ws.length - (intOf i).toNat)
                      case atStart => exact ⟨0, Nat.zero_le _, rfl, Below.refl _ _⟩
                      case round =>
                        obtain ⟨j, hj, rfl, hb⟩ := hrel
                        have HB := Lib.hid hb
                        clear hb
                        by_cases hlt9 : j < ws.length
                        · obtain ⟨b5, o5, rfl, hc5⟩ := (HR5.out.below HB.out).at_ hlt9
                          obtain ⟨b6, o6, rfl, hc6⟩ := (HR6.out.below HB.out).at_ hlt9
                          have m0 := hc5 j hlt9
                          have m2 := hc6 j hlt9
                          clear hc5 hc6
                          generalize ws[j] = z at *
                          unfold Zv at m0 m2
                          have ej : IntKind.i64.wrap ((j : Int) + 1) = (j : Int) + 1 := IntWalk.i64_in _ (by have := HEL.out; omega)
                          have fzz : (z != z) = false := by simp
                          go_wp2
                          go_quiet (fail)
                          go_wp2
                          go_roundw
                          case rel => exact ⟨j + 1, hlt9, by go_num, HB.out.trans ((Drawn.some_ _ _).below _)⟩
                          case measure => simp [intOf]; omega
                        · obtain rfl : j = ws.length := by omega
                          go_wp2
                          go_roundw
                          case rel =>
                            (repeat apply Exists.intro)
                            exact ⟨⟨y + 1, hy6, by go_num, HB5.out.trans (HB.out.mono HB5.out.size)⟩, rfl⟩
                          case measure => simp [intOf]; omega
              · obtain rfl : y = 6 := by omega
                go_wp2
                go_roundw
                case rel => exact ⟨k + 1, hlt, by go_num, n2, T2, H2, HN2.out, HJ2.out.below HB.out, HH2.out.below HB.out, HS2.out⟩
                case measure => simp [intOf]; omega
    · obtain rfl : k = bs.length := by omega
      go_wp2
      go_ret
      exact ⟨rfl, HJ.out.bel⟩
end Go.Proofs.Ytfdngdnnjmcigaa
