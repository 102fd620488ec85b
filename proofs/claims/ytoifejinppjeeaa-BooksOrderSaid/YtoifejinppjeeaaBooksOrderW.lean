/- The walk of the statement BooksOrder. Conditions: the slice can be read; its numbers are ints. -/
import Derived.Test.YtoifejinppjeeaaBks
import Derived.Test.YtoifejinppjeeaaAwake15
import Derived.Test.YtoifejinppjeeaaPmLaw
namespace Go.Proofs.Ytoifejinppjeeaa
open Go.RowKit
set_option linter.unusedVariables false
set_option linter.unusedSimpArgs false
/-- What Keep answers, in two cases. -/
theorem BkSt.keep2 {n : Nat} {a : AM} {st : List (Option Rcd)} (h : BkSt n a st) {i : Nat} (hi : i < n) (num : BitVec 64) (ws : List (Int × BitVec 64)) :
    (∃ z : Int, z ≠ 0 ∧ a.keepB ((4 * i : Nat) : Int) 4 num ws = (a, z)) ∨ (st.getD i none = none ∧ ∃ a', a.keepB ((4 * i : Nat) : Int) 4 num ws = (a', 0) ∧ BkSt n a' (st.set i (some (num, ws)))) := by
  rcases h.keep hi num ws with ⟨_, h1⟩ | ⟨_, _, _, h1⟩ | ⟨_, _, h2, h1⟩
  · exact .inl ⟨1, by decide, h1⟩
  · exact .inl ⟨15, by decide, h1⟩
  · exact .inr ⟨h2, h1⟩
set_option maxRecDepth 100000 in
set_option maxHeartbeats 8000000 in
theorem BooksOrder_walk (xs : List Int) (X : Option Addr) (xc : Nat) (w : World) (hx : RdF I6 w X xs ∧ ∀ z ∈ xs, -9223372036854775808 ≤ z ∧ z ≤ 9223372036854775807) (hxc : xs.length ≤ xc) (hxm : xc ≤ maxLen) :
    Calls Try.prog 16 #[.slice X xs.length xc] w fun e w' => e = .returned (.bool true) ∧ Below w.heap.size w w' := by
  have KA := Lib.hid (bksAwake_any w)
  have KS := Lib.hid (fun W => shelf_any 4 W (by omega) (by omega))
  by_cases hl : (20 : Int) < xs.length
  · go_enter Try.func16, Try.ntmps16
    go_wp2_with fail
    refine KA.out.mono ?_
    rintro e w1 ⟨rfl, hb⟩
    go_wp2
    go_ret
    exact ⟨rfl, hb⟩
  have HL := Lib.hid (show xs.length ≤ 20 by omega)
  have dl : decide ((20 : Int) < xs.length) = false := decide_eq_false hl
  have HX := Lib.hid hx.1
  clear hx hxc hxm hl
  unfold ShelfPost at KS
  go_enter Try.func16, Try.ntmps16
  go_wp2_with fail
  refine KA.out.mono ?_
  rintro e w1 ⟨rfl, hb⟩
  have HW := Lib.hid hb
  clear hb KA
  go_wp2_with fail
  refine (KS.out _).mono ?_
  rintro e w2 ⟨⟨b, c, m, own, G, rfl, hm, hrow, hob, hbl, hlow, hblo, hcc, hcm⟩, hb⟩
  have HLOW := Lib.hid (fun q (hq : q < w.heap.size) => hlow q (Nat.lt_of_lt_of_le hq HW.out.size))
  have HW := Lib.hid (HW.out.trans (hb.mono HW.out.size))
  have KO := Lib.hid (bksOpen_any b 0 c m 4 own G _ _ w2 hrow hm (bkSt_new 4) (by omega) (by omega))
  have hl0 : lastTo (List.replicate 4 none) 4 = 0#64 := by decide
  rw [hl0] at KO
  have HM := Lib.hid hm
  have HS := Lib.hid (bkSt_new 4)
  have HC := Lib.hid (show (newA (4 * 4)).cnt 0 from fromA_cnt _ _)
  have HROW := Lib.hid hrow
  have HOB := Lib.hid hob
  have HBL := Lib.hid hbl
  clear hm hrow hob hbl hlow hblo hb KS hl0
  generalize newA (4 * 4) = a0 at *
  go_wp2_with fail
  refine KO.out.mono ?_
  rintro e w3 ⟨⟨x, b2, c2, rfl, hbk, hx1, hb1⟩, hb⟩
  have HI := Lib.hid (show BoI 4 w x b2 c2 b m G 0 own a0 (List.replicate 4 none) 0#64 none [] 0 w3 from
    ⟨hbk, HM.out.below hb, HS.out, HC.out, HM.out.fresh x hx1, HM.out.fresh b2 hb1, HOB.out, by omega, fun i hi => (HROW.out i hi).same (hb.block b HBL.out), HLOW.out, HW.out.trans (hb.mono HW.out.size), OwnF.nil_ _ _, (fun q h => by cases h), by have := HBL.out; omega, Nat.le_trans HW.out.size hx1⟩)
  clear hbk hx1 hb1 hb HM HS HC HROW HOB HBL HLOW HW KO
  have HK := Lib.hid keptI_new
  go_wp2
  generalize a0 = a0 at *
  go_loopw [7, 8] (fun v i wr => ∃ (k t : Nat) (own : Nat → Nat) (a : AM) (st : List (Option Rcd)) (last : BitVec 64) (A : Option Addr) (ks : List Int) (cap : Nat) (KL : List Tl), k ≤ xs.length ∧ i = .int .i64 k ∧ v = .slice A ks.length cap ∧ t ≤ k ∧ BoI 4 w x b2 c2 b m G k own a st last A ks cap wr ∧ KeptI t st last KL ks) (fun _ i _ => xs.length - (intOf i).toNat)
  case atStart => exact ⟨0, 0, own, a0, _, _, none, [], 0, [], Nat.zero_le _, rfl, rfl, Nat.le_refl _, HI.out, HK.out⟩
  case round =>
    clear HI HK
    obtain ⟨k, t, own, a, st, last, A, ks, cap, KL, hk, rfl, rfl, htk, hi, hkp⟩ := hrel
    have HI := Lib.hid hi
    have HK := Lib.hid hkp
    clear hi hkp
    by_cases hlt : k < xs.length
    · obtain ⟨bx, off, rfl, hcx0⟩ := (HX.out.below HI.out.bel).at_ hlt
      have hcx := hcx0 k hlt
      clear hcx0
      have e1 : IntKind.i64.wrap ((k : Int) + 1) = (k : Int) + 1 := IntWalk.i64_in _ (by have := HL.out; omega)
      generalize xs[k] = z at *
      obtain ⟨ci, hci⟩ : ∃ ci : Nat, z % 4 = (ci : Int) := ⟨(z % 4).toNat, by omega⟩
      have hc4 : ci < 4 := by omega
      unfold I6 at hcx
      have HCX := Lib.hid hci
      have hal : Below wr.heap.size wr (wr.alloc (.cells #[.int .i64 ci, U (BitVec.ofNat 64 k)] 88)) := (Below.refl _ _).alloc (Nat.le_refl _) _
      have HI2 := Lib.hid (HI.out.below hal)
      have HRW := Lib.hid (show RdW (wr.alloc (.cells #[.int .i64 ci, U (BitVec.ofNat 64 k)] 88)) (some ⟨wr.heap.size, 0, none⟩) [((ci : Int), BitVec.ofNat 64 k)] from RdW.new1 wr (ci : Int) (BitVec.ofNat 64 k) _)
      have KK := Lib.hid (bksKeep_any x b2 0 c2 m 4 last own G a ci (2000 * k) [((ci : Int), BitVec.ofNat 64 k)] (some ⟨wr.heap.size, 0, none⟩) 1 _ HI2.out.bk HI2.out.mem HI2.out.ox HI2.out.ob2 HI2.out.s.clean HI2.out.cn (by have := HL.out; omega) hc4 (by omega) HRW.out)
      have HCN := Lib.hid (fun num => (HI2.out.cn.keepB ((4 * ci : Nat) : Int) 4 num [((ci : Int), BitVec.ofNat 64 k)]).mono (show 2000 * k + 1000 ≤ 2000 * (k + 1) by omega))
      clear hal HI HRW
      rcases HI2.out.s.keep2 hc4 (nextN last) [((ci : Int), BitVec.ofNat 64 k)] with ⟨ez, hez, hke⟩ | ⟨hno, a', hke, hs'⟩
      · have hez2 : (ez == 0) = false := beq_eq_false_iff_ne.2 hez
        rw [hke] at KK
        simp only [if_neg hez] at KK
        have HC2 := Lib.hid (show a.cnt (2000 * (k + 1)) by have h := HCN.out (nextN last); rw [hke] at h; exact h)
        clear hke HCN
        go_wp2_with fail
        refine KK.out.mono ?_
        rintro e w5 ⟨rfl, hp⟩
        obtain ⟨own5, hi5⟩ := HI2.out.keep hp HI2.out.s HC2.out
        have HI5 := Lib.hid hi5
        clear hp hi5 HI2 KK HC2
        go_wp2
        go_roundw
        case rel => exact ⟨k + 1, t, own5, a, st, last, A, ks, cap, KL, by omega, by go_num, rfl, by omega, HI5.out, HK.out⟩
        case measure => simp [intOf]; omega
      · rw [hke] at KK
        simp only [if_true] at KK
        have HC2 := Lib.hid (show a'.cnt (2000 * (k + 1)) by have h := HCN.out (nextN last); rw [hke] at h; exact h)
        have HK2 := Lib.hid (HK.out.more (by have := HL.out; omega) HI2.out.s.len hc4 hno (BitVec.ofNat 64 k))
        have HS2 := Lib.hid hs'
        clear hke HCN hs' hno HK
        generalize nextN last = nx at *
        go_wp2_with fail
        refine KK.out.mono ?_
        rintro e w5 ⟨rfl, hp⟩
        obtain ⟨own5, hi5⟩ := HI2.out.keep hp HS2.out HC2.out
        have hal : Below w5.heap.size w5 (w5.alloc (.cells #[.int .i64 ci] 3)) := (Below.refl _ _).alloc (Nat.le_refl _) _
        have HI5 := Lib.hid (hi5.below hal)
        have HRN := Lib.hid (show RdF I6 (w5.alloc (.cells #[.int .i64 ci] 3)) (some ⟨w5.heap.size, 0, none⟩) [(ci : Int)] from RdF.new1 w5 _ _)
        have HKL := Lib.hid (show ks.length ≤ 20 by have h := HK2.out.len; have h6 := HK2.out.ks; have h7 := congrArg List.length h6; simp at h7 h; have := HL.out; omega)
        clear hp hi5 HI2 KK HC2 HS2 hal
        go_wp2_with (first | go_skip | (at_builtin; refine stop_ ?_))
        refine appF (f := I6) (fun _ => rfl) 39 3 (.int .i64 0) 8 rfl (by decide) (by decide) Try.underlying39 infoInt (.tmp 64) (.tmp 66) rfl rfl w.heap.size A ks _ cap rfl rfl HI5.out.ints (some ⟨w5.heap.size, 0, none⟩) [(ci : Int)] 1 1 rfl rfl HRN.out (by have := HKL.out; simp; omega) HI5.out.bel.size ?_
        intro B zs d w6 hz hown hg hloc
        have HI6 := Lib.hid (HI5.out.app (z := 0) hown hg hloc)
        have HK3 := Lib.hid (show KeptI (t + 1) (st.set ci (some (nx, [((ci : Int), BitVec.ofNat 64 k)]))) nx (KL ++ [(nx, [((ci : Int), BitVec.ofNat 64 k)], ci)]) zs by rw [hz]; exact HK2.out)
        clear hz hown hg hloc HI5 HRN HK2 HKL
        unfold Stop
        go_wp2
        go_roundw
        case rel => exact ⟨k + 1, t + 1, own5, a', _, nx, B, zs, d, _, by omega, by go_num, rfl, by omega, HI6.out, HK3.out⟩
        case measure => simp [intOf]; omega
    · obtain rfl : k = xs.length := by omega
      have KC := Lib.hid (mCrash_any m own G a [] none 0 wr HI.out.mem (room_mono HI.out.s.clean.room (by omega)) (fun _ _ _ => .inl rfl) (Nat.le_refl _) (by unfold maxLen; omega))
      go_wp2_with fail
      refine KC.out.mono ?_
      rintro e w5 ⟨rfl, own5, hm5, hf5⟩
      have KO := Lib.hid (mOn_any hm5)
      clear KC
      go_wp2_with fail
      refine KO.out.mono ?_
      rintro e w6 ⟨rfl, own6, hm6, hf6⟩
      have HI6 := Lib.hid (HI.out.fell [] hm6 (hf5.trans hf6))
      clear hm5 hf5 hm6 hf6 KO HI
      generalize (a.crash []).on = a6 at *
      have KP := Lib.hid (bksOpen_any b 0 c m 4 own6 G a6 st w6 HI6.out.row HI6.out.mem HI6.out.s (by omega) (by omega))
      go_wp2_with fail
      refine KP.out.mono ?_
      rintro e w7 ⟨⟨y, b7, c7, rfl, hbk, _, _⟩, hb⟩
      have KL7 := Lib.hid (bksAll_any y b7 0 c7 m 4 (lastTo st 4) own6 G a6 st w7 hbk (HI6.out.mem.below hb) HI6.out.s (by omega) (by omega))
      have HI7 := Lib.hid (HI6.out.below hb)
      clear hbk hb HI6 KP
      unfold AllPost at KL7
      go_wp2_with fail
      refine KL7.out.mono ?_
      rintro e w8 ⟨D, A8, c8, rfl, hl8, hp8, hs8, hr8, hb8⟩
      obtain ⟨_, hlen, hel⟩ := HK.out.all hp8 hs8
      have HIN := Lib.hid (HI7.out.ints.rd.below hb8)
      have HR8 := Lib.hid hr8
      have HB8 := Lib.hid (HI7.out.bel.trans (hb8.mono HI7.out.bel.size))
      have HEL := Lib.hid hel
      have HLN := Lib.hid hlen
      have HL8 := Lib.hid hl8
      rw [← hlen]
      have dne : ((D.length : Int) != (D.length : Int)) = false := by simp
      clear hl8 hp8 hs8 hr8 hb8 hel hlen HK HI7 KL7
      go_wp2
      go_loopw [15] (fun i wq => ∃ k : Nat, k ≤ D.length ∧ i = .int .i64 k ∧ Below w8.heap.size w8 wq) (fun i _ => D.length - (intOf i).toNat)
      case atStart => exact ⟨0, Nat.zero_le _, rfl, Below.refl _ _⟩
      case round =>
        obtain ⟨k, hk, rfl, hbq⟩ := hrel
        have HBQ := Lib.hid hbq
        clear hbq
        by_cases hlt : k < D.length
        · obtain ⟨v, hv, hks⟩ := HEL.out k hlt
          obtain ⟨g8, o8, rfl, hat⟩ := (HR8.out.below HBQ.out).at_ (k := k) (by simpa using hlt)
          have hat := hat k (by simpa using hlt)
          simp only [List.getElem_map] at hat
          generalize D[k] = s at *
          obtain ⟨nv, B9, d9, wv, cl⟩ := s
          simp only at hv hks
          subst hv
          obtain ⟨j0, j1, j2⟩ := hat
          unfold recOf at j0 j1 j2
          simp only at j0 j1 j2
          obtain ⟨b9, o9, rfl, hc9⟩ := j2.at_ (k := 0) (by simp)
          obtain ⟨y0, y1⟩ := hc9 0 (by simp)
          have hkk : k < ks.length := by
            rcases Nat.lt_or_ge k ks.length with h | h
            · exact h
            · rw [List.getElem?_eq_none h] at hks; cases hks
          obtain ⟨g7, o7, rfl, hci⟩ := (HIN.out.below HBQ.out).at_ hkk
          have hci := hci k hkk
          have e9 : ks[k] = (cl : Int) := by rw [List.getElem?_eq_getElem hkk] at hks; injection hks
          rw [e9] at hci
          unfold I6 at hci
          have e1 : IntKind.i64.wrap ((k : Int) + 1) = (k : Int) + 1 := IntWalk.i64_in _ (by have := HL8.out; omega)
          have hkD : (k : Int) < D.length := by omega
          have hkS : (k : Int) < ks.length := by omega
          simp only [List.getElem_cons_zero] at y0 y1
          have dcl : ((cl : Int) != (cl : Int)) = false := by simp
          rw [Nat.zero_mul, Nat.add_zero] at y0 y1
          clear hks HEL HIN HR8 hlt hkk e9 HX HLN HL
          go_wp2_with fail
          go_quiet (fail)
          go_wp2
          go_roundw
          case rel => exact ⟨k + 1, by omega, by go_num, below_drewN HBQ.out _⟩
          case measure => simp [intOf]; omega
        · obtain rfl : k = D.length := by omega
          go_wp2
          go_ret
          exact ⟨rfl, HB8.out.trans (HBQ.out.mono HB8.out.size)⟩
end Go.Proofs.Ytoifejinppjeeaa
