/- The walk of the statement BookFalls. Condition: the slices can be read; the numbers are ints. -/
import Derived.Test.YtoifejinppjeeaaBegun
import Derived.Test.YtoifejinppjeeaaFallLaw
import Derived.Test.YtoifejinppjeeaaWrites14
import Derived.BigGuard
namespace Go.Proofs.Ytoifejinppjeeaa
open Go.RowKit
set_option linter.unusedVariables false
set_option linter.unusedSimpArgs false
theorem newA_clean' (N : Nat) : Clean (newA N) := fromA_clean _ _
theorem newA_cnt' (N : Nat) : (newA N).cnt 0 := fromA_cnt _ _
set_option maxRecDepth 100000 in
set_option maxHeartbeats 8000000 in
theorem BookFalls_walk (ws : List (Int × BitVec 64)) (L : Option Addr) (lc : Nat) (num : BitVec 64) (cl : Bool) (z : Int) (ks : List Int) (K : Option Addr) (kc : Nat) (w : World) (hl : RdW w L ws ∧ ∀ x ∈ ws, -9223372036854775808 ≤ x.1 ∧ x.1 ≤ 9223372036854775807) (hlc : ws.length ≤ lc) (hlm : lc ≤ maxLen) (hz0 : -9223372036854775808 ≤ z) (hz1 : z ≤ 9223372036854775807) (hk : RdF I6 w K ks ∧ ∀ z ∈ ks, -9223372036854775808 ≤ z ∧ z ≤ 9223372036854775807) (hkc : ks.length ≤ kc) (hkm : kc ≤ maxLen) :
    Calls Try.prog 15 #[.slice L ws.length lc, U num, .bool cl, .int .i64 z, .slice K ks.length kc] w fun e w' => e = .returned (.bool true) ∧ Below w.heap.size w w' := by
  have KA := Lib.hid (fun W => bkAwake_any W)
  have HL := Lib.hid hl.1
  have HK := Lib.hid hk.1
  have HKM := Lib.hid hkm
  clear hl hk hlm hkm
  by_cases q1 : 20 < (ws.length : Int)
  · skip
    have HW := Lib.hid (Below.refl w.heap.size w)
    go_enter Try.func15, Try.ntmps15
    go_wp2_with fail
    refine (KA.out _).mono ?_
    rintro e w1 ⟨rfl, hb⟩
    have HW := Lib.hid (HW.out.trans (hb.mono HW.out.size))
    clear hb
    go_wp2
    go_ret
    exact ⟨rfl, HW.out⟩
  by_cases q2 : num = 0#64
  · skip
    subst q2
    have q2b : (0#64 == BitVec.ofInt 64 0) = true := by decide
    have HW := Lib.hid (Below.refl w.heap.size w)
    go_enter Try.func15, Try.ntmps15
    go_wp2_with fail
    refine (KA.out _).mono ?_
    rintro e w1 ⟨rfl, hb⟩
    have HW := Lib.hid (HW.out.trans (hb.mono HW.out.size))
    clear hb
    go_wp2
    go_ret
    exact ⟨rfl, HW.out⟩
  have q2b : (num == BitVec.ofInt 64 0) = false := by rw [beq_eq_false_iff_ne]; exact q2
  have q2c : (num == 0#64) = false := by rw [beq_eq_false_iff_ne]; exact q2
  have Q2 := Lib.hid q2
  clear q2
  by_cases q3 : z < 1
  · skip
    have HW := Lib.hid (Below.refl w.heap.size w)
    go_enter Try.func15, Try.ntmps15
    go_wp2_with fail
    refine (KA.out _).mono ?_
    rintro e w1 ⟨rfl, hb⟩
    have HW := Lib.hid (HW.out.trans (hb.mono HW.out.size))
    clear hb
    go_wp2
    go_ret
    exact ⟨rfl, HW.out⟩
  by_cases q4 : 60 < z
  · skip
    have HW := Lib.hid (Below.refl w.heap.size w)
    go_enter Try.func15, Try.ntmps15
    go_wp2_with fail
    refine (KA.out _).mono ?_
    rintro e w1 ⟨rfl, hb⟩
    have HW := Lib.hid (HW.out.trans (hb.mono HW.out.size))
    clear hb
    go_wp2
    go_ret
    exact ⟨rfl, HW.out⟩
  by_cases q5 : 10 < (ks.length : Int)
  · skip
    have HW := Lib.hid (Below.refl w.heap.size w)
    go_enter Try.func15, Try.ntmps15
    go_wp2_with fail
    refine (KA.out _).mono ?_
    rintro e w1 ⟨rfl, hb⟩
    have HW := Lib.hid (HW.out.trans (hb.mono HW.out.size))
    clear hb
    go_wp2
    go_ret
    exact ⟨rfl, HW.out⟩
  have HW := Lib.hid (Below.refl w.heap.size w)
  go_enter Try.func15, Try.ntmps15
  go_wp2_with fail
  refine (KA.out _).mono ?_
  rintro e w1 ⟨rfl, hb⟩
  have HW := Lib.hid (HW.out.trans (hb.mono HW.out.size))
  clear hb
  have HL1 := Lib.hid (HL.out.below HW.out)
  go_wp2
  go_loopw [11] (fun i wr => ∃ k : Nat, k ≤ ws.length ∧ i = .int .i64 k ∧ wr = w1 ∧ (ws.take k).any badW = false) (fun i _ => ws.length - (intOf i).toNat)
  case atStart => exact ⟨0, Nat.zero_le _, rfl, rfl, rfl⟩
  case round =>
    skip
    obtain ⟨k, hk, rfl, rfl, hbad⟩ := hrel
    have HBAD := Lib.hid hbad
    clear hbad
    by_cases hlt : k < ws.length
    · obtain ⟨lb, lo, rfl, hlc⟩ := HL1.out.at_ hlt
      obtain ⟨hk1, _⟩ := hlc k hlt
      have HT := Lib.hid (any_take_bad ws k hlt)
      have e0 : IntKind.i64.wrap ((k : Int) + 1) = (k : Int) + 1 := IntWalk.i64_in _ (by omega)
      clear hlc
      generalize ws[k] = zv at *
      obtain ⟨at_, v⟩ := zv
      simp only at hk1
      by_cases h1 : at_ < 0
      · go_wp2
        go_ret
        exact ⟨rfl, HW.out⟩
      by_cases h2 : 1048576 < at_
      · go_wp2
        go_ret
        exact ⟨rfl, HW.out⟩
      have HB2 := Lib.hid (show (ws.take (k + 1)).any badW = false by rw [HT.out, HBAD.out]; unfold badW; rw [decide_eq_false h1, decide_eq_false h2]; rfl)
      go_wp2
      go_roundw
      case rel => exact ⟨k + 1, by omega, by go_num, by first | rfl | trivial, HB2.out⟩
      case measure => simp [intOf]; omega
    · obtain rfl : k = ws.length := by omega
      rw [List.take_length] at HBAD
      have hwl : ws.length ≤ 20 := by omega
      have HFK := Lib.hid (fall_keep (ks := ks) (z := z) Q2.out hwl HBAD.out)
      have HFC := Lib.hid (fall_clear (ks := ks) (z := z) Q2.out hwl HBAD.out)
      have KBG := Lib.hid (fun W => show Calls Try.prog 52 #[.int .i64 8] W (fun e w' => Begun W.heap.size 8 e w' ∧ Below W.heap.size W w') from begun_any 8 W (by omega) (by omega))
      have hSF : SpFit 1 8 := ⟨by omega⟩
      have HCL0 := Lib.hid (newA_clean' 10)
      have HCN0 := Lib.hid (newA_cnt' 10)
      clear hlt hk
      go_wp2_with fail
      refine (KBG.out _).mono ?_
      rintro e w2 ⟨⟨m, own, G, rfl, hm, hlow⟩, hb⟩
      have HM := Lib.hid (show MemAt w2 m own G (newA 10) from hm)
      have HLOW := Lib.hid (fun k (hk : k < w.heap.size) => hlow k (Nat.lt_of_lt_of_le hk HW.out.size))
      have HW := Lib.hid (HW.out.trans (hb.mono HW.out.size))
      clear hm hlow hb KBG KA
      generalize newA 10 = a0 at HM HFK HFC HCL0 HCN0
      unfold bkV at *
      have HB := Lib.hid (heap_alloc_new w2 (.cells #[.pointer (some ⟨m, 0, none⟩), .int .i64 1, .int .i64 8, .int .i64 3] 72))
      have HBz := Lib.hid (HM.out.fresh _ (Nat.le_refl _))
      have hba : Below w2.heap.size w2 (w2.alloc (.cells #[.pointer (some ⟨m, 0, none⟩), .int .i64 1, .int .i64 8, .int .i64 3] 72)) := (Below.refl _ _).alloc (Nat.le_refl _) _
      have HW := Lib.hid (HW.out.trans (hba.mono HW.out.size))
      have HM := Lib.hid (HM.out.below hba)
      clear hba
      have HR := Lib.hid (heap_alloc_new (w2.alloc (.cells #[.pointer (some ⟨m, 0, none⟩), .int .i64 1, .int .i64 8, .int .i64 3] 72)) (.cells #[U num, .slice L ws.length lc] 77))
      have HRz := Lib.hid (HM.out.fresh _ (Nat.le_refl _))
      have hba : Below (w2.alloc (.cells #[.pointer (some ⟨m, 0, none⟩), .int .i64 1, .int .i64 8, .int .i64 3] 72)).heap.size (w2.alloc (.cells #[.pointer (some ⟨m, 0, none⟩), .int .i64 1, .int .i64 8, .int .i64 3] 72)) ((w2.alloc (.cells #[.pointer (some ⟨m, 0, none⟩), .int .i64 1, .int .i64 8, .int .i64 3] 72)).alloc (.cells #[U num, .slice L ws.length lc] 77)) := (Below.refl _ _).alloc (Nat.le_refl _) _
      have HW := Lib.hid (HW.out.trans (hba.mono HW.out.size))
      have HM := Lib.hid (HM.out.below hba)
      have HB := Lib.hid (heap_below HB.out hba)
      clear hba
      have hsz : (w2.alloc (.cells #[.pointer (some ⟨m, 0, none⟩), .int .i64 1, .int .i64 8, .int .i64 3] 72)).heap.size = w2.heap.size + 1 := World.size_alloc _ _
      rw [hsz] at HR HRz
      clear hsz
      cases cl with
      | false =>
        have hfall := HFK.out
        have HCL1 := HCL0
        have HCN1 := Lib.hid (HCN0.out.mono (show 0 ≤ 1000 by omega))
        have HCLF := Lib.hid (HCL1.out.of_ls (setFuse_ls a0 z ks))
        have HCNF := Lib.hid (HCN1.out.setFuse z ks hz1)
        go_wp2_with fail
        refine (mFuse_any m _ G a0 z ks K kc _ HM.out (HK.out.below HW.out) (by omega) hz0 hz1).mono ?_
        rintro e w3 ⟨rfl, own1, hm2, hfr⟩
        have HLOWn := Lib.hid (hfr.low HW.out.size HLOW.out)
        have HW := Lib.hid (HW.out.trans (hfr.below HW.out.size HLOW.out))
        obtain ⟨hx_, hz_⟩ := hfr.heap HB.out HBz.out
        have HB := Lib.hid hx_
        have HBz := Lib.hid hz_
        clear hx_ hz_
        obtain ⟨hx_, hz_⟩ := hfr.heap HR.out HRz.out
        have HR := Lib.hid hx_
        have HRz := Lib.hid hz_
        clear hx_ hz_
        have HM := Lib.hid hm2
        clear hm2 hfr
        have HLOW := HLOWn
        clear HLOWn
        generalize a0.setFuse z ks = aF at *
        have kc0 := Lib.cell_of_heap HB.out 0
        have kc1 := Lib.cell_of_heap HB.out 1
        have kc2 := Lib.cell_of_heap HB.out 2
        have kc3 := Lib.cell_of_heap HB.out 3
        have kr0 := Lib.cell_of_heap HR.out 0
        have kr1 := Lib.cell_of_heap HR.out 1
        have KL := Lib.hid (bkKeep_any m _ G aF 1 8 3 num ws L lc 0 1000 _ HM.out (room_mono HCLF.out.room (by omega)) HCNF.out (by omega) (by omega) hSF (HL.out.below HW.out))
        generalize aF.keepB 1 8 num ws = pr at *
        obtain ⟨a3, er⟩ := pr
        try simp only at hfall
        try simp only at KL
        unfold bkV at KL
        have HCL3 := Lib.hid hfall.clean
        have HLEN := Lib.hid hfall.len
        have he0 := hfall.e0
        clear hfall
        go_wp2_with fail
        refine (KL.out).mono ?_
        rintro e w4 ⟨rfl, own2, hm2, hfr⟩
        have HLOWn := Lib.hid (hfr.low HW.out.size HLOW.out)
        have HW := Lib.hid (HW.out.trans (hfr.below HW.out.size HLOW.out))
        obtain ⟨hx_, hz_⟩ := hfr.heap HB.out HBz.out
        have HB := Lib.hid hx_
        have HBz := Lib.hid hz_
        clear hx_ hz_
        obtain ⟨hx_, hz_⟩ := hfr.heap HR.out HRz.out
        have HR := Lib.hid hx_
        have HRz := Lib.hid hz_
        clear hx_ hz_
        have HM := Lib.hid hm2
        clear hm2 hfr
        have HLOW := HLOWn
        clear HLOWn
        clear KL kc0 kc1 kc2 kc3 kr0 kr1
        rcases he0 with ⟨rfl, hoff, hrd⟩ | ⟨rfl, hoff, hrd | hrd⟩
        · have hrd := hrd.trans (if_neg Bool.false_ne_true)
          clear hoff
          go_wp2_with fail
          refine (mFuse_any m _ G a3 0 [] none 0 _ HM.out (.inl rfl) (by simp) (by omega) (by omega)).mono ?_
          rintro e w5 ⟨rfl, own3, hm2, hfr⟩
          have HLOWn := Lib.hid (hfr.low HW.out.size HLOW.out)
          have HW := Lib.hid (HW.out.trans (hfr.below HW.out.size HLOW.out))
          obtain ⟨hx_, hz_⟩ := hfr.heap HB.out HBz.out
          have HB := Lib.hid hx_
          have HBz := Lib.hid hz_
          clear hx_ hz_
          obtain ⟨hx_, hz_⟩ := hfr.heap HR.out HRz.out
          have HR := Lib.hid hx_
          have HRz := Lib.hid hz_
          clear hx_ hz_
          have HM := Lib.hid hm2
          clear hm2 hfr
          have HLOW := HLOWn
          clear HLOWn
          have KC := Lib.hid (mCrash_any m _ G (a3.setFuse 0 []) ks K kc _ HM.out (room_mono (HCL3.out.of_ls (setFuse_ls _ _ _)).room (by omega)) (fun W own9 hf9 => HK.out.below (HW.out.trans (hf9.below HW.out.size HLOW.out))) hkc HKM.out)
          go_wp2_with fail
          refine (KC.out).mono ?_
          rintro e w6 ⟨rfl, own4, hm2, hfr⟩
          have HLOWn := Lib.hid (hfr.low HW.out.size HLOW.out)
          have HW := Lib.hid (HW.out.trans (hfr.below HW.out.size HLOW.out))
          obtain ⟨hx_, hz_⟩ := hfr.heap HB.out HBz.out
          have HB := Lib.hid hx_
          have HBz := Lib.hid hz_
          clear hx_ hz_
          obtain ⟨hx_, hz_⟩ := hfr.heap HR.out HRz.out
          have HR := Lib.hid hx_
          have HRz := Lib.hid hz_
          clear hx_ hz_
          have HM := Lib.hid hm2
          clear hm2 hfr
          have HLOW := HLOWn
          clear HLOWn
          go_wp2_with fail
          refine (mOn_any HM.out).mono ?_
          rintro e w7 ⟨rfl, own5, hm2, hfr⟩
          have HLOWn := Lib.hid (hfr.low HW.out.size HLOW.out)
          have HW := Lib.hid (HW.out.trans (hfr.below HW.out.size HLOW.out))
          obtain ⟨hx_, hz_⟩ := hfr.heap HB.out HBz.out
          have HB := Lib.hid hx_
          have HBz := Lib.hid hz_
          clear hx_ hz_
          obtain ⟨hx_, hz_⟩ := hfr.heap HR.out HRz.out
          have HR := Lib.hid hx_
          have HRz := Lib.hid hz_
          clear hx_ hz_
          have HM := Lib.hid hm2
          clear hm2 hfr
          have HLOW := HLOWn
          clear HLOWn
          clear KC
          have kc0 := Lib.cell_of_heap HB.out 0
          have kc1 := Lib.cell_of_heap HB.out 1
          have kc2 := Lib.cell_of_heap HB.out 2
          have kc3 := Lib.cell_of_heap HB.out 3
          have kr0 := Lib.cell_of_heap HR.out 0
          have kr1 := Lib.cell_of_heap HR.out 1
          have HM := Lib.hid (show MemAt _ m _ G (finA a3 ks) from HM.out)
          have KRD := Lib.hid (bkRead_on m _ G (finA a3 ks) 1 8 3 _ HM.out (room_mono ((HCL3.out.of_ls (finA_ls HCL3.out ks)).room) (by omega)) hSF rfl (by rw [finA_ls HCL3.out ks, HLEN.out]; omega))
          unfold RdPost at KRD
          have htell : rtell ((finA a3 ks).allOf 1 (8 * 8)) = (num, ws) := by unfold rtell; rw [show readR ((finA a3 ks).allOf 1 (8 * 8)) = some (num, ws) from hrd]; rfl
          rw [htell, show readR ((finA a3 ks).allOf 1 (8 * 8)) = some (num, ws) from hrd] at KRD
          simp only [Option.isSome_some, Option.isSome_none] at KRD
          unfold bkV at KRD
          clear htell hrd
          go_wp2_with fail
          refine KRD.out.mono ?_
          rintro e w8 ⟨⟨B, d, rfl, hrw⟩, hb⟩
          have HRW := Lib.hid hrw
          have HW := Lib.hid (HW.out.trans (hb.mono HW.out.size))
          clear hb hrw KRD kc0 kc1 kc2 kc3 kr0 kr1
          have HX := Lib.hid (heap_alloc_new w8 (.cells #[U num, .slice B ws.length d] 77))
          have hba : Below w8.heap.size w8 (w8.alloc (.cells #[U num, .slice B ws.length d] 77)) := (Below.refl _ _).alloc (Nat.le_refl _) _
          have HRW := Lib.hid (HRW.out.below hba)
          have HW := Lib.hid (HW.out.trans (hba.mono HW.out.size))
          clear hba
          have x0 := Lib.cell_of_heap HX.out 0
          have x1 := Lib.cell_of_heap HX.out 1
          have nb : (num != num) = false := by simp
          have KW1 := Lib.hid (writes_any ws B d _ HRW.out (by omega))
          go_wp2_with fail
          refine KW1.out.mono ?_
          rintro e wx ⟨⟨B1, d1, rfl, hr1⟩, hb⟩
          have HR1 := Lib.hid hr1
          have HW := Lib.hid (HW.out.trans (hb.mono HW.out.size))
          have y0 := (hb.cell (p := ⟨_, 0, none⟩) (cell_lt x0)).trans x0
          clear hb hr1 KW1
          have KW2 := Lib.hid (writes_any ws L lc wx (HL.out.below HW.out) (by omega))
          go_wp2_with fail
          refine KW2.out.mono ?_
          rintro e wy ⟨⟨B2, d2, rfl, hr2⟩, hb⟩
          have HR2 := Lib.hid hr2
          have HR1 := Lib.hid (HR1.out.below hb)
          have HW := Lib.hid (HW.out.trans (hb.mono HW.out.size))
          clear hb hr2 KW2 y0
          have KE := Lib.hid (equalW_any ws ws B1 B2 d1 d2 wy HR1.out HR2.out (by omega) (by omega))
          rw [beq_self_eq_true] at KE
          go_wp2_with fail
          refine KE.out.mono ?_
          rintro e wz ⟨rfl, hd⟩
          have HW := Lib.hid (HW.out.trans ((hd.below _).mono HW.out.size))
          clear hd KE
          go_wp2
          go_ret
          exact ⟨rfl, HW.out⟩
        · skip
          have KOF := Lib.hid (mOff_any HM.out)
          rw [hoff] at KOF
          clear hoff
          go_wp2_with fail
          refine KOF.out.mono ?_
          rintro e w9 ⟨rfl, rfl⟩
          go_wp2_with fail
          refine (mFuse_any m _ G a3 0 [] none 0 _ HM.out (.inl rfl) (by simp) (by omega) (by omega)).mono ?_
          rintro e w5 ⟨rfl, own3, hm2, hfr⟩
          have HLOWn := Lib.hid (hfr.low HW.out.size HLOW.out)
          have HW := Lib.hid (HW.out.trans (hfr.below HW.out.size HLOW.out))
          obtain ⟨hx_, hz_⟩ := hfr.heap HB.out HBz.out
          have HB := Lib.hid hx_
          have HBz := Lib.hid hz_
          clear hx_ hz_
          obtain ⟨hx_, hz_⟩ := hfr.heap HR.out HRz.out
          have HR := Lib.hid hx_
          have HRz := Lib.hid hz_
          clear hx_ hz_
          have HM := Lib.hid hm2
          clear hm2 hfr
          have HLOW := HLOWn
          clear HLOWn
          have KC := Lib.hid (mCrash_any m _ G (a3.setFuse 0 []) ks K kc _ HM.out (room_mono (HCL3.out.of_ls (setFuse_ls _ _ _)).room (by omega)) (fun W own9 hf9 => HK.out.below (HW.out.trans (hf9.below HW.out.size HLOW.out))) hkc HKM.out)
          go_wp2_with fail
          refine (KC.out).mono ?_
          rintro e w6 ⟨rfl, own4, hm2, hfr⟩
          have HLOWn := Lib.hid (hfr.low HW.out.size HLOW.out)
          have HW := Lib.hid (HW.out.trans (hfr.below HW.out.size HLOW.out))
          obtain ⟨hx_, hz_⟩ := hfr.heap HB.out HBz.out
          have HB := Lib.hid hx_
          have HBz := Lib.hid hz_
          clear hx_ hz_
          obtain ⟨hx_, hz_⟩ := hfr.heap HR.out HRz.out
          have HR := Lib.hid hx_
          have HRz := Lib.hid hz_
          clear hx_ hz_
          have HM := Lib.hid hm2
          clear hm2 hfr
          have HLOW := HLOWn
          clear HLOWn
          go_wp2_with fail
          refine (mOn_any HM.out).mono ?_
          rintro e w7 ⟨rfl, own5, hm2, hfr⟩
          have HLOWn := Lib.hid (hfr.low HW.out.size HLOW.out)
          have HW := Lib.hid (HW.out.trans (hfr.below HW.out.size HLOW.out))
          obtain ⟨hx_, hz_⟩ := hfr.heap HB.out HBz.out
          have HB := Lib.hid hx_
          have HBz := Lib.hid hz_
          clear hx_ hz_
          obtain ⟨hx_, hz_⟩ := hfr.heap HR.out HRz.out
          have HR := Lib.hid hx_
          have HRz := Lib.hid hz_
          clear hx_ hz_
          have HM := Lib.hid hm2
          clear hm2 hfr
          have HLOW := HLOWn
          clear HLOWn
          clear KC
          have kc0 := Lib.cell_of_heap HB.out 0
          have kc1 := Lib.cell_of_heap HB.out 1
          have kc2 := Lib.cell_of_heap HB.out 2
          have kc3 := Lib.cell_of_heap HB.out 3
          have kr0 := Lib.cell_of_heap HR.out 0
          have kr1 := Lib.cell_of_heap HR.out 1
          have HM := Lib.hid (show MemAt _ m _ G (finA a3 ks) from HM.out)
          have KRD := Lib.hid (bkRead_on m _ G (finA a3 ks) 1 8 3 _ HM.out (room_mono ((HCL3.out.of_ls (finA_ls HCL3.out ks)).room) (by omega)) hSF rfl (by rw [finA_ls HCL3.out ks, HLEN.out]; omega))
          unfold RdPost at KRD
          have htell : rtell ((finA a3 ks).allOf 1 (8 * 8)) = (0#64, []) := by unfold rtell; rw [show readR ((finA a3 ks).allOf 1 (8 * 8)) = none from hrd]; rfl
          rw [htell, show readR ((finA a3 ks).allOf 1 (8 * 8)) = none from hrd] at KRD
          simp only [Option.isSome_some, Option.isSome_none] at KRD
          unfold bkV at KRD
          clear htell hrd
          go_wp2_with fail
          refine KRD.out.mono ?_
          rintro e w8 ⟨⟨B, d, rfl, hrw⟩, hb⟩
          have HRW := Lib.hid hrw
          have HW := Lib.hid (HW.out.trans (hb.mono HW.out.size))
          clear hb hrw KRD kc0 kc1 kc2 kc3 kr0 kr1
          have HX := Lib.hid (heap_alloc_new w8 (.cells #[U 0#64, .slice B 0 d] 77))
          have hba : Below w8.heap.size w8 (w8.alloc (.cells #[U 0#64, .slice B 0 d] 77)) := (Below.refl _ _).alloc (Nat.le_refl _) _
          have HRW := Lib.hid (HRW.out.below hba)
          have HW := Lib.hid (HW.out.trans (hba.mono HW.out.size))
          clear hba
          have x0 := Lib.cell_of_heap HX.out 0
          have x1 := Lib.cell_of_heap HX.out 1
          have nb : (0#64 != BitVec.ofInt 64 0) = false := by decide
          go_wp2
          go_ret
          exact ⟨rfl, HW.out⟩
        · skip
          have KOF := Lib.hid (mOff_any HM.out)
          rw [hoff] at KOF
          clear hoff
          go_wp2_with fail
          refine KOF.out.mono ?_
          rintro e w9 ⟨rfl, rfl⟩
          go_wp2_with fail
          refine (mFuse_any m _ G a3 0 [] none 0 _ HM.out (.inl rfl) (by simp) (by omega) (by omega)).mono ?_
          rintro e w5 ⟨rfl, own3, hm2, hfr⟩
          have HLOWn := Lib.hid (hfr.low HW.out.size HLOW.out)
          have HW := Lib.hid (HW.out.trans (hfr.below HW.out.size HLOW.out))
          obtain ⟨hx_, hz_⟩ := hfr.heap HB.out HBz.out
          have HB := Lib.hid hx_
          have HBz := Lib.hid hz_
          clear hx_ hz_
          obtain ⟨hx_, hz_⟩ := hfr.heap HR.out HRz.out
          have HR := Lib.hid hx_
          have HRz := Lib.hid hz_
          clear hx_ hz_
          have HM := Lib.hid hm2
          clear hm2 hfr
          have HLOW := HLOWn
          clear HLOWn
          have KC := Lib.hid (mCrash_any m _ G (a3.setFuse 0 []) ks K kc _ HM.out (room_mono (HCL3.out.of_ls (setFuse_ls _ _ _)).room (by omega)) (fun W own9 hf9 => HK.out.below (HW.out.trans (hf9.below HW.out.size HLOW.out))) hkc HKM.out)
          go_wp2_with fail
          refine (KC.out).mono ?_
          rintro e w6 ⟨rfl, own4, hm2, hfr⟩
          have HLOWn := Lib.hid (hfr.low HW.out.size HLOW.out)
          have HW := Lib.hid (HW.out.trans (hfr.below HW.out.size HLOW.out))
          obtain ⟨hx_, hz_⟩ := hfr.heap HB.out HBz.out
          have HB := Lib.hid hx_
          have HBz := Lib.hid hz_
          clear hx_ hz_
          obtain ⟨hx_, hz_⟩ := hfr.heap HR.out HRz.out
          have HR := Lib.hid hx_
          have HRz := Lib.hid hz_
          clear hx_ hz_
          have HM := Lib.hid hm2
          clear hm2 hfr
          have HLOW := HLOWn
          clear HLOWn
          go_wp2_with fail
          refine (mOn_any HM.out).mono ?_
          rintro e w7 ⟨rfl, own5, hm2, hfr⟩
          have HLOWn := Lib.hid (hfr.low HW.out.size HLOW.out)
          have HW := Lib.hid (HW.out.trans (hfr.below HW.out.size HLOW.out))
          obtain ⟨hx_, hz_⟩ := hfr.heap HB.out HBz.out
          have HB := Lib.hid hx_
          have HBz := Lib.hid hz_
          clear hx_ hz_
          obtain ⟨hx_, hz_⟩ := hfr.heap HR.out HRz.out
          have HR := Lib.hid hx_
          have HRz := Lib.hid hz_
          clear hx_ hz_
          have HM := Lib.hid hm2
          clear hm2 hfr
          have HLOW := HLOWn
          clear HLOWn
          clear KC
          have kc0 := Lib.cell_of_heap HB.out 0
          have kc1 := Lib.cell_of_heap HB.out 1
          have kc2 := Lib.cell_of_heap HB.out 2
          have kc3 := Lib.cell_of_heap HB.out 3
          have kr0 := Lib.cell_of_heap HR.out 0
          have kr1 := Lib.cell_of_heap HR.out 1
          have HM := Lib.hid (show MemAt _ m _ G (finA a3 ks) from HM.out)
          have KRD := Lib.hid (bkRead_on m _ G (finA a3 ks) 1 8 3 _ HM.out (room_mono ((HCL3.out.of_ls (finA_ls HCL3.out ks)).room) (by omega)) hSF rfl (by rw [finA_ls HCL3.out ks, HLEN.out]; omega))
          unfold RdPost at KRD
          have htell : rtell ((finA a3 ks).allOf 1 (8 * 8)) = (num, ws) := by unfold rtell; rw [show readR ((finA a3 ks).allOf 1 (8 * 8)) = some (num, ws) from hrd]; rfl
          rw [htell, show readR ((finA a3 ks).allOf 1 (8 * 8)) = some (num, ws) from hrd] at KRD
          simp only [Option.isSome_some, Option.isSome_none] at KRD
          unfold bkV at KRD
          clear htell hrd
          go_wp2_with fail
          refine KRD.out.mono ?_
          rintro e w8 ⟨⟨B, d, rfl, hrw⟩, hb⟩
          have HRW := Lib.hid hrw
          have HW := Lib.hid (HW.out.trans (hb.mono HW.out.size))
          clear hb hrw KRD kc0 kc1 kc2 kc3 kr0 kr1
          have HX := Lib.hid (heap_alloc_new w8 (.cells #[U num, .slice B ws.length d] 77))
          have hba : Below w8.heap.size w8 (w8.alloc (.cells #[U num, .slice B ws.length d] 77)) := (Below.refl _ _).alloc (Nat.le_refl _) _
          have HRW := Lib.hid (HRW.out.below hba)
          have HW := Lib.hid (HW.out.trans (hba.mono HW.out.size))
          clear hba
          have x0 := Lib.cell_of_heap HX.out 0
          have x1 := Lib.cell_of_heap HX.out 1
          have nb : (num != num) = false := by simp
          have KW1 := Lib.hid (writes_any ws B d _ HRW.out (by omega))
          go_wp2_with fail
          refine KW1.out.mono ?_
          rintro e wx ⟨⟨B1, d1, rfl, hr1⟩, hb⟩
          have HR1 := Lib.hid hr1
          have HW := Lib.hid (HW.out.trans (hb.mono HW.out.size))
          have y0 := (hb.cell (p := ⟨_, 0, none⟩) (cell_lt x0)).trans x0
          clear hb hr1 KW1
          have KW2 := Lib.hid (writes_any ws L lc wx (HL.out.below HW.out) (by omega))
          go_wp2_with fail
          refine KW2.out.mono ?_
          rintro e wy ⟨⟨B2, d2, rfl, hr2⟩, hb⟩
          have HR2 := Lib.hid hr2
          have HR1 := Lib.hid (HR1.out.below hb)
          have HW := Lib.hid (HW.out.trans (hb.mono HW.out.size))
          clear hb hr2 KW2 y0
          have KE := Lib.hid (equalW_any ws ws B1 B2 d1 d2 wy HR1.out HR2.out (by omega) (by omega))
          rw [beq_self_eq_true] at KE
          go_wp2_with fail
          refine KE.out.mono ?_
          rintro e wz ⟨rfl, hd⟩
          have HW := Lib.hid (HW.out.trans ((hd.below _).mono HW.out.size))
          clear hd KE
          go_wp2
          go_ret
          exact ⟨rfl, HW.out⟩
      | true =>
        obtain ⟨a1, hk1, hcl1, hfall⟩ := HFC.out
        have HCN1 := Lib.hid (show a1.cnt 1000 by have h := HCN0.out.keepB 1 8 num ws; rw [hk1] at h; exact h)
        have HCL1 := Lib.hid hcl1
        have KK := Lib.hid (bkKeep_any m own G a0 1 8 3 num ws L lc 0 0 _ HM.out (room_mono HCL0.out.room (by omega)) HCN0.out (by omega) (by omega) hSF (HL.out.below HW.out))
        rw [hk1] at KK
        unfold bkV at KK
        clear hcl1 hk1
        have kc0 := Lib.cell_of_heap HB.out 0
        have kc1 := Lib.cell_of_heap HB.out 1
        have kc2 := Lib.cell_of_heap HB.out 2
        have kc3 := Lib.cell_of_heap HB.out 3
        have kr0 := Lib.cell_of_heap HR.out 0
        have kr1 := Lib.cell_of_heap HR.out 1
        go_wp2_with fail
        refine (KK.out).mono ?_
        rintro e w3 ⟨rfl, own1, hm2, hfr⟩
        have HLOWn := Lib.hid (hfr.low HW.out.size HLOW.out)
        have HW := Lib.hid (HW.out.trans (hfr.below HW.out.size HLOW.out))
        obtain ⟨hx_, hz_⟩ := hfr.heap HB.out HBz.out
        have HB := Lib.hid hx_
        have HBz := Lib.hid hz_
        clear hx_ hz_
        obtain ⟨hx_, hz_⟩ := hfr.heap HR.out HRz.out
        have HR := Lib.hid hx_
        have HRz := Lib.hid hz_
        clear hx_ hz_
        have HM := Lib.hid hm2
        clear hm2 hfr
        have HLOW := HLOWn
        clear HLOWn
        clear KK kc0 kc1 kc2 kc3 kr0 kr1
        have HCLF := Lib.hid (HCL1.out.of_ls (setFuse_ls a1 z ks))
        have HCNF := Lib.hid (HCN1.out.setFuse z ks hz1)
        go_wp2_with fail
        refine (mFuse_any m _ G a1 z ks K kc _ HM.out (HK.out.below HW.out) (by omega) hz0 hz1).mono ?_
        rintro e w4 ⟨rfl, own2, hm2, hfr⟩
        have HLOWn := Lib.hid (hfr.low HW.out.size HLOW.out)
        have HW := Lib.hid (HW.out.trans (hfr.below HW.out.size HLOW.out))
        obtain ⟨hx_, hz_⟩ := hfr.heap HB.out HBz.out
        have HB := Lib.hid hx_
        have HBz := Lib.hid hz_
        clear hx_ hz_
        obtain ⟨hx_, hz_⟩ := hfr.heap HR.out HRz.out
        have HR := Lib.hid hx_
        have HRz := Lib.hid hz_
        clear hx_ hz_
        have HM := Lib.hid hm2
        clear hm2 hfr
        have HLOW := HLOWn
        clear HLOWn
        generalize a1.setFuse z ks = aF at *
        have kc0 := Lib.cell_of_heap HB.out 0
        have kc1 := Lib.cell_of_heap HB.out 1
        have kc2 := Lib.cell_of_heap HB.out 2
        have kc3 := Lib.cell_of_heap HB.out 3
        have kr0 := Lib.cell_of_heap HR.out 0
        have kr1 := Lib.cell_of_heap HR.out 1
        have KL := Lib.hid (bkClear_any m _ G aF 1 8 3 0 1000 _ HM.out (room_mono HCLF.out.room (by omega)) HCNF.out (by omega) (by omega) hSF)
        generalize aF.push 1 8 0 [0#64] = pr at *
        obtain ⟨a3, er⟩ := pr
        try simp only at hfall
        try simp only at KL
        unfold bkV at KL
        have HCL3 := Lib.hid hfall.clean
        have HLEN := Lib.hid hfall.len
        have he0 := hfall.e0
        clear hfall
        go_wp2_with fail
        refine (KL.out).mono ?_
        rintro e w5 ⟨rfl, own3, hm2, hfr⟩
        have HLOWn := Lib.hid (hfr.low HW.out.size HLOW.out)
        have HW := Lib.hid (HW.out.trans (hfr.below HW.out.size HLOW.out))
        obtain ⟨hx_, hz_⟩ := hfr.heap HB.out HBz.out
        have HB := Lib.hid hx_
        have HBz := Lib.hid hz_
        clear hx_ hz_
        obtain ⟨hx_, hz_⟩ := hfr.heap HR.out HRz.out
        have HR := Lib.hid hx_
        have HRz := Lib.hid hz_
        clear hx_ hz_
        have HM := Lib.hid hm2
        clear hm2 hfr
        have HLOW := HLOWn
        clear HLOWn
        clear KL kc0 kc1 kc2 kc3 kr0 kr1
        rcases he0 with ⟨rfl, hoff, hrd⟩ | ⟨rfl, hoff, hrd | hrd⟩
        · have hrd := hrd.trans (if_pos trivial)
          clear hoff
          go_wp2_with fail
          refine (mFuse_any m _ G a3 0 [] none 0 _ HM.out (.inl rfl) (by simp) (by omega) (by omega)).mono ?_
          rintro e w6 ⟨rfl, own4, hm2, hfr⟩
          have HLOWn := Lib.hid (hfr.low HW.out.size HLOW.out)
          have HW := Lib.hid (HW.out.trans (hfr.below HW.out.size HLOW.out))
          obtain ⟨hx_, hz_⟩ := hfr.heap HB.out HBz.out
          have HB := Lib.hid hx_
          have HBz := Lib.hid hz_
          clear hx_ hz_
          obtain ⟨hx_, hz_⟩ := hfr.heap HR.out HRz.out
          have HR := Lib.hid hx_
          have HRz := Lib.hid hz_
          clear hx_ hz_
          have HM := Lib.hid hm2
          clear hm2 hfr
          have HLOW := HLOWn
          clear HLOWn
          have KC := Lib.hid (mCrash_any m _ G (a3.setFuse 0 []) ks K kc _ HM.out (room_mono (HCL3.out.of_ls (setFuse_ls _ _ _)).room (by omega)) (fun W own9 hf9 => HK.out.below (HW.out.trans (hf9.below HW.out.size HLOW.out))) hkc HKM.out)
          go_wp2_with fail
          refine (KC.out).mono ?_
          rintro e w7 ⟨rfl, own5, hm2, hfr⟩
          have HLOWn := Lib.hid (hfr.low HW.out.size HLOW.out)
          have HW := Lib.hid (HW.out.trans (hfr.below HW.out.size HLOW.out))
          obtain ⟨hx_, hz_⟩ := hfr.heap HB.out HBz.out
          have HB := Lib.hid hx_
          have HBz := Lib.hid hz_
          clear hx_ hz_
          obtain ⟨hx_, hz_⟩ := hfr.heap HR.out HRz.out
          have HR := Lib.hid hx_
          have HRz := Lib.hid hz_
          clear hx_ hz_
          have HM := Lib.hid hm2
          clear hm2 hfr
          have HLOW := HLOWn
          clear HLOWn
          go_wp2_with fail
          refine (mOn_any HM.out).mono ?_
          rintro e w8 ⟨rfl, own6, hm2, hfr⟩
          have HLOWn := Lib.hid (hfr.low HW.out.size HLOW.out)
          have HW := Lib.hid (HW.out.trans (hfr.below HW.out.size HLOW.out))
          obtain ⟨hx_, hz_⟩ := hfr.heap HB.out HBz.out
          have HB := Lib.hid hx_
          have HBz := Lib.hid hz_
          clear hx_ hz_
          obtain ⟨hx_, hz_⟩ := hfr.heap HR.out HRz.out
          have HR := Lib.hid hx_
          have HRz := Lib.hid hz_
          clear hx_ hz_
          have HM := Lib.hid hm2
          clear hm2 hfr
          have HLOW := HLOWn
          clear HLOWn
          clear KC
          have kc0 := Lib.cell_of_heap HB.out 0
          have kc1 := Lib.cell_of_heap HB.out 1
          have kc2 := Lib.cell_of_heap HB.out 2
          have kc3 := Lib.cell_of_heap HB.out 3
          have kr0 := Lib.cell_of_heap HR.out 0
          have kr1 := Lib.cell_of_heap HR.out 1
          have HM := Lib.hid (show MemAt _ m _ G (finA a3 ks) from HM.out)
          have KRD := Lib.hid (bkRead_on m _ G (finA a3 ks) 1 8 3 _ HM.out (room_mono ((HCL3.out.of_ls (finA_ls HCL3.out ks)).room) (by omega)) hSF rfl (by rw [finA_ls HCL3.out ks, HLEN.out]; omega))
          unfold RdPost at KRD
          have htell : rtell ((finA a3 ks).allOf 1 (8 * 8)) = (0#64, []) := by unfold rtell; rw [show readR ((finA a3 ks).allOf 1 (8 * 8)) = none from hrd]; rfl
          rw [htell, show readR ((finA a3 ks).allOf 1 (8 * 8)) = none from hrd] at KRD
          simp only [Option.isSome_some, Option.isSome_none] at KRD
          unfold bkV at KRD
          clear htell hrd
          go_wp2_with fail
          refine KRD.out.mono ?_
          rintro e w9 ⟨⟨B, d, rfl, hrw⟩, hb⟩
          have HRW := Lib.hid hrw
          have HW := Lib.hid (HW.out.trans (hb.mono HW.out.size))
          clear hb hrw KRD kc0 kc1 kc2 kc3 kr0 kr1
          have HX := Lib.hid (heap_alloc_new w9 (.cells #[U 0#64, .slice B 0 d] 77))
          have hba : Below w9.heap.size w9 (w9.alloc (.cells #[U 0#64, .slice B 0 d] 77)) := (Below.refl _ _).alloc (Nat.le_refl _) _
          have HRW := Lib.hid (HRW.out.below hba)
          have HW := Lib.hid (HW.out.trans (hba.mono HW.out.size))
          clear hba
          have x0 := Lib.cell_of_heap HX.out 0
          have x1 := Lib.cell_of_heap HX.out 1
          have nb : (0#64 != BitVec.ofInt 64 0) = false := by decide
          go_wp2
          go_ret
          exact ⟨rfl, HW.out⟩
        · skip
          have KOF := Lib.hid (mOff_any HM.out)
          rw [hoff] at KOF
          clear hoff
          go_wp2_with fail
          refine KOF.out.mono ?_
          rintro e w9 ⟨rfl, rfl⟩
          go_wp2_with fail
          refine (mFuse_any m _ G a3 0 [] none 0 _ HM.out (.inl rfl) (by simp) (by omega) (by omega)).mono ?_
          rintro e w6 ⟨rfl, own4, hm2, hfr⟩
          have HLOWn := Lib.hid (hfr.low HW.out.size HLOW.out)
          have HW := Lib.hid (HW.out.trans (hfr.below HW.out.size HLOW.out))
          obtain ⟨hx_, hz_⟩ := hfr.heap HB.out HBz.out
          have HB := Lib.hid hx_
          have HBz := Lib.hid hz_
          clear hx_ hz_
          obtain ⟨hx_, hz_⟩ := hfr.heap HR.out HRz.out
          have HR := Lib.hid hx_
          have HRz := Lib.hid hz_
          clear hx_ hz_
          have HM := Lib.hid hm2
          clear hm2 hfr
          have HLOW := HLOWn
          clear HLOWn
          have KC := Lib.hid (mCrash_any m _ G (a3.setFuse 0 []) ks K kc _ HM.out (room_mono (HCL3.out.of_ls (setFuse_ls _ _ _)).room (by omega)) (fun W own9 hf9 => HK.out.below (HW.out.trans (hf9.below HW.out.size HLOW.out))) hkc HKM.out)
          go_wp2_with fail
          refine (KC.out).mono ?_
          rintro e w7 ⟨rfl, own5, hm2, hfr⟩
          have HLOWn := Lib.hid (hfr.low HW.out.size HLOW.out)
          have HW := Lib.hid (HW.out.trans (hfr.below HW.out.size HLOW.out))
          obtain ⟨hx_, hz_⟩ := hfr.heap HB.out HBz.out
          have HB := Lib.hid hx_
          have HBz := Lib.hid hz_
          clear hx_ hz_
          obtain ⟨hx_, hz_⟩ := hfr.heap HR.out HRz.out
          have HR := Lib.hid hx_
          have HRz := Lib.hid hz_
          clear hx_ hz_
          have HM := Lib.hid hm2
          clear hm2 hfr
          have HLOW := HLOWn
          clear HLOWn
          go_wp2_with fail
          refine (mOn_any HM.out).mono ?_
          rintro e w8 ⟨rfl, own6, hm2, hfr⟩
          have HLOWn := Lib.hid (hfr.low HW.out.size HLOW.out)
          have HW := Lib.hid (HW.out.trans (hfr.below HW.out.size HLOW.out))
          obtain ⟨hx_, hz_⟩ := hfr.heap HB.out HBz.out
          have HB := Lib.hid hx_
          have HBz := Lib.hid hz_
          clear hx_ hz_
          obtain ⟨hx_, hz_⟩ := hfr.heap HR.out HRz.out
          have HR := Lib.hid hx_
          have HRz := Lib.hid hz_
          clear hx_ hz_
          have HM := Lib.hid hm2
          clear hm2 hfr
          have HLOW := HLOWn
          clear HLOWn
          clear KC
          have kc0 := Lib.cell_of_heap HB.out 0
          have kc1 := Lib.cell_of_heap HB.out 1
          have kc2 := Lib.cell_of_heap HB.out 2
          have kc3 := Lib.cell_of_heap HB.out 3
          have kr0 := Lib.cell_of_heap HR.out 0
          have kr1 := Lib.cell_of_heap HR.out 1
          have HM := Lib.hid (show MemAt _ m _ G (finA a3 ks) from HM.out)
          have KRD := Lib.hid (bkRead_on m _ G (finA a3 ks) 1 8 3 _ HM.out (room_mono ((HCL3.out.of_ls (finA_ls HCL3.out ks)).room) (by omega)) hSF rfl (by rw [finA_ls HCL3.out ks, HLEN.out]; omega))
          unfold RdPost at KRD
          have htell : rtell ((finA a3 ks).allOf 1 (8 * 8)) = (0#64, []) := by unfold rtell; rw [show readR ((finA a3 ks).allOf 1 (8 * 8)) = none from hrd]; rfl
          rw [htell, show readR ((finA a3 ks).allOf 1 (8 * 8)) = none from hrd] at KRD
          simp only [Option.isSome_some, Option.isSome_none] at KRD
          unfold bkV at KRD
          clear htell hrd
          go_wp2_with fail
          refine KRD.out.mono ?_
          rintro e w9 ⟨⟨B, d, rfl, hrw⟩, hb⟩
          have HRW := Lib.hid hrw
          have HW := Lib.hid (HW.out.trans (hb.mono HW.out.size))
          clear hb hrw KRD kc0 kc1 kc2 kc3 kr0 kr1
          have HX := Lib.hid (heap_alloc_new w9 (.cells #[U 0#64, .slice B 0 d] 77))
          have hba : Below w9.heap.size w9 (w9.alloc (.cells #[U 0#64, .slice B 0 d] 77)) := (Below.refl _ _).alloc (Nat.le_refl _) _
          have HRW := Lib.hid (HRW.out.below hba)
          have HW := Lib.hid (HW.out.trans (hba.mono HW.out.size))
          clear hba
          have x0 := Lib.cell_of_heap HX.out 0
          have x1 := Lib.cell_of_heap HX.out 1
          have nb : (0#64 != BitVec.ofInt 64 0) = false := by decide
          go_wp2
          go_ret
          exact ⟨rfl, HW.out⟩
        · skip
          have KOF := Lib.hid (mOff_any HM.out)
          rw [hoff] at KOF
          clear hoff
          go_wp2_with fail
          refine KOF.out.mono ?_
          rintro e w9 ⟨rfl, rfl⟩
          go_wp2_with fail
          refine (mFuse_any m _ G a3 0 [] none 0 _ HM.out (.inl rfl) (by simp) (by omega) (by omega)).mono ?_
          rintro e w6 ⟨rfl, own4, hm2, hfr⟩
          have HLOWn := Lib.hid (hfr.low HW.out.size HLOW.out)
          have HW := Lib.hid (HW.out.trans (hfr.below HW.out.size HLOW.out))
          obtain ⟨hx_, hz_⟩ := hfr.heap HB.out HBz.out
          have HB := Lib.hid hx_
          have HBz := Lib.hid hz_
          clear hx_ hz_
          obtain ⟨hx_, hz_⟩ := hfr.heap HR.out HRz.out
          have HR := Lib.hid hx_
          have HRz := Lib.hid hz_
          clear hx_ hz_
          have HM := Lib.hid hm2
          clear hm2 hfr
          have HLOW := HLOWn
          clear HLOWn
          have KC := Lib.hid (mCrash_any m _ G (a3.setFuse 0 []) ks K kc _ HM.out (room_mono (HCL3.out.of_ls (setFuse_ls _ _ _)).room (by omega)) (fun W own9 hf9 => HK.out.below (HW.out.trans (hf9.below HW.out.size HLOW.out))) hkc HKM.out)
          go_wp2_with fail
          refine (KC.out).mono ?_
          rintro e w7 ⟨rfl, own5, hm2, hfr⟩
          have HLOWn := Lib.hid (hfr.low HW.out.size HLOW.out)
          have HW := Lib.hid (HW.out.trans (hfr.below HW.out.size HLOW.out))
          obtain ⟨hx_, hz_⟩ := hfr.heap HB.out HBz.out
          have HB := Lib.hid hx_
          have HBz := Lib.hid hz_
          clear hx_ hz_
          obtain ⟨hx_, hz_⟩ := hfr.heap HR.out HRz.out
          have HR := Lib.hid hx_
          have HRz := Lib.hid hz_
          clear hx_ hz_
          have HM := Lib.hid hm2
          clear hm2 hfr
          have HLOW := HLOWn
          clear HLOWn
          go_wp2_with fail
          refine (mOn_any HM.out).mono ?_
          rintro e w8 ⟨rfl, own6, hm2, hfr⟩
          have HLOWn := Lib.hid (hfr.low HW.out.size HLOW.out)
          have HW := Lib.hid (HW.out.trans (hfr.below HW.out.size HLOW.out))
          obtain ⟨hx_, hz_⟩ := hfr.heap HB.out HBz.out
          have HB := Lib.hid hx_
          have HBz := Lib.hid hz_
          clear hx_ hz_
          obtain ⟨hx_, hz_⟩ := hfr.heap HR.out HRz.out
          have HR := Lib.hid hx_
          have HRz := Lib.hid hz_
          clear hx_ hz_
          have HM := Lib.hid hm2
          clear hm2 hfr
          have HLOW := HLOWn
          clear HLOWn
          clear KC
          have kc0 := Lib.cell_of_heap HB.out 0
          have kc1 := Lib.cell_of_heap HB.out 1
          have kc2 := Lib.cell_of_heap HB.out 2
          have kc3 := Lib.cell_of_heap HB.out 3
          have kr0 := Lib.cell_of_heap HR.out 0
          have kr1 := Lib.cell_of_heap HR.out 1
          have HM := Lib.hid (show MemAt _ m _ G (finA a3 ks) from HM.out)
          have KRD := Lib.hid (bkRead_on m _ G (finA a3 ks) 1 8 3 _ HM.out (room_mono ((HCL3.out.of_ls (finA_ls HCL3.out ks)).room) (by omega)) hSF rfl (by rw [finA_ls HCL3.out ks, HLEN.out]; omega))
          unfold RdPost at KRD
          have htell : rtell ((finA a3 ks).allOf 1 (8 * 8)) = (num, ws) := by unfold rtell; rw [show readR ((finA a3 ks).allOf 1 (8 * 8)) = some (num, ws) from hrd]; rfl
          rw [htell, show readR ((finA a3 ks).allOf 1 (8 * 8)) = some (num, ws) from hrd] at KRD
          simp only [Option.isSome_some, Option.isSome_none] at KRD
          unfold bkV at KRD
          clear htell hrd
          go_wp2_with fail
          refine KRD.out.mono ?_
          rintro e w9 ⟨⟨B, d, rfl, hrw⟩, hb⟩
          have HRW := Lib.hid hrw
          have HW := Lib.hid (HW.out.trans (hb.mono HW.out.size))
          clear hb hrw KRD kc0 kc1 kc2 kc3 kr0 kr1
          have HX := Lib.hid (heap_alloc_new w9 (.cells #[U num, .slice B ws.length d] 77))
          have hba : Below w9.heap.size w9 (w9.alloc (.cells #[U num, .slice B ws.length d] 77)) := (Below.refl _ _).alloc (Nat.le_refl _) _
          have HRW := Lib.hid (HRW.out.below hba)
          have HW := Lib.hid (HW.out.trans (hba.mono HW.out.size))
          clear hba
          have x0 := Lib.cell_of_heap HX.out 0
          have x1 := Lib.cell_of_heap HX.out 1
          have nb : (num != num) = false := by simp
          have KW1 := Lib.hid (writes_any ws B d _ HRW.out (by omega))
          go_wp2_with fail
          refine KW1.out.mono ?_
          rintro e wx ⟨⟨B1, d1, rfl, hr1⟩, hb⟩
          have HR1 := Lib.hid hr1
          have HW := Lib.hid (HW.out.trans (hb.mono HW.out.size))
          have y0 := (hb.cell (p := ⟨_, 0, none⟩) (cell_lt x0)).trans x0
          clear hb hr1 KW1
          have KW2 := Lib.hid (writes_any ws L lc wx (HL.out.below HW.out) (by omega))
          go_wp2_with fail
          refine KW2.out.mono ?_
          rintro e wy ⟨⟨B2, d2, rfl, hr2⟩, hb⟩
          have HR2 := Lib.hid hr2
          have HR1 := Lib.hid (HR1.out.below hb)
          have HW := Lib.hid (HW.out.trans (hb.mono HW.out.size))
          clear hb hr2 KW2 y0
          have KE := Lib.hid (equalW_any ws ws B1 B2 d1 d2 wy HR1.out HR2.out (by omega) (by omega))
          rw [beq_self_eq_true] at KE
          go_wp2_with fail
          refine KE.out.mono ?_
          rintro e wz ⟨rfl, hd⟩
          have HW := Lib.hid (HW.out.trans ((hd.below _).mono HW.out.size))
          clear hd KE
          go_wp2
          go_ret
          exact ⟨rfl, HW.out⟩
end Go.Proofs.Ytoifejinppjeeaa
