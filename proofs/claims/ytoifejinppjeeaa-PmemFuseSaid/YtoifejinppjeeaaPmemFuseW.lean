/- The walk of the statement PmemFuse. Condition: the slices can be read; the numbers are ints. -/
import Derived.Test.YtoifejinppjeeaaFusePlain
import Derived.Test.YtoifejinppjeeaaActs4
import Derived.Test.YtoifejinppjeeaaSame4
import Derived.BigGuard
namespace Go.Proofs.Ytoifejinppjeeaa
open Go.RowKit
set_option linter.unusedVariables false
set_option linter.unusedSimpArgs false
theorem words_ls {a b : AM} (h : a.ls = b.ls) : a.words = b.words := by unfold AM.words; rw [h]
theorem actA0 (z : Int) (v : BitVec 64) (a : AM) : actA 0 z v a = a.store (z % 16) v := rfl
theorem actA1 (z : Int) (v : BitVec 64) (a : AM) : actA 1 z v a = a.flush [z % 2] := rfl
theorem actA2 {op : Int} (z : Int) (v : BitVec 64) (a : AM) (h0 : op ≠ 0) (h1 : op ≠ 1) : actA op z v a = a.fence := by unfold actA; rw [if_neg h0, if_neg h1]
theorem fuI_new (ks : List Int) (c : Int) (hc : 1 ≤ c) (hc2 : c ≤ 1000) : FuI ks c 0 ((newA 3).setFuse c ks) (newA 3) := by
  have e : (newA 3).setFuse c ks = { newA 3 with fuse := max c 0, keep := ks } := rfl
  rw [e]
  exact ⟨rfl, newA_len 3, fun _ => ⟨rfl, by show max c 0 = _; omega, rfl, rfl, rfl⟩, fun h => by omega, newA_room 3 0, ⟨by show max c 0 ≤ _; omega, by simp [newA, fromA], by simp [newA, fromA], by simp [newA, fromA]⟩, ⟨by simp [newA, fromA], by simp [newA, fromA], by simp [newA, fromA], by simp [newA, fromA]⟩⟩
set_option maxRecDepth 100000 in
set_option maxHeartbeats 8000000 in
theorem PmemFuse_walk (l : List Ac) (L : Option Addr) (lc : Nat) (c : Int) (ks : List Int) (K : Option Addr) (kc : Nat) (w : World) (hl : RdA w L l ∧ AcFit l) (hlc : l.length ≤ lc) (hlm : lc ≤ maxLen) (hc0 : -9223372036854775808 ≤ c) (hc1 : c ≤ 9223372036854775807) (hk : RdF I6 w K ks ∧ ∀ z ∈ ks, -9223372036854775808 ≤ z ∧ z ≤ 9223372036854775807) (hkc : ks.length ≤ kc) (hkm : kc ≤ maxLen) :
    Calls Try.prog 6 #[.slice L l.length lc, .int .i64 c, .slice K ks.length kc] w fun e w' => e = .returned (.bool true) ∧ Below w.heap.size w w' := by
  have KA := Lib.hid (fun W => pmAwake_any W)
  have KN := Lib.hid (fun W => show Calls Try.prog 20 #[.int .i64 3] W (fun e w' => Made W.heap.size (newA 3) e w' ∧ Below W.heap.size W w') from mNew_any 3 W (by omega) (by omega))
  have HL := Lib.hid hl.1
  have HK := Lib.hid hk.1
  have HKM := Lib.hid hkm
  clear hl hk hlm hkm
  by_cases q1 : 25 < (l.length : Int)
  · skip
    have HW := Lib.hid (Below.refl w.heap.size w)
    go_enter Try.func6, Try.ntmps6
    go_wp2_with fail
    refine (KA.out _).mono ?_
    rintro e w1 ⟨rfl, hb⟩
    have HW := Lib.hid (HW.out.trans (hb.mono HW.out.size))
    clear hb
    go_wp2
    go_ret
    exact ⟨rfl, HW.out⟩
  by_cases q2 : c < 1
  · skip
    have HW := Lib.hid (Below.refl w.heap.size w)
    go_enter Try.func6, Try.ntmps6
    go_wp2_with fail
    refine (KA.out _).mono ?_
    rintro e w1 ⟨rfl, hb⟩
    have HW := Lib.hid (HW.out.trans (hb.mono HW.out.size))
    clear hb
    go_wp2
    go_ret
    exact ⟨rfl, HW.out⟩
  by_cases q3 : 30 < c
  · skip
    have HW := Lib.hid (Below.refl w.heap.size w)
    go_enter Try.func6, Try.ntmps6
    go_wp2_with fail
    refine (KA.out _).mono ?_
    rintro e w1 ⟨rfl, hb⟩
    have HW := Lib.hid (HW.out.trans (hb.mono HW.out.size))
    clear hb
    go_wp2
    go_ret
    exact ⟨rfl, HW.out⟩
  by_cases q4 : 10 < (ks.length : Int)
  · skip
    have HW := Lib.hid (Below.refl w.heap.size w)
    go_enter Try.func6, Try.ntmps6
    go_wp2_with fail
    refine (KA.out _).mono ?_
    rintro e w1 ⟨rfl, hb⟩
    have HW := Lib.hid (HW.out.trans (hb.mono HW.out.size))
    clear hb
    go_wp2
    go_ret
    exact ⟨rfl, HW.out⟩
  have HW := Lib.hid (Below.refl w.heap.size w)
  go_enter Try.func6, Try.ntmps6
  go_wp2_with fail
  refine (KA.out _).mono ?_
  rintro e w1 ⟨rfl, hb⟩
  have HW := Lib.hid (HW.out.trans (hb.mono HW.out.size))
  clear hb
  go_wp2_with fail
  refine (KN.out _).mono ?_
  rintro e w2 ⟨⟨m, own, G, rfl, hm, hlow⟩, hb⟩
  have HLOW := Lib.hid (fun k (hk : k < w.heap.size) => hlow k (Nat.lt_of_lt_of_le hk HW.out.size))
  have HW := Lib.hid (HW.out.trans (hb.mono HW.out.size))
  clear hb
  have HM := Lib.hid hm
  clear hm hlow
  have HI := Lib.hid (fuI_new ks c (by omega) (by omega))
  have KFU := Lib.hid (fun m own G W hm h => mFuse_any m own G (newA 3) c ks K kc W hm h (by omega) hc0 hc1)
  generalize (newA 3).setFuse c ks = a1 at *
  generalize newA 3 = a0 at *
  go_wp2_with fail
  refine (KN.out _).mono ?_
  rintro e w9 ⟨⟨n, p, H, rfl, hn, hlow⟩, hb⟩
  have HT := Lib.hid (show Two w w9 m own G a0 n p H a0 from ⟨HM.out.below hb, hn, fun k => by
      rcases Nat.lt_or_ge k w2.heap.size with h | h
      · exact .inr (hlow k h)
      · exact .inl (HM.out.fresh k h), fun k hk => ⟨HLOW.out k hk, hlow k (Nat.lt_of_lt_of_le hk HW.out.size)⟩, HW.out.trans (hb.mono HW.out.size)⟩)
  clear hb hn hlow HM HW HLOW
  go_wp2_with fail
  refine (KFU.out m _ _ _ HT.out.l (HK.out.below HT.out.hb)).mono ?_
  rintro e w8 ⟨rfl, o, hm2, hfr⟩
  have HT := Lib.hid (HT.out.fst hm2 hfr)
  clear hm2 hfr KFU KN KA
  go_wp2
  go_loopw [11] (fun i wr => ∃ k : Nat, k ≤ l.length ∧ i = .int .i64 k ∧ ∃ o p ma mb, Two w wr m o G ma n p H mb ∧ FuI ks c k ma mb) (fun i _ => l.length - (intOf i).toNat)
  case atStart => exact ⟨0, Nat.zero_le _, rfl, o, p, a1, a0, HT.out, HI.out⟩
  case round =>
    clear HT HI
    skip
    obtain ⟨k, hk, rfl, o, p, ma, mb, ht, hi⟩ := hrel
    have HT := Lib.hid ht
    have HI := Lib.hid hi
    clear ht hi
    by_cases hlt : k < l.length
    · obtain ⟨lb, lo, rfl, hlc⟩ := HL.out.at_ hlt
      have HAC := Lib.hid (fun (W : World) (h : Below w.heap.size w W) => (hlc k hlt).below h)
      clear hlc
      generalize l[k] = x at *
      obtain ⟨op, at_, v, Lx, nx, cx⟩ := x
      unfold AcAt at HAC
      simp only at HAC
      have e0 : IntKind.i64.wrap ((k : Int) + 1) = (k : Int) + 1 := IntWalk.i64_in _ (by omega)
      by_cases g1 : (k : Int) + 1 < c
      · skip
        have g2 : ((k : Int) + 1 == c) = false := by rw [beq_eq_false_iff_ne]; omega
        obtain ⟨hr1, hr2, hi⟩ := HI.out.alive g1 op at_ v
        obtain ⟨k0, _⟩ := HAC.out wr HT.out.hb
        by_cases h0 : op = 0
        · subst h0
          have hr1 : (ma.store (at_ % 16) v).2 = 0 := hr1
          have hr2 : (mb.store (at_ % 16) v).2 = 0 := hr2
          obtain ⟨a2, ha2⟩ : ∃ q, (ma.store (at_ % 16) v) = (q, 0) := ⟨_, Prod.ext rfl hr1⟩
          obtain ⟨b2, hb2⟩ : ∃ q, (mb.store (at_ % 16) v) = (q, 0) := ⟨_, Prod.ext rfl hr2⟩
          have hi : FuI ks c (k + 1) (ma.store (at_ % 16) v).1 (mb.store (at_ % 16) v).1 := hi
          rw [ha2, hb2] at hi
          simp only at hi
          have HA2 := Lib.hid ha2
          have HB2 := Lib.hid hb2
          clear ha2 hb2 hr1 hr2
          obtain ⟨ho1, _, _, ho2, _⟩ := hi.run (by omega)
          have HI0 := Lib.hid HI.out
          have HI := Lib.hid hi
          clear hi

          go_wp2_with fail
          apply wp_region_j (fun l w9 => TwJ w m G ma a2 n H mb b2 (l.getD 12 false) (l.getD 25 false) w9) 144 26 (Eqs _ :: Eqs _ :: Eqs _ :: Eqs _ :: Eqs _ :: Eqs _ :: Eqs _ :: Eqs _ :: Eqs _ :: Eqs _ :: Eqs _ :: Eqs _ :: Eqs _ :: Eqs _ :: Eqs _ :: Eqs _ :: Eqs _ :: Eqs _ :: Eqs _ :: Eqs _ :: Eqs _ :: Eqs _ :: Eqs _ :: Eqs _ :: Eqs _ :: Eqs _ :: []) (by kernel_rfl) (by rfl) rfl (stab_cons (stab_eq _) (stab_cons (stab_eq _) (stab_cons (stab_eq _) (stab_cons (stab_eq _) (stab_cons (stab_eq _) (stab_cons (stab_eq _) (stab_cons (stab_eq _) (stab_cons (stab_eq _) (stab_cons (stab_eq _) (stab_cons (stab_eq _) (stab_cons (stab_eq _) (stab_cons (stab_eq _) (stab_cons (stab_eq _) (stab_cons (stab_eq _) (stab_cons (stab_eq _) (stab_cons (stab_eq _) (stab_cons (stab_eq _) (stab_cons (stab_eq _) (stab_cons (stab_eq _) (stab_cons (stab_eq _) (stab_cons (stab_eq _) (stab_cons (stab_eq _) (stab_cons (stab_eq _) (stab_cons (stab_eq _) (stab_cons (stab_eq _) (stab_cons (stab_eq _) stab_nil)))))))))))))))))))))))))) (by kernel_rfl) (by kernel_rfl) (by kernel_rfl) (by kernel_rfl)
          case h0 =>
            exact ⟨_, _, HT.out.below (Stood.cur (Stood.refl _))⟩
          case hstep =>
            simp only [List.take_succ_cons, List.take_zero]
            refine ⟨?_, ?_⟩
            · -- 0: Go.Op.move (Go.Operand.tmp 7)
              intro listed a w1 hJ hls hl0 hlw hlc hF hU hsz
              have e7 : a.eval (.tmp 7) = _ := hU 7 (by kernel_rfl)
              rw [if_pos (by rfl)]
              intro K hK
              clear hF hU hsz
              obtain ⟨q1, q2, q3⟩ := eval_rest a
              generalize hρ : a.eval = ρ
              rw [hρ] at q1 q2 q3 e7
              clear hρ
              have u1 := OpUp_value Try.prog K
              have u2 := OpUp_enter Try.prog K
              go_simp
              exact hK _ _ (hJ.quiet (by decide) (by decide)) trivial rfl
            refine ⟨?_, ?_⟩
            · -- 1: Go.Op.move (Go.Operand.tmp 0)
              intro listed a w1 hJ hls hl0 hlw hlc hF hU hsz
              have e0 : a.eval (.tmp 0) = _ := hU 0 (by kernel_rfl)
              rw [if_pos (by rfl)]
              intro K hK
              clear hF hU hsz
              obtain ⟨q1, q2, q3⟩ := eval_rest a
              generalize hρ : a.eval = ρ
              rw [hρ] at q1 q2 q3 e0
              clear hρ
              have u1 := OpUp_value Try.prog K
              have u2 := OpUp_enter Try.prog K
              go_simp
              exact hK _ _ (hJ.quiet (by decide) (by decide)) trivial rfl
            refine ⟨?_, ?_⟩
            · -- 2: Go.Op.move (Go.Operand.tmp 11)
              intro listed a w1 hJ hls hl0 hlw hlc hF hU hsz
              have e11 : a.eval (.tmp 11) = _ := hU 11 (by kernel_rfl)
              rw [if_pos (by rfl)]
              intro K hK
              clear hF hU hsz
              obtain ⟨q1, q2, q3⟩ := eval_rest a
              generalize hρ : a.eval = ρ
              rw [hρ] at q1 q2 q3 e11
              clear hρ
              have u1 := OpUp_value Try.prog K
              have u2 := OpUp_enter Try.prog K
              go_simp
              exact hK _ _ (hJ.quiet (by decide) (by decide)) trivial rfl
            refine ⟨?_, ?_⟩
            · -- 3: Go.Op.indexAddr 38 (Go.Operand.tmp 75) (Go.Operand.tmp 76)
              intro listed a w1 hJ hls hl0 hlw hlc hF hU hsz
              have e75 : a.eval (.tmp 75) = _ := hF 1 _ _ rfl rfl (by kernel_rfl)
              have e76 : a.eval (.tmp 76) = _ := hF 2 _ _ rfl rfl (by kernel_rfl)
              rw [if_pos (by rfl)]
              intro K hK
              clear hF hU hsz
              obtain ⟨q1, q2, q3⟩ := eval_rest a
              generalize hρ : a.eval = ρ
              rw [hρ] at q1 q2 q3 e75 e76
              clear hρ
              have u1 := OpUp_value Try.prog K
              have u2 := OpUp_enter Try.prog K
              go_simp
              exact hK _ _ (hJ.quiet (by decide) (by decide)) trivial rfl
            refine ⟨?_, ?_⟩
            · -- 4: Go.Op.fieldAddr 41 (Go.Operand.tmp 77) 1
              intro listed a w1 hJ hls hl0 hlw hlc hF hU hsz
              have e77 : a.eval (.tmp 77) = _ := hF 3 _ _ rfl rfl (by kernel_rfl)
              rw [if_pos (by rfl)]
              intro K hK
              clear hF hU hsz
              obtain ⟨q1, q2, q3⟩ := eval_rest a
              generalize hρ : a.eval = ρ
              rw [hρ] at q1 q2 q3 e77
              clear hρ
              have u1 := OpUp_value Try.prog K
              have u2 := OpUp_enter Try.prog K
              go_simp
              exact hK _ _ (hJ.quiet (by decide) (by decide)) trivial rfl
            refine ⟨?_, ?_⟩
            · -- 5: Go.Op.load 3 (Go.Operand.tmp 78)
              intro listed a w1 hJ hls hl0 hlw hlc hF hU hsz
              have e78 : a.eval (.tmp 78) = _ := hF 4 _ _ rfl rfl (by kernel_rfl)
              rw [if_pos (by rfl)]
              intro K hK
              clear hF hU hsz
              obtain ⟨k0, k1, k2, _⟩ := HAC.out w1 hJ.hb
              obtain ⟨q1, q2, q3⟩ := eval_rest a
              generalize hρ : a.eval = ρ
              rw [hρ] at q1 q2 q3 e78
              clear hρ
              have u1 := OpUp_value Try.prog K
              have u2 := OpUp_enter Try.prog K
              go_simp
              exact hK _ _ (hJ.quiet (by decide) (by decide)) trivial rfl
            refine ⟨?_, ?_⟩
            · -- 6: Go.Op.binOp Go.BinOp.and 3 (Go.Operand.tmp 79) (Go.Operand.const (Go.Value.int G
              intro listed a w1 hJ hls hl0 hlw hlc hF hU hsz
              have e79 : a.eval (.tmp 79) = _ := hF 5 _ _ rfl rfl (by kernel_rfl)
              rw [if_pos (by rfl)]
              intro K hK
              clear hF hU hsz
              obtain ⟨q1, q2, q3⟩ := eval_rest a
              generalize hρ : a.eval = ρ
              rw [hρ] at q1 q2 q3 e79
              clear hρ
              have u1 := OpUp_value Try.prog K
              have u2 := OpUp_enter Try.prog K
              go_simp
              exact hK _ _ (hJ.quiet (by decide) (by decide)) trivial rfl
            refine ⟨?_, ?_⟩
            · -- 7: Go.Op.move (Go.Operand.tmp 0)
              intro listed a w1 hJ hls hl0 hlw hlc hF hU hsz
              have e0 : a.eval (.tmp 0) = _ := hU 0 (by kernel_rfl)
              rw [if_pos (by rfl)]
              intro K hK
              clear hF hU hsz
              obtain ⟨q1, q2, q3⟩ := eval_rest a
              generalize hρ : a.eval = ρ
              rw [hρ] at q1 q2 q3 e0
              clear hρ
              have u1 := OpUp_value Try.prog K
              have u2 := OpUp_enter Try.prog K
              go_simp
              exact hK _ _ (hJ.quiet (by decide) (by decide)) trivial rfl
            refine ⟨?_, ?_⟩
            · -- 8: Go.Op.move (Go.Operand.tmp 11)
              intro listed a w1 hJ hls hl0 hlw hlc hF hU hsz
              have e11 : a.eval (.tmp 11) = _ := hU 11 (by kernel_rfl)
              rw [if_pos (by rfl)]
              intro K hK
              clear hF hU hsz
              obtain ⟨q1, q2, q3⟩ := eval_rest a
              generalize hρ : a.eval = ρ
              rw [hρ] at q1 q2 q3 e11
              clear hρ
              have u1 := OpUp_value Try.prog K
              have u2 := OpUp_enter Try.prog K
              go_simp
              exact hK _ _ (hJ.quiet (by decide) (by decide)) trivial rfl
            refine ⟨?_, ?_⟩
            · -- 9: Go.Op.indexAddr 38 (Go.Operand.tmp 81) (Go.Operand.tmp 82)
              intro listed a w1 hJ hls hl0 hlw hlc hF hU hsz
              have e81 : a.eval (.tmp 81) = _ := hF 7 _ _ rfl rfl (by kernel_rfl)
              have e82 : a.eval (.tmp 82) = _ := hF 8 _ _ rfl rfl (by kernel_rfl)
              rw [if_pos (by rfl)]
              intro K hK
              clear hF hU hsz
              obtain ⟨q1, q2, q3⟩ := eval_rest a
              generalize hρ : a.eval = ρ
              rw [hρ] at q1 q2 q3 e81 e82
              clear hρ
              have u1 := OpUp_value Try.prog K
              have u2 := OpUp_enter Try.prog K
              go_simp
              exact hK _ _ (hJ.quiet (by decide) (by decide)) trivial rfl
            refine ⟨?_, ?_⟩
            · -- 10: Go.Op.fieldAddr 41 (Go.Operand.tmp 83) 2
              intro listed a w1 hJ hls hl0 hlw hlc hF hU hsz
              have e83 : a.eval (.tmp 83) = _ := hF 9 _ _ rfl rfl (by kernel_rfl)
              rw [if_pos (by rfl)]
              intro K hK
              clear hF hU hsz
              obtain ⟨q1, q2, q3⟩ := eval_rest a
              generalize hρ : a.eval = ρ
              rw [hρ] at q1 q2 q3 e83
              clear hρ
              have u1 := OpUp_value Try.prog K
              have u2 := OpUp_enter Try.prog K
              go_simp
              exact hK _ _ (hJ.quiet (by decide) (by decide)) trivial rfl
            refine ⟨?_, ?_⟩
            · -- 11: Go.Op.load 22 (Go.Operand.tmp 84)
              intro listed a w1 hJ hls hl0 hlw hlc hF hU hsz
              have e84 : a.eval (.tmp 84) = _ := hF 10 _ _ rfl rfl (by kernel_rfl)
              rw [if_pos (by rfl)]
              intro K hK
              clear hF hU hsz
              obtain ⟨k0, k1, k2, _⟩ := HAC.out w1 hJ.hb
              obtain ⟨q1, q2, q3⟩ := eval_rest a
              generalize hρ : a.eval = ρ
              rw [hρ] at q1 q2 q3 e84
              clear hρ
              have u1 := OpUp_value Try.prog K
              have u2 := OpUp_enter Try.prog K
              go_simp
              exact hK _ _ (hJ.quiet (by decide) (by decide)) trivial rfl
            refine ⟨?_, ?_⟩
            · -- 12: Go.Op.call { callee := Go.Callee.value (Go.Operand.func 27), args := #[Go.Operan
              intro listed a w1 hJ hls hl0 hlw hlc hF hU hsz
              have e74 : a.eval (.tmp 74) = _ := hF 0 _ _ rfl rfl (by kernel_rfl)
              have e80 : a.eval (.tmp 80) = _ := hF 6 _ _ rfl rfl (by kernel_rfl)
              have e85 : a.eval (.tmp 85) = _ := hF 11 _ _ rfl rfl (by kernel_rfl)
              rw [if_pos (by rfl)]
              intro K hK
              clear hF hU hsz
              obtain ⟨q1, q2, q3⟩ := eval_rest a
              generalize hρ : a.eval = ρ
              rw [hρ] at q1 q2 q3 e74 e80 e85
              clear hρ
              have u1 := OpUp_value Try.prog K
              have u2 := OpUp_enter Try.prog K
              go_simp
              have hl0 : listed.getD 12 false = false := hl0
              have hl25 := hlc 25 _ rfl (by kernel_rfl)
              rw [hl0, hl25] at hJ
              obtain ⟨o1, p1, hT⟩ := hJ
              refine (mStore_any m o1 G ma (at_ % 16) v w1 hT.l (room_mono HI0.out.ra (by omega)) (HI0.out.ca.fit (by omega))).mono ?_
              rintro e w2 ⟨rfl, o2, hm2, hfr⟩
              rw [HA2.out] at hm2 ⊢
              refine ⟨_, rfl, hK _ _ ?_ trivial rfl⟩
              show TwJ _ _ _ _ _ _ _ _ _ ((listed.setIfInBounds 12 true).getD 12 false) ((listed.setIfInBounds 12 true).getD 25 false) w2
              rw [getD_set_eq (i := 12) hls, getD_set_ne (i := 12) (j := 25) (by decide), hl25]
              exact ⟨o2, p1, hT.fst hm2 hfr⟩
            refine ⟨?_, ?_⟩
            · -- 13: Go.Op.move (Go.Operand.tmp 9)
              intro listed a w1 hJ hls hl0 hlw hlc hF hU hsz
              have e9 : a.eval (.tmp 9) = _ := hU 9 (by kernel_rfl)
              rw [if_pos (by rfl)]
              intro K hK
              clear hF hU hsz
              obtain ⟨q1, q2, q3⟩ := eval_rest a
              generalize hρ : a.eval = ρ
              rw [hρ] at q1 q2 q3 e9
              clear hρ
              have u1 := OpUp_value Try.prog K
              have u2 := OpUp_enter Try.prog K
              go_simp
              exact hK _ _ (hJ.quiet (by decide) (by decide)) trivial rfl
            refine ⟨?_, ?_⟩
            · -- 14: Go.Op.move (Go.Operand.tmp 0)
              intro listed a w1 hJ hls hl0 hlw hlc hF hU hsz
              have e0 : a.eval (.tmp 0) = _ := hU 0 (by kernel_rfl)
              rw [if_pos (by rfl)]
              intro K hK
              clear hF hU hsz
              obtain ⟨q1, q2, q3⟩ := eval_rest a
              generalize hρ : a.eval = ρ
              rw [hρ] at q1 q2 q3 e0
              clear hρ
              have u1 := OpUp_value Try.prog K
              have u2 := OpUp_enter Try.prog K
              go_simp
              exact hK _ _ (hJ.quiet (by decide) (by decide)) trivial rfl
            refine ⟨?_, ?_⟩
            · -- 15: Go.Op.move (Go.Operand.tmp 11)
              intro listed a w1 hJ hls hl0 hlw hlc hF hU hsz
              have e11 : a.eval (.tmp 11) = _ := hU 11 (by kernel_rfl)
              rw [if_pos (by rfl)]
              intro K hK
              clear hF hU hsz
              obtain ⟨q1, q2, q3⟩ := eval_rest a
              generalize hρ : a.eval = ρ
              rw [hρ] at q1 q2 q3 e11
              clear hρ
              have u1 := OpUp_value Try.prog K
              have u2 := OpUp_enter Try.prog K
              go_simp
              exact hK _ _ (hJ.quiet (by decide) (by decide)) trivial rfl
            refine ⟨?_, ?_⟩
            · -- 16: Go.Op.indexAddr 38 (Go.Operand.tmp 88) (Go.Operand.tmp 89)
              intro listed a w1 hJ hls hl0 hlw hlc hF hU hsz
              have e88 : a.eval (.tmp 88) = _ := hF 14 _ _ rfl rfl (by kernel_rfl)
              have e89 : a.eval (.tmp 89) = _ := hF 15 _ _ rfl rfl (by kernel_rfl)
              rw [if_pos (by rfl)]
              intro K hK
              clear hF hU hsz
              obtain ⟨q1, q2, q3⟩ := eval_rest a
              generalize hρ : a.eval = ρ
              rw [hρ] at q1 q2 q3 e88 e89
              clear hρ
              have u1 := OpUp_value Try.prog K
              have u2 := OpUp_enter Try.prog K
              go_simp
              exact hK _ _ (hJ.quiet (by decide) (by decide)) trivial rfl
            refine ⟨?_, ?_⟩
            · -- 17: Go.Op.fieldAddr 41 (Go.Operand.tmp 90) 1
              intro listed a w1 hJ hls hl0 hlw hlc hF hU hsz
              have e90 : a.eval (.tmp 90) = _ := hF 16 _ _ rfl rfl (by kernel_rfl)
              rw [if_pos (by rfl)]
              intro K hK
              clear hF hU hsz
              obtain ⟨q1, q2, q3⟩ := eval_rest a
              generalize hρ : a.eval = ρ
              rw [hρ] at q1 q2 q3 e90
              clear hρ
              have u1 := OpUp_value Try.prog K
              have u2 := OpUp_enter Try.prog K
              go_simp
              exact hK _ _ (hJ.quiet (by decide) (by decide)) trivial rfl
            refine ⟨?_, ?_⟩
            · -- 18: Go.Op.load 3 (Go.Operand.tmp 91)
              intro listed a w1 hJ hls hl0 hlw hlc hF hU hsz
              have e91 : a.eval (.tmp 91) = _ := hF 17 _ _ rfl rfl (by kernel_rfl)
              rw [if_pos (by rfl)]
              intro K hK
              clear hF hU hsz
              obtain ⟨k0, k1, k2, _⟩ := HAC.out w1 hJ.hb
              obtain ⟨q1, q2, q3⟩ := eval_rest a
              generalize hρ : a.eval = ρ
              rw [hρ] at q1 q2 q3 e91
              clear hρ
              have u1 := OpUp_value Try.prog K
              have u2 := OpUp_enter Try.prog K
              go_simp
              exact hK _ _ (hJ.quiet (by decide) (by decide)) trivial rfl
            refine ⟨?_, ?_⟩
            · -- 19: Go.Op.binOp Go.BinOp.and 3 (Go.Operand.tmp 92) (Go.Operand.const (Go.Value.int G
              intro listed a w1 hJ hls hl0 hlw hlc hF hU hsz
              have e92 : a.eval (.tmp 92) = _ := hF 18 _ _ rfl rfl (by kernel_rfl)
              rw [if_pos (by rfl)]
              intro K hK
              clear hF hU hsz
              obtain ⟨q1, q2, q3⟩ := eval_rest a
              generalize hρ : a.eval = ρ
              rw [hρ] at q1 q2 q3 e92
              clear hρ
              have u1 := OpUp_value Try.prog K
              have u2 := OpUp_enter Try.prog K
              go_simp
              exact hK _ _ (hJ.quiet (by decide) (by decide)) trivial rfl
            refine ⟨?_, ?_⟩
            · -- 20: Go.Op.move (Go.Operand.tmp 0)
              intro listed a w1 hJ hls hl0 hlw hlc hF hU hsz
              have e0 : a.eval (.tmp 0) = _ := hU 0 (by kernel_rfl)
              rw [if_pos (by rfl)]
              intro K hK
              clear hF hU hsz
              obtain ⟨q1, q2, q3⟩ := eval_rest a
              generalize hρ : a.eval = ρ
              rw [hρ] at q1 q2 q3 e0
              clear hρ
              have u1 := OpUp_value Try.prog K
              have u2 := OpUp_enter Try.prog K
              go_simp
              exact hK _ _ (hJ.quiet (by decide) (by decide)) trivial rfl
            refine ⟨?_, ?_⟩
            · -- 21: Go.Op.move (Go.Operand.tmp 11)
              intro listed a w1 hJ hls hl0 hlw hlc hF hU hsz
              have e11 : a.eval (.tmp 11) = _ := hU 11 (by kernel_rfl)
              rw [if_pos (by rfl)]
              intro K hK
              clear hF hU hsz
              obtain ⟨q1, q2, q3⟩ := eval_rest a
              generalize hρ : a.eval = ρ
              rw [hρ] at q1 q2 q3 e11
              clear hρ
              have u1 := OpUp_value Try.prog K
              have u2 := OpUp_enter Try.prog K
              go_simp
              exact hK _ _ (hJ.quiet (by decide) (by decide)) trivial rfl
            refine ⟨?_, ?_⟩
            · -- 22: Go.Op.indexAddr 38 (Go.Operand.tmp 94) (Go.Operand.tmp 95)
              intro listed a w1 hJ hls hl0 hlw hlc hF hU hsz
              have e94 : a.eval (.tmp 94) = _ := hF 20 _ _ rfl rfl (by kernel_rfl)
              have e95 : a.eval (.tmp 95) = _ := hF 21 _ _ rfl rfl (by kernel_rfl)
              rw [if_pos (by rfl)]
              intro K hK
              clear hF hU hsz
              obtain ⟨q1, q2, q3⟩ := eval_rest a
              generalize hρ : a.eval = ρ
              rw [hρ] at q1 q2 q3 e94 e95
              clear hρ
              have u1 := OpUp_value Try.prog K
              have u2 := OpUp_enter Try.prog K
              go_simp
              exact hK _ _ (hJ.quiet (by decide) (by decide)) trivial rfl
            refine ⟨?_, ?_⟩
            · -- 23: Go.Op.fieldAddr 41 (Go.Operand.tmp 96) 2
              intro listed a w1 hJ hls hl0 hlw hlc hF hU hsz
              have e96 : a.eval (.tmp 96) = _ := hF 22 _ _ rfl rfl (by kernel_rfl)
              rw [if_pos (by rfl)]
              intro K hK
              clear hF hU hsz
              obtain ⟨q1, q2, q3⟩ := eval_rest a
              generalize hρ : a.eval = ρ
              rw [hρ] at q1 q2 q3 e96
              clear hρ
              have u1 := OpUp_value Try.prog K
              have u2 := OpUp_enter Try.prog K
              go_simp
              exact hK _ _ (hJ.quiet (by decide) (by decide)) trivial rfl
            refine ⟨?_, ?_⟩
            · -- 24: Go.Op.load 22 (Go.Operand.tmp 97)
              intro listed a w1 hJ hls hl0 hlw hlc hF hU hsz
              have e97 : a.eval (.tmp 97) = _ := hF 23 _ _ rfl rfl (by kernel_rfl)
              rw [if_pos (by rfl)]
              intro K hK
              clear hF hU hsz
              obtain ⟨k0, k1, k2, _⟩ := HAC.out w1 hJ.hb
              obtain ⟨q1, q2, q3⟩ := eval_rest a
              generalize hρ : a.eval = ρ
              rw [hρ] at q1 q2 q3 e97
              clear hρ
              have u1 := OpUp_value Try.prog K
              have u2 := OpUp_enter Try.prog K
              go_simp
              exact hK _ _ (hJ.quiet (by decide) (by decide)) trivial rfl
            refine ⟨?_, ?_⟩
            · -- 25: Go.Op.call { callee := Go.Callee.value (Go.Operand.func 27), args := #[Go.Operan
              intro listed a w1 hJ hls hl0 hlw hlc hF hU hsz
              have e87 : a.eval (.tmp 87) = _ := hF 13 _ _ rfl rfl (by kernel_rfl)
              have e93 : a.eval (.tmp 93) = _ := hF 19 _ _ rfl rfl (by kernel_rfl)
              have e98 : a.eval (.tmp 98) = _ := hF 24 _ _ rfl rfl (by kernel_rfl)
              rw [if_pos (by rfl)]
              intro K hK
              clear hF hU hsz
              obtain ⟨q1, q2, q3⟩ := eval_rest a
              generalize hρ : a.eval = ρ
              rw [hρ] at q1 q2 q3 e87 e93 e98
              clear hρ
              have u1 := OpUp_value Try.prog K
              have u2 := OpUp_enter Try.prog K
              go_simp
              have hl0 : listed.getD 25 false = false := hl0
              have hl12 := hlw 12 (by kernel_rfl)
              rw [hl0, hl12] at hJ
              obtain ⟨o1, p1, hT⟩ := hJ
              refine (mStore_any n p1 H mb (at_ % 16) v w1 hT.r (room_mono HI0.out.rm (by omega)) (HI0.out.cb.fit (by omega))).mono ?_
              rintro e w2 ⟨rfl, o2, hm2, hfr⟩
              rw [HB2.out] at hm2 ⊢
              refine ⟨_, rfl, hK _ _ ?_ trivial rfl⟩
              show TwJ _ _ _ _ _ _ _ _ _ ((listed.setIfInBounds 25 true).getD 12 false) ((listed.setIfInBounds 25 true).getD 25 false) w2
              rw [getD_set_eq (i := 25) hls, getD_set_ne (i := 25) (j := 12) (by decide), hl12]
              exact ⟨o1, o2, hT.snd hm2 hfr⟩
            exact trivial
          case hend =>
            intro vs0 w1 listed hJ hl1 hl2 hH0
            obtain ⟨vs1, rfl, hH1⟩ := hH0.eq_
            obtain ⟨vs2, rfl, hH2⟩ := hH1.eq_
            obtain ⟨vs3, rfl, hH3⟩ := hH2.eq_
            obtain ⟨vs4, rfl, hH4⟩ := hH3.eq_
            obtain ⟨vs5, rfl, hH5⟩ := hH4.eq_
            obtain ⟨vs6, rfl, hH6⟩ := hH5.eq_
            obtain ⟨vs7, rfl, hH7⟩ := hH6.eq_
            obtain ⟨vs8, rfl, hH8⟩ := hH7.eq_
            obtain ⟨vs9, rfl, hH9⟩ := hH8.eq_
            obtain ⟨vs10, rfl, hH10⟩ := hH9.eq_
            obtain ⟨vs11, rfl, hH11⟩ := hH10.eq_
            obtain ⟨vs12, rfl, hH12⟩ := hH11.eq_
            obtain ⟨vs13, rfl, hH13⟩ := hH12.eq_
            obtain ⟨vs14, rfl, hH14⟩ := hH13.eq_
            obtain ⟨vs15, rfl, hH15⟩ := hH14.eq_
            obtain ⟨vs16, rfl, hH16⟩ := hH15.eq_
            obtain ⟨vs17, rfl, hH17⟩ := hH16.eq_
            obtain ⟨vs18, rfl, hH18⟩ := hH17.eq_
            obtain ⟨vs19, rfl, hH19⟩ := hH18.eq_
            obtain ⟨vs20, rfl, hH20⟩ := hH19.eq_
            obtain ⟨vs21, rfl, hH21⟩ := hH20.eq_
            obtain ⟨vs22, rfl, hH22⟩ := hH21.eq_
            obtain ⟨vs23, rfl, hH23⟩ := hH22.eq_
            obtain ⟨vs24, rfl, hH24⟩ := hH23.eq_
            obtain ⟨vs25, rfl, hH25⟩ := hH24.eq_
            obtain ⟨vs26, rfl, hH26⟩ := hH25.eq_
            obtain rfl := hH26.nil
            clear hH0 hH1 hH2 hH3 hH4 hH5 hH6 hH7 hH8 hH9 hH10 hH11 hH12 hH13 hH14 hH15 hH16 hH17 hH18 hH19 hH20 hH21 hH22 hH23 hH24 hH25 hH26
            simp only [List.take_succ_cons, List.take_zero, putAll, Act.put, List.setIfInBounds_toArray, List.set_cons_zero, List.set_cons_succ]
            rw [hl1 12 (by decide), hl1 25 (by decide)] at hJ
            obtain ⟨o3, p3, hT⟩ := hJ
            have HT := Lib.hid hT
            clear hT hl1 hl2
            go_wp2_with fail
            have KO1 := Lib.hid (mOff_any HT.out.l)
            have KO2 := Lib.hid (mOff_any HT.out.r)
            rw [ho1] at KO1
            rw [ho2] at KO2
            clear ho1 ho2
            refine KO1.out.mono ?_
            rintro e w6 ⟨rfl, rfl⟩
            go_wp2_with fail
            refine KO2.out.mono ?_
            rintro e w6 ⟨rfl, rfl⟩
            go_wp2
            go_roundw
            case rel => exact ⟨k + 1, by omega, by go_num, _, _, _, _, HT.out, HI.out⟩
            case measure => simp [intOf]; omega
        by_cases h1 : op = 1
        · subst h1
          have hr1 : (ma.flush [at_ % 2]).2 = 0 := hr1
          have hr2 : (mb.flush [at_ % 2]).2 = 0 := hr2
          obtain ⟨a2, ha2⟩ : ∃ q, (ma.flush [at_ % 2]) = (q, 0) := ⟨_, Prod.ext rfl hr1⟩
          obtain ⟨b2, hb2⟩ : ∃ q, (mb.flush [at_ % 2]) = (q, 0) := ⟨_, Prod.ext rfl hr2⟩
          have hi : FuI ks c (k + 1) (ma.flush [at_ % 2]).1 (mb.flush [at_ % 2]).1 := hi
          rw [ha2, hb2] at hi
          simp only at hi
          have HA2 := Lib.hid ha2
          have HB2 := Lib.hid hb2
          clear ha2 hb2 hr1 hr2
          obtain ⟨ho1, _, _, ho2, _⟩ := hi.run (by omega)
          have HI0 := Lib.hid HI.out
          have HI := Lib.hid hi
          clear hi

          clear h0
          go_wp2_with fail
          apply wp_region_ja (fun _ _ => True) (fun _ _ _ _ _ => trivial) (fun _ => trivial) (FlJ w m G ma a2 n H mb b2 (at_ % 2)) 144 18 (Eqs _ :: Eqs _ :: Eqs _ :: Eqs _ :: Eqs _ :: Eqs _ :: Eqs _ :: SlQ :: Eqs _ :: Eqs _ :: Eqs _ :: Eqs _ :: Eqs _ :: Eqs _ :: Eqs _ :: Eqs _ :: SlQ :: Eqs _ :: []) (by kernel_rfl) (by rfl) rfl (stab_cons (stab_eq _) (stab_cons (stab_eq _) (stab_cons (stab_eq _) (stab_cons (stab_eq _) (stab_cons (stab_eq _) (stab_cons (stab_eq _) (stab_cons (stab_eq _) (stab_cons stab_slq (stab_cons (stab_eq _) (stab_cons (stab_eq _) (stab_cons (stab_eq _) (stab_cons (stab_eq _) (stab_cons (stab_eq _) (stab_cons (stab_eq _) (stab_cons (stab_eq _) (stab_cons (stab_eq _) (stab_cons stab_slq (stab_cons (stab_eq _) stab_nil)))))))))))))))))) (by kernel_rfl) (by kernel_rfl) (by kernel_rfl) (by kernel_rfl)
          case h0 =>
            exact ⟨_, _, HT.out.below (Stood.cur (Stood.refl _)), fun h => by simp at h, fun h => by simp at h⟩
          case hstep =>
            simp only [List.take_succ_cons, List.take_zero]
            refine ⟨?_, ?_⟩
            · -- 0: Go.Op.move (Go.Operand.tmp 7)
              intro listed a w1 hJ hls hl0 hlw hlc hF hU hsz
              have e7 : a.eval (.tmp 7) = _ := hU 7 (by kernel_rfl)
              rw [if_pos (by rfl)]
              intro K hK
              clear hF hU hsz
              obtain ⟨q1, q2, q3⟩ := eval_rest a
              generalize hρ : a.eval = ρ
              rw [hρ] at q1 q2 q3 e7
              clear hρ
              have u1 := OpUp_value Try.prog K
              have u2 := OpUp_enter Try.prog K
              go_simp
              exact hK _ _ ((hJ.quiet (by decide) (by decide) _)) trivial rfl
            refine ⟨?_, ?_⟩
            · -- 1: Go.Op.move (Go.Operand.tmp 0)
              intro listed a w1 hJ hls hl0 hlw hlc hF hU hsz
              have e0 : a.eval (.tmp 0) = _ := hU 0 (by kernel_rfl)
              rw [if_pos (by rfl)]
              intro K hK
              clear hF hU hsz
              obtain ⟨q1, q2, q3⟩ := eval_rest a
              generalize hρ : a.eval = ρ
              rw [hρ] at q1 q2 q3 e0
              clear hρ
              have u1 := OpUp_value Try.prog K
              have u2 := OpUp_enter Try.prog K
              go_simp
              exact hK _ _ ((hJ.quiet (by decide) (by decide) _)) trivial rfl
            refine ⟨?_, ?_⟩
            · -- 2: Go.Op.move (Go.Operand.tmp 11)
              intro listed a w1 hJ hls hl0 hlw hlc hF hU hsz
              have e11 : a.eval (.tmp 11) = _ := hU 11 (by kernel_rfl)
              rw [if_pos (by rfl)]
              intro K hK
              clear hF hU hsz
              obtain ⟨q1, q2, q3⟩ := eval_rest a
              generalize hρ : a.eval = ρ
              rw [hρ] at q1 q2 q3 e11
              clear hρ
              have u1 := OpUp_value Try.prog K
              have u2 := OpUp_enter Try.prog K
              go_simp
              exact hK _ _ ((hJ.quiet (by decide) (by decide) _)) trivial rfl
            refine ⟨?_, ?_⟩
            · -- 3: Go.Op.indexAddr 38 (Go.Operand.tmp 103) (Go.Operand.tmp 104)
              intro listed a w1 hJ hls hl0 hlw hlc hF hU hsz
              have e103 : a.eval (.tmp 103) = _ := hF 1 _ _ rfl rfl (by kernel_rfl)
              have e104 : a.eval (.tmp 104) = _ := hF 2 _ _ rfl rfl (by kernel_rfl)
              rw [if_pos (by rfl)]
              intro K hK
              clear hF hU hsz
              obtain ⟨q1, q2, q3⟩ := eval_rest a
              generalize hρ : a.eval = ρ
              rw [hρ] at q1 q2 q3 e103 e104
              clear hρ
              have u1 := OpUp_value Try.prog K
              have u2 := OpUp_enter Try.prog K
              go_simp
              exact hK _ _ ((hJ.quiet (by decide) (by decide) _)) trivial rfl
            refine ⟨?_, ?_⟩
            · -- 4: Go.Op.fieldAddr 41 (Go.Operand.tmp 105) 1
              intro listed a w1 hJ hls hl0 hlw hlc hF hU hsz
              have e105 : a.eval (.tmp 105) = _ := hF 3 _ _ rfl rfl (by kernel_rfl)
              rw [if_pos (by rfl)]
              intro K hK
              clear hF hU hsz
              obtain ⟨q1, q2, q3⟩ := eval_rest a
              generalize hρ : a.eval = ρ
              rw [hρ] at q1 q2 q3 e105
              clear hρ
              have u1 := OpUp_value Try.prog K
              have u2 := OpUp_enter Try.prog K
              go_simp
              exact hK _ _ ((hJ.quiet (by decide) (by decide) _)) trivial rfl
            refine ⟨?_, ?_⟩
            · -- 5: Go.Op.load 3 (Go.Operand.tmp 106)
              intro listed a w1 hJ hls hl0 hlw hlc hF hU hsz
              have e106 : a.eval (.tmp 106) = _ := hF 4 _ _ rfl rfl (by kernel_rfl)
              rw [if_pos (by rfl)]
              intro K hK
              clear hF hU hsz
              obtain ⟨k0, k1, k2, _⟩ := HAC.out w1 hJ.hb
              obtain ⟨q1, q2, q3⟩ := eval_rest a
              generalize hρ : a.eval = ρ
              rw [hρ] at q1 q2 q3 e106
              clear hρ
              have u1 := OpUp_value Try.prog K
              have u2 := OpUp_enter Try.prog K
              go_simp
              exact hK _ _ ((hJ.quiet (by decide) (by decide) _)) trivial rfl
            refine ⟨?_, ?_⟩
            · -- 6: Go.Op.binOp Go.BinOp.and 3 (Go.Operand.tmp 107) (Go.Operand.const (Go.Value.int 
              intro listed a w1 hJ hls hl0 hlw hlc hF hU hsz
              have e107 : a.eval (.tmp 107) = _ := hF 5 _ _ rfl rfl (by kernel_rfl)
              rw [if_pos (by rfl)]
              intro K hK
              clear hF hU hsz
              obtain ⟨q1, q2, q3⟩ := eval_rest a
              generalize hρ : a.eval = ρ
              rw [hρ] at q1 q2 q3 e107
              clear hρ
              have u1 := OpUp_value Try.prog K
              have u2 := OpUp_enter Try.prog K
              go_simp
              exact hK _ _ ((hJ.quiet (by decide) (by decide) _)) trivial rfl
            refine ⟨?_, ?_⟩
            · -- 7: Go.Op.buildSlice 39 1 #[(0, Go.Operand.tmp 108)]
              intro listed a w1 hJ hls hl0 hlw hlc hF hU hsz
              have e108 : a.eval (.tmp 108) = _ := hF 6 _ _ rfl rfl (by kernel_rfl)
              rw [if_pos (by rfl)]
              intro K hK
              clear hF hU
              have hsz9 : 109 < a.tmps.size := by rw [hsz]; simp only [List.size_toArray, List.length_cons, List.length_nil]; omega
              obtain ⟨q1, q2, q3⟩ := eval_rest a
              generalize hρ : a.eval = ρ
              rw [hρ] at q1 q2 q3 e108
              clear hρ
              have u1 := OpUp_value Try.prog K
              have u2 := OpUp_enter Try.prog K
              go_simp
              have hl0 : listed.getD 7 false = false := hl0
              obtain ⟨o1, p1, hT, hB1, hB2⟩ := hJ
              refine hK _ _ ⟨o1, p1, ?_, ?_, ?_⟩ trivial ⟨_, _, rfl, trivial⟩
              · rw [getD_set_ne (i := 7) (j := 8) (by decide), getD_set_ne (i := 7) (j := 17) (by decide)]; exact hT.below (Below.alloc (Below.refl _ _) (Nat.le_refl _) _)
              · intro _; exact ⟨w1.heap.size, by simp [Act.put, Array.getD_eq_getD_getElem?, hsz9], heap_alloc_new w1 _, hT.l.fresh _ (Nat.le_refl _), hT.r.fresh _ (Nat.le_refl _)⟩
              · intro h9; rw [getD_set_ne (i := 7) (j := 16) (by decide)] at h9; exact ((hB2 h9).below ((Below.refl _ _).alloc (Nat.le_refl _) _)).put (by decide) _
            refine ⟨?_, ?_⟩
            · -- 8: Go.Op.call { callee := Go.Callee.value (Go.Operand.func 28), args := #[Go.Operan
              intro listed a w1 hJ hls hl0 hlw hlc hF hU hsz
              have e102 : a.eval (.tmp 102) = _ := hF 0 _ _ rfl rfl (by kernel_rfl)
              have e109 := hF 7 _ _ rfl rfl (by kernel_rfl)
              obtain ⟨B109, d109, e109, r109⟩ := e109
              have e109 : a.eval (.tmp 109) = _ := e109
              rw [if_pos (by rfl)]
              intro K hK
              clear hF hU hsz
              have h9_ := e109
              rw [Act.eval_getD] at h9_
              obtain ⟨q1, q2, q3⟩ := eval_rest a
              generalize hρ : a.eval = ρ
              rw [hρ] at q1 q2 q3 e102 e109
              clear hρ
              have u1 := OpUp_value Try.prog K
              have u2 := OpUp_enter Try.prog K
              go_simp
              have hl0 : listed.getD 8 false = false := hl0
              have hlo := hlc 17 _ rfl (by kernel_rfl)
              have hlb := hlw 7 (by kernel_rfl)
              obtain ⟨o1, p1, hT, hB1, hB2⟩ := hJ
              rw [hl0, hlo] at hT
              obtain ⟨q9, hq1, hq2, hq3, hq4⟩ := hB1 hlb
              rw [hq1] at h9_
              injection h9_ with h91; injection h91 with h92; injection h92 with h93 h94
              subst h93; subst h94
              have hT0 := hT
              simp only [if_true, if_false, Bool.false_eq_true] at hT
              refine (mFlush_any m o1 G ma [at_ % 2] (some ⟨_, 0, none⟩) 1 w1 hT.l (room_mono HI0.out.ra (by omega)) (HI0.out.ca.fit (by omega)) (fun W9 own9 hf9 => ?_) (by simp)).mono ?_
              · obtain ⟨h9, _⟩ := hf9.heap hq2 hq3
                exact .inr ⟨_, 0, rfl, fun j hj => by
                  obtain rfl : j = 0 := by simpa using hj
                  exact Lib.cell_of_heap h9 0⟩
              rintro e w2 ⟨rfl, o2, hm2, hfr⟩
              rw [HA2.out] at hm2 ⊢
              refine ⟨_, rfl, hK _ _ ?_ trivial rfl⟩
              refine ⟨o2, p1, ?_, fun h9 => ?_, fun h9 => ?_⟩
              · rw [getD_set_eq (i := 8) hls, getD_set_ne (i := 8) (j := 17) (by decide), hlo]; exact hT.fst hm2 hfr
              · rw [getD_set_ne (i := 8) (j := 7) (by decide)] at h9; exact ((hB1 h9).fst hfr).put (by decide) _
              · rw [getD_set_ne (i := 8) (j := 16) (by decide)] at h9; exact ((hB2 h9).fst hfr).put (by decide) _
            refine ⟨?_, ?_⟩
            · -- 9: Go.Op.move (Go.Operand.tmp 9)
              intro listed a w1 hJ hls hl0 hlw hlc hF hU hsz
              have e9 : a.eval (.tmp 9) = _ := hU 9 (by kernel_rfl)
              rw [if_pos (by rfl)]
              intro K hK
              clear hF hU hsz
              obtain ⟨q1, q2, q3⟩ := eval_rest a
              generalize hρ : a.eval = ρ
              rw [hρ] at q1 q2 q3 e9
              clear hρ
              have u1 := OpUp_value Try.prog K
              have u2 := OpUp_enter Try.prog K
              go_simp
              exact hK _ _ ((hJ.quiet (by decide) (by decide) _)) trivial rfl
            refine ⟨?_, ?_⟩
            · -- 10: Go.Op.move (Go.Operand.tmp 0)
              intro listed a w1 hJ hls hl0 hlw hlc hF hU hsz
              have e0 : a.eval (.tmp 0) = _ := hU 0 (by kernel_rfl)
              rw [if_pos (by rfl)]
              intro K hK
              clear hF hU hsz
              obtain ⟨q1, q2, q3⟩ := eval_rest a
              generalize hρ : a.eval = ρ
              rw [hρ] at q1 q2 q3 e0
              clear hρ
              have u1 := OpUp_value Try.prog K
              have u2 := OpUp_enter Try.prog K
              go_simp
              exact hK _ _ ((hJ.quiet (by decide) (by decide) _)) trivial rfl
            refine ⟨?_, ?_⟩
            · -- 11: Go.Op.move (Go.Operand.tmp 11)
              intro listed a w1 hJ hls hl0 hlw hlc hF hU hsz
              have e11 : a.eval (.tmp 11) = _ := hU 11 (by kernel_rfl)
              rw [if_pos (by rfl)]
              intro K hK
              clear hF hU hsz
              obtain ⟨q1, q2, q3⟩ := eval_rest a
              generalize hρ : a.eval = ρ
              rw [hρ] at q1 q2 q3 e11
              clear hρ
              have u1 := OpUp_value Try.prog K
              have u2 := OpUp_enter Try.prog K
              go_simp
              exact hK _ _ ((hJ.quiet (by decide) (by decide) _)) trivial rfl
            refine ⟨?_, ?_⟩
            · -- 12: Go.Op.indexAddr 38 (Go.Operand.tmp 112) (Go.Operand.tmp 113)
              intro listed a w1 hJ hls hl0 hlw hlc hF hU hsz
              have e112 : a.eval (.tmp 112) = _ := hF 10 _ _ rfl rfl (by kernel_rfl)
              have e113 : a.eval (.tmp 113) = _ := hF 11 _ _ rfl rfl (by kernel_rfl)
              rw [if_pos (by rfl)]
              intro K hK
              clear hF hU hsz
              obtain ⟨q1, q2, q3⟩ := eval_rest a
              generalize hρ : a.eval = ρ
              rw [hρ] at q1 q2 q3 e112 e113
              clear hρ
              have u1 := OpUp_value Try.prog K
              have u2 := OpUp_enter Try.prog K
              go_simp
              exact hK _ _ ((hJ.quiet (by decide) (by decide) _)) trivial rfl
            refine ⟨?_, ?_⟩
            · -- 13: Go.Op.fieldAddr 41 (Go.Operand.tmp 114) 1
              intro listed a w1 hJ hls hl0 hlw hlc hF hU hsz
              have e114 : a.eval (.tmp 114) = _ := hF 12 _ _ rfl rfl (by kernel_rfl)
              rw [if_pos (by rfl)]
              intro K hK
              clear hF hU hsz
              obtain ⟨q1, q2, q3⟩ := eval_rest a
              generalize hρ : a.eval = ρ
              rw [hρ] at q1 q2 q3 e114
              clear hρ
              have u1 := OpUp_value Try.prog K
              have u2 := OpUp_enter Try.prog K
              go_simp
              exact hK _ _ ((hJ.quiet (by decide) (by decide) _)) trivial rfl
            refine ⟨?_, ?_⟩
            · -- 14: Go.Op.load 3 (Go.Operand.tmp 115)
              intro listed a w1 hJ hls hl0 hlw hlc hF hU hsz
              have e115 : a.eval (.tmp 115) = _ := hF 13 _ _ rfl rfl (by kernel_rfl)
              rw [if_pos (by rfl)]
              intro K hK
              clear hF hU hsz
              obtain ⟨k0, k1, k2, _⟩ := HAC.out w1 hJ.hb
              obtain ⟨q1, q2, q3⟩ := eval_rest a
              generalize hρ : a.eval = ρ
              rw [hρ] at q1 q2 q3 e115
              clear hρ
              have u1 := OpUp_value Try.prog K
              have u2 := OpUp_enter Try.prog K
              go_simp
              exact hK _ _ ((hJ.quiet (by decide) (by decide) _)) trivial rfl
            refine ⟨?_, ?_⟩
            · -- 15: Go.Op.binOp Go.BinOp.and 3 (Go.Operand.tmp 116) (Go.Operand.const (Go.Value.int 
              intro listed a w1 hJ hls hl0 hlw hlc hF hU hsz
              have e116 : a.eval (.tmp 116) = _ := hF 14 _ _ rfl rfl (by kernel_rfl)
              rw [if_pos (by rfl)]
              intro K hK
              clear hF hU hsz
              obtain ⟨q1, q2, q3⟩ := eval_rest a
              generalize hρ : a.eval = ρ
              rw [hρ] at q1 q2 q3 e116
              clear hρ
              have u1 := OpUp_value Try.prog K
              have u2 := OpUp_enter Try.prog K
              go_simp
              exact hK _ _ ((hJ.quiet (by decide) (by decide) _)) trivial rfl
            refine ⟨?_, ?_⟩
            · -- 16: Go.Op.buildSlice 39 1 #[(0, Go.Operand.tmp 117)]
              intro listed a w1 hJ hls hl0 hlw hlc hF hU hsz
              have e117 : a.eval (.tmp 117) = _ := hF 15 _ _ rfl rfl (by kernel_rfl)
              rw [if_pos (by rfl)]
              intro K hK
              clear hF hU
              have hsz9 : 118 < a.tmps.size := by rw [hsz]; simp only [List.size_toArray, List.length_cons, List.length_nil]; omega
              obtain ⟨q1, q2, q3⟩ := eval_rest a
              generalize hρ : a.eval = ρ
              rw [hρ] at q1 q2 q3 e117
              clear hρ
              have u1 := OpUp_value Try.prog K
              have u2 := OpUp_enter Try.prog K
              go_simp
              have hl0 : listed.getD 16 false = false := hl0
              obtain ⟨o1, p1, hT, hB1, hB2⟩ := hJ
              refine hK _ _ ⟨o1, p1, ?_, ?_, ?_⟩ trivial ⟨_, _, rfl, trivial⟩
              · rw [getD_set_ne (i := 16) (j := 8) (by decide), getD_set_ne (i := 16) (j := 17) (by decide)]; exact hT.below (Below.alloc (Below.refl _ _) (Nat.le_refl _) _)
              · intro h9; rw [getD_set_ne (i := 16) (j := 7) (by decide)] at h9; exact ((hB1 h9).below ((Below.refl _ _).alloc (Nat.le_refl _) _)).put (by decide) _
              · intro _; exact ⟨w1.heap.size, by simp [Act.put, Array.getD_eq_getD_getElem?, hsz9], heap_alloc_new w1 _, hT.l.fresh _ (Nat.le_refl _), hT.r.fresh _ (Nat.le_refl _)⟩
            refine ⟨?_, ?_⟩
            · -- 17: Go.Op.call { callee := Go.Callee.value (Go.Operand.func 28), args := #[Go.Operan
              intro listed a w1 hJ hls hl0 hlw hlc hF hU hsz
              have e111 : a.eval (.tmp 111) = _ := hF 9 _ _ rfl rfl (by kernel_rfl)
              have e118 := hF 16 _ _ rfl rfl (by kernel_rfl)
              obtain ⟨B118, d118, e118, r118⟩ := e118
              have e118 : a.eval (.tmp 118) = _ := e118
              rw [if_pos (by rfl)]
              intro K hK
              clear hF hU hsz
              have h9_ := e118
              rw [Act.eval_getD] at h9_
              obtain ⟨q1, q2, q3⟩ := eval_rest a
              generalize hρ : a.eval = ρ
              rw [hρ] at q1 q2 q3 e111 e118
              clear hρ
              have u1 := OpUp_value Try.prog K
              have u2 := OpUp_enter Try.prog K
              go_simp
              have hl0 : listed.getD 17 false = false := hl0
              have hlo := hlw 8 (by kernel_rfl)
              have hlb := hlw 16 (by kernel_rfl)
              obtain ⟨o1, p1, hT, hB1, hB2⟩ := hJ
              rw [hlo, hl0] at hT
              obtain ⟨q9, hq1, hq2, hq3, hq4⟩ := hB2 hlb
              rw [hq1] at h9_
              injection h9_ with h91; injection h91 with h92; injection h92 with h93 h94
              subst h93; subst h94
              have hT0 := hT
              simp only [if_true, if_false, Bool.false_eq_true] at hT
              refine (mFlush_any n p1 H mb [at_ % 2] (some ⟨_, 0, none⟩) 1 w1 hT.r (room_mono HI0.out.rm (by omega)) (HI0.out.cb.fit (by omega)) (fun W9 own9 hf9 => ?_) (by simp)).mono ?_
              · obtain ⟨h9, _⟩ := hf9.heap hq2 hq4
                exact .inr ⟨_, 0, rfl, fun j hj => by
                  obtain rfl : j = 0 := by simpa using hj
                  exact Lib.cell_of_heap h9 0⟩
              rintro e w2 ⟨rfl, o2, hm2, hfr⟩
              rw [HB2.out] at hm2 ⊢
              refine ⟨_, rfl, hK _ _ ?_ trivial rfl⟩
              refine ⟨o1, o2, ?_, fun h9 => ?_, fun h9 => ?_⟩
              · rw [getD_set_eq (i := 17) hls, getD_set_ne (i := 17) (j := 8) (by decide), hlo]; exact hT.snd hm2 hfr
              · rw [getD_set_ne (i := 17) (j := 7) (by decide)] at h9; exact ((hB1 h9).snd hfr).put (by decide) _
              · rw [getD_set_ne (i := 17) (j := 16) (by decide)] at h9; exact ((hB2 h9).snd hfr).put (by decide) _
            exact trivial
          case hend =>
            intro vs0 w1 listed hJ hl1 hl2 hH0
            obtain ⟨vs1, rfl, hH1⟩ := hH0.eq_
            obtain ⟨vs2, rfl, hH2⟩ := hH1.eq_
            obtain ⟨vs3, rfl, hH3⟩ := hH2.eq_
            obtain ⟨vs4, rfl, hH4⟩ := hH3.eq_
            obtain ⟨vs5, rfl, hH5⟩ := hH4.eq_
            obtain ⟨vs6, rfl, hH6⟩ := hH5.eq_
            obtain ⟨vs7, rfl, hH7⟩ := hH6.eq_
            obtain ⟨v7, vs8, rfl, hv7, hH8⟩ := hH7.cons
            obtain ⟨vs9, rfl, hH9⟩ := hH8.eq_
            obtain ⟨vs10, rfl, hH10⟩ := hH9.eq_
            obtain ⟨vs11, rfl, hH11⟩ := hH10.eq_
            obtain ⟨vs12, rfl, hH12⟩ := hH11.eq_
            obtain ⟨vs13, rfl, hH13⟩ := hH12.eq_
            obtain ⟨vs14, rfl, hH14⟩ := hH13.eq_
            obtain ⟨vs15, rfl, hH15⟩ := hH14.eq_
            obtain ⟨vs16, rfl, hH16⟩ := hH15.eq_
            obtain ⟨v16, vs17, rfl, hv16, hH17⟩ := hH16.cons
            obtain ⟨vs18, rfl, hH18⟩ := hH17.eq_
            obtain rfl := hH18.nil
            clear hH0 hH1 hH2 hH3 hH4 hH5 hH6 hH7 hH8 hH9 hH10 hH11 hH12 hH13 hH14 hH15 hH16 hH17 hH18
            simp only [List.take_succ_cons, List.take_zero, putAll, Act.put, List.setIfInBounds_toArray, List.set_cons_zero, List.set_cons_succ]
            obtain ⟨o3, p3, hT, _, _⟩ := hJ
            rw [hl1 8 (by decide), hl1 17 (by decide)] at hT
            have HT := Lib.hid hT
            simp only [if_true] at HT
            obtain ⟨_, _, rfl, _⟩ := hv7
            obtain ⟨_, _, rfl, _⟩ := hv16
            clear hT hl1 hl2
            go_wp2_with fail
            have KO1 := Lib.hid (mOff_any HT.out.l)
            have KO2 := Lib.hid (mOff_any HT.out.r)
            rw [ho1] at KO1
            rw [ho2] at KO2
            clear ho1 ho2
            refine KO1.out.mono ?_
            rintro e w6 ⟨rfl, rfl⟩
            go_wp2_with fail
            refine KO2.out.mono ?_
            rintro e w6 ⟨rfl, rfl⟩
            go_wp2
            go_roundw
            case rel => exact ⟨k + 1, by omega, by go_num, _, _, _, _, HT.out, HI.out⟩
            case measure => simp [intOf]; omega
        have hq1 := actA2 at_ v ma h0 h1
        have hq2 := actA2 at_ v mb h0 h1
        rw [hq1] at hr1 hi
        rw [hq2] at hr2 hi
        clear hq1 hq2
        have hr1 : (ma.fence).2 = 0 := hr1
        have hr2 : (mb.fence).2 = 0 := hr2
        obtain ⟨a2, ha2⟩ : ∃ q, (ma.fence) = (q, 0) := ⟨_, Prod.ext rfl hr1⟩
        obtain ⟨b2, hb2⟩ : ∃ q, (mb.fence) = (q, 0) := ⟨_, Prod.ext rfl hr2⟩
        have hi : FuI ks c (k + 1) (ma.fence).1 (mb.fence).1 := hi
        rw [ha2, hb2] at hi
        simp only at hi
        have HA2 := Lib.hid ha2
        have HB2 := Lib.hid hb2
        clear ha2 hb2 hr1 hr2
        obtain ⟨ho1, _, _, ho2, _⟩ := hi.run (by omega)
        have HI0 := Lib.hid HI.out
        have HI := Lib.hid hi
        clear hi

        have h0b : (op == 0) = false := by rw [beq_eq_false_iff_ne]; exact h0
        have h1b : (op == 1) = false := by rw [beq_eq_false_iff_ne]; exact h1
        clear h0 h1
        go_wp2_with fail
        have KF := Lib.hid (mFence_any m _ G ma _ HT.out.l (room_mono HI0.out.ra (by omega)) (HI0.out.ca.fit (by omega)))
        rw [HA2.out] at KF
        refine KF.out.mono ?_
        rintro e w2 ⟨rfl, o2, hm2, hfr⟩
        have HT := Lib.hid (HT.out.fst hm2 hfr)
        clear hm2 hfr KF k0
        obtain ⟨k0, _⟩ := HAC.out w2 HT.out.hb
        have KF := Lib.hid (mFence_any n _ H mb _ HT.out.r (room_mono HI0.out.rm (by omega)) (HI0.out.cb.fit (by omega)))
        rw [HB2.out] at KF
        go_wp2_with fail
        refine KF.out.mono ?_
        rintro e w3 ⟨rfl, o3, hm2, hfr⟩
        have HT := Lib.hid (HT.out.snd hm2 hfr)
        clear hm2 hfr KF k0
        go_wp2_with fail
        have KO1 := Lib.hid (mOff_any HT.out.l)
        have KO2 := Lib.hid (mOff_any HT.out.r)
        rw [ho1] at KO1
        rw [ho2] at KO2
        clear ho1 ho2
        refine KO1.out.mono ?_
        rintro e w6 ⟨rfl, rfl⟩
        go_wp2_with fail
        refine KO2.out.mono ?_
        rintro e w6 ⟨rfl, rfl⟩
        go_wp2
        go_roundw
        case rel => exact ⟨k + 1, by omega, by go_num, _, _, _, _, HT.out, HI.out⟩
        case measure => simp [intOf]; omega
      by_cases g3 : (k : Int) + 1 = c
      · skip
        have g2 : ((k : Int) + 1 == c) = true := by rw [beq_iff_eq]; omega
        obtain ⟨hr1, hr2, hi⟩ := HI.out.blow g3 op at_ v
        have HI := Lib.hid (show FuI ks c k ma mb ∧ (mb.crash ks).room k ∧ (mb.crash ks).cnt k from ⟨HI.out, crash_room HI.out.rm ks, HI.out.cb.crash ks⟩)
        have KC := Lib.hid (mCrash_any n p H mb ks K kc wr HT.out.r (room_mono HI.out.1.rm (by omega)) (fun W own9 hf9 => HK.out.below (HT.out.snd_below hf9)) hkc HKM.out)
        generalize mb.crash ks = b1 at *
        go_wp2_with fail
        refine KC.out.mono ?_
        rintro e w7 ⟨rfl, p7, hm2, hfr⟩
        have HT := Lib.hid (HT.out.snd hm2 hfr)
        clear hm2 hfr KC
        obtain ⟨k0, _⟩ := HAC.out w7 HT.out.hb
        have HI := Lib.hid (show Mix ma b1 k from ⟨HI.out.1.ra, HI.out.2.1, HI.out.1.ca, HI.out.2.2⟩)
        by_cases h0 : op = 0
        · subst h0
          have hr1 : (ma.store (at_ % 16) v).2 = 14 := hr1
          have hr2 : (b1.store (at_ % 16) v).2 = 14 := hr2
          obtain ⟨a2, ha2⟩ : ∃ q, (ma.store (at_ % 16) v) = (q, 14) := ⟨_, Prod.ext rfl hr1⟩
          obtain ⟨b2, hb2⟩ : ∃ q, (b1.store (at_ % 16) v) = (q, 14) := ⟨_, Prod.ext rfl hr2⟩
          have hi : FuI ks c (k + 1) (ma.store (at_ % 16) v).1 (b1.store (at_ % 16) v).1 := hi
          rw [ha2, hb2] at hi
          simp only at hi
          have HA2 := Lib.hid ha2
          have HB2 := Lib.hid hb2
          clear ha2 hb2 hr1 hr2
          obtain ⟨ho1, ho2⟩ := hi.dead (by omega)
          have HI0 := Lib.hid HI.out
          have HI := Lib.hid hi
          clear hi

          go_wp2_with fail
          apply wp_region_j (fun l w9 => TwJ w m G ma a2 n H b1 b2 (l.getD 12 false) (l.getD 25 false) w9) 144 26 (Eqs _ :: Eqs _ :: Eqs _ :: Eqs _ :: Eqs _ :: Eqs _ :: Eqs _ :: Eqs _ :: Eqs _ :: Eqs _ :: Eqs _ :: Eqs _ :: Eqs _ :: Eqs _ :: Eqs _ :: Eqs _ :: Eqs _ :: Eqs _ :: Eqs _ :: Eqs _ :: Eqs _ :: Eqs _ :: Eqs _ :: Eqs _ :: Eqs _ :: Eqs _ :: []) (by kernel_rfl) (by rfl) rfl (stab_cons (stab_eq _) (stab_cons (stab_eq _) (stab_cons (stab_eq _) (stab_cons (stab_eq _) (stab_cons (stab_eq _) (stab_cons (stab_eq _) (stab_cons (stab_eq _) (stab_cons (stab_eq _) (stab_cons (stab_eq _) (stab_cons (stab_eq _) (stab_cons (stab_eq _) (stab_cons (stab_eq _) (stab_cons (stab_eq _) (stab_cons (stab_eq _) (stab_cons (stab_eq _) (stab_cons (stab_eq _) (stab_cons (stab_eq _) (stab_cons (stab_eq _) (stab_cons (stab_eq _) (stab_cons (stab_eq _) (stab_cons (stab_eq _) (stab_cons (stab_eq _) (stab_cons (stab_eq _) (stab_cons (stab_eq _) (stab_cons (stab_eq _) (stab_cons (stab_eq _) stab_nil)))))))))))))))))))))))))) (by kernel_rfl) (by kernel_rfl) (by kernel_rfl) (by kernel_rfl)
          case h0 =>
            exact ⟨_, _, HT.out.below (Stood.cur (Stood.refl _))⟩
          case hstep =>
            simp only [List.take_succ_cons, List.take_zero]
            refine ⟨?_, ?_⟩
            · -- 0: Go.Op.move (Go.Operand.tmp 7)
              intro listed a w1 hJ hls hl0 hlw hlc hF hU hsz
              have e7 : a.eval (.tmp 7) = _ := hU 7 (by kernel_rfl)
              rw [if_pos (by rfl)]
              intro K hK
              clear hF hU hsz
              obtain ⟨q1, q2, q3⟩ := eval_rest a
              generalize hρ : a.eval = ρ
              rw [hρ] at q1 q2 q3 e7
              clear hρ
              have u1 := OpUp_value Try.prog K
              have u2 := OpUp_enter Try.prog K
              go_simp
              exact hK _ _ (hJ.quiet (by decide) (by decide)) trivial rfl
            refine ⟨?_, ?_⟩
            · -- 1: Go.Op.move (Go.Operand.tmp 0)
              intro listed a w1 hJ hls hl0 hlw hlc hF hU hsz
              have e0 : a.eval (.tmp 0) = _ := hU 0 (by kernel_rfl)
              rw [if_pos (by rfl)]
              intro K hK
              clear hF hU hsz
              obtain ⟨q1, q2, q3⟩ := eval_rest a
              generalize hρ : a.eval = ρ
              rw [hρ] at q1 q2 q3 e0
              clear hρ
              have u1 := OpUp_value Try.prog K
              have u2 := OpUp_enter Try.prog K
              go_simp
              exact hK _ _ (hJ.quiet (by decide) (by decide)) trivial rfl
            refine ⟨?_, ?_⟩
            · -- 2: Go.Op.move (Go.Operand.tmp 11)
              intro listed a w1 hJ hls hl0 hlw hlc hF hU hsz
              have e11 : a.eval (.tmp 11) = _ := hU 11 (by kernel_rfl)
              rw [if_pos (by rfl)]
              intro K hK
              clear hF hU hsz
              obtain ⟨q1, q2, q3⟩ := eval_rest a
              generalize hρ : a.eval = ρ
              rw [hρ] at q1 q2 q3 e11
              clear hρ
              have u1 := OpUp_value Try.prog K
              have u2 := OpUp_enter Try.prog K
              go_simp
              exact hK _ _ (hJ.quiet (by decide) (by decide)) trivial rfl
            refine ⟨?_, ?_⟩
            · -- 3: Go.Op.indexAddr 38 (Go.Operand.tmp 75) (Go.Operand.tmp 76)
              intro listed a w1 hJ hls hl0 hlw hlc hF hU hsz
              have e75 : a.eval (.tmp 75) = _ := hF 1 _ _ rfl rfl (by kernel_rfl)
              have e76 : a.eval (.tmp 76) = _ := hF 2 _ _ rfl rfl (by kernel_rfl)
              rw [if_pos (by rfl)]
              intro K hK
              clear hF hU hsz
              obtain ⟨q1, q2, q3⟩ := eval_rest a
              generalize hρ : a.eval = ρ
              rw [hρ] at q1 q2 q3 e75 e76
              clear hρ
              have u1 := OpUp_value Try.prog K
              have u2 := OpUp_enter Try.prog K
              go_simp
              exact hK _ _ (hJ.quiet (by decide) (by decide)) trivial rfl
            refine ⟨?_, ?_⟩
            · -- 4: Go.Op.fieldAddr 41 (Go.Operand.tmp 77) 1
              intro listed a w1 hJ hls hl0 hlw hlc hF hU hsz
              have e77 : a.eval (.tmp 77) = _ := hF 3 _ _ rfl rfl (by kernel_rfl)
              rw [if_pos (by rfl)]
              intro K hK
              clear hF hU hsz
              obtain ⟨q1, q2, q3⟩ := eval_rest a
              generalize hρ : a.eval = ρ
              rw [hρ] at q1 q2 q3 e77
              clear hρ
              have u1 := OpUp_value Try.prog K
              have u2 := OpUp_enter Try.prog K
              go_simp
              exact hK _ _ (hJ.quiet (by decide) (by decide)) trivial rfl
            refine ⟨?_, ?_⟩
            · -- 5: Go.Op.load 3 (Go.Operand.tmp 78)
              intro listed a w1 hJ hls hl0 hlw hlc hF hU hsz
              have e78 : a.eval (.tmp 78) = _ := hF 4 _ _ rfl rfl (by kernel_rfl)
              rw [if_pos (by rfl)]
              intro K hK
              clear hF hU hsz
              obtain ⟨k0, k1, k2, _⟩ := HAC.out w1 hJ.hb
              obtain ⟨q1, q2, q3⟩ := eval_rest a
              generalize hρ : a.eval = ρ
              rw [hρ] at q1 q2 q3 e78
              clear hρ
              have u1 := OpUp_value Try.prog K
              have u2 := OpUp_enter Try.prog K
              go_simp
              exact hK _ _ (hJ.quiet (by decide) (by decide)) trivial rfl
            refine ⟨?_, ?_⟩
            · -- 6: Go.Op.binOp Go.BinOp.and 3 (Go.Operand.tmp 79) (Go.Operand.const (Go.Value.int G
              intro listed a w1 hJ hls hl0 hlw hlc hF hU hsz
              have e79 : a.eval (.tmp 79) = _ := hF 5 _ _ rfl rfl (by kernel_rfl)
              rw [if_pos (by rfl)]
              intro K hK
              clear hF hU hsz
              obtain ⟨q1, q2, q3⟩ := eval_rest a
              generalize hρ : a.eval = ρ
              rw [hρ] at q1 q2 q3 e79
              clear hρ
              have u1 := OpUp_value Try.prog K
              have u2 := OpUp_enter Try.prog K
              go_simp
              exact hK _ _ (hJ.quiet (by decide) (by decide)) trivial rfl
            refine ⟨?_, ?_⟩
            · -- 7: Go.Op.move (Go.Operand.tmp 0)
              intro listed a w1 hJ hls hl0 hlw hlc hF hU hsz
              have e0 : a.eval (.tmp 0) = _ := hU 0 (by kernel_rfl)
              rw [if_pos (by rfl)]
              intro K hK
              clear hF hU hsz
              obtain ⟨q1, q2, q3⟩ := eval_rest a
              generalize hρ : a.eval = ρ
              rw [hρ] at q1 q2 q3 e0
              clear hρ
              have u1 := OpUp_value Try.prog K
              have u2 := OpUp_enter Try.prog K
              go_simp
              exact hK _ _ (hJ.quiet (by decide) (by decide)) trivial rfl
            refine ⟨?_, ?_⟩
            · -- 8: Go.Op.move (Go.Operand.tmp 11)
              intro listed a w1 hJ hls hl0 hlw hlc hF hU hsz
              have e11 : a.eval (.tmp 11) = _ := hU 11 (by kernel_rfl)
              rw [if_pos (by rfl)]
              intro K hK
              clear hF hU hsz
              obtain ⟨q1, q2, q3⟩ := eval_rest a
              generalize hρ : a.eval = ρ
              rw [hρ] at q1 q2 q3 e11
              clear hρ
              have u1 := OpUp_value Try.prog K
              have u2 := OpUp_enter Try.prog K
              go_simp
              exact hK _ _ (hJ.quiet (by decide) (by decide)) trivial rfl
            refine ⟨?_, ?_⟩
            · -- 9: Go.Op.indexAddr 38 (Go.Operand.tmp 81) (Go.Operand.tmp 82)
              intro listed a w1 hJ hls hl0 hlw hlc hF hU hsz
              have e81 : a.eval (.tmp 81) = _ := hF 7 _ _ rfl rfl (by kernel_rfl)
              have e82 : a.eval (.tmp 82) = _ := hF 8 _ _ rfl rfl (by kernel_rfl)
              rw [if_pos (by rfl)]
              intro K hK
              clear hF hU hsz
              obtain ⟨q1, q2, q3⟩ := eval_rest a
              generalize hρ : a.eval = ρ
              rw [hρ] at q1 q2 q3 e81 e82
              clear hρ
              have u1 := OpUp_value Try.prog K
              have u2 := OpUp_enter Try.prog K
              go_simp
              exact hK _ _ (hJ.quiet (by decide) (by decide)) trivial rfl
            refine ⟨?_, ?_⟩
            · -- 10: Go.Op.fieldAddr 41 (Go.Operand.tmp 83) 2
              intro listed a w1 hJ hls hl0 hlw hlc hF hU hsz
              have e83 : a.eval (.tmp 83) = _ := hF 9 _ _ rfl rfl (by kernel_rfl)
              rw [if_pos (by rfl)]
              intro K hK
              clear hF hU hsz
              obtain ⟨q1, q2, q3⟩ := eval_rest a
              generalize hρ : a.eval = ρ
              rw [hρ] at q1 q2 q3 e83
              clear hρ
              have u1 := OpUp_value Try.prog K
              have u2 := OpUp_enter Try.prog K
              go_simp
              exact hK _ _ (hJ.quiet (by decide) (by decide)) trivial rfl
            refine ⟨?_, ?_⟩
            · -- 11: Go.Op.load 22 (Go.Operand.tmp 84)
              intro listed a w1 hJ hls hl0 hlw hlc hF hU hsz
              have e84 : a.eval (.tmp 84) = _ := hF 10 _ _ rfl rfl (by kernel_rfl)
              rw [if_pos (by rfl)]
              intro K hK
              clear hF hU hsz
              obtain ⟨k0, k1, k2, _⟩ := HAC.out w1 hJ.hb
              obtain ⟨q1, q2, q3⟩ := eval_rest a
              generalize hρ : a.eval = ρ
              rw [hρ] at q1 q2 q3 e84
              clear hρ
              have u1 := OpUp_value Try.prog K
              have u2 := OpUp_enter Try.prog K
              go_simp
              exact hK _ _ (hJ.quiet (by decide) (by decide)) trivial rfl
            refine ⟨?_, ?_⟩
            · -- 12: Go.Op.call { callee := Go.Callee.value (Go.Operand.func 27), args := #[Go.Operan
              intro listed a w1 hJ hls hl0 hlw hlc hF hU hsz
              have e74 : a.eval (.tmp 74) = _ := hF 0 _ _ rfl rfl (by kernel_rfl)
              have e80 : a.eval (.tmp 80) = _ := hF 6 _ _ rfl rfl (by kernel_rfl)
              have e85 : a.eval (.tmp 85) = _ := hF 11 _ _ rfl rfl (by kernel_rfl)
              rw [if_pos (by rfl)]
              intro K hK
              clear hF hU hsz
              obtain ⟨q1, q2, q3⟩ := eval_rest a
              generalize hρ : a.eval = ρ
              rw [hρ] at q1 q2 q3 e74 e80 e85
              clear hρ
              have u1 := OpUp_value Try.prog K
              have u2 := OpUp_enter Try.prog K
              go_simp
              have hl0 : listed.getD 12 false = false := hl0
              have hl25 := hlc 25 _ rfl (by kernel_rfl)
              rw [hl0, hl25] at hJ
              obtain ⟨o1, p1, hT⟩ := hJ
              refine (mStore_any m o1 G ma (at_ % 16) v w1 hT.l (room_mono HI0.out.ra (by omega)) (HI0.out.ca.fit (by omega))).mono ?_
              rintro e w2 ⟨rfl, o2, hm2, hfr⟩
              rw [HA2.out] at hm2 ⊢
              refine ⟨_, rfl, hK _ _ ?_ trivial rfl⟩
              show TwJ _ _ _ _ _ _ _ _ _ ((listed.setIfInBounds 12 true).getD 12 false) ((listed.setIfInBounds 12 true).getD 25 false) w2
              rw [getD_set_eq (i := 12) hls, getD_set_ne (i := 12) (j := 25) (by decide), hl25]
              exact ⟨o2, p1, hT.fst hm2 hfr⟩
            refine ⟨?_, ?_⟩
            · -- 13: Go.Op.move (Go.Operand.tmp 9)
              intro listed a w1 hJ hls hl0 hlw hlc hF hU hsz
              have e9 : a.eval (.tmp 9) = _ := hU 9 (by kernel_rfl)
              rw [if_pos (by rfl)]
              intro K hK
              clear hF hU hsz
              obtain ⟨q1, q2, q3⟩ := eval_rest a
              generalize hρ : a.eval = ρ
              rw [hρ] at q1 q2 q3 e9
              clear hρ
              have u1 := OpUp_value Try.prog K
              have u2 := OpUp_enter Try.prog K
              go_simp
              exact hK _ _ (hJ.quiet (by decide) (by decide)) trivial rfl
            refine ⟨?_, ?_⟩
            · -- 14: Go.Op.move (Go.Operand.tmp 0)
              intro listed a w1 hJ hls hl0 hlw hlc hF hU hsz
              have e0 : a.eval (.tmp 0) = _ := hU 0 (by kernel_rfl)
              rw [if_pos (by rfl)]
              intro K hK
              clear hF hU hsz
              obtain ⟨q1, q2, q3⟩ := eval_rest a
              generalize hρ : a.eval = ρ
              rw [hρ] at q1 q2 q3 e0
              clear hρ
              have u1 := OpUp_value Try.prog K
              have u2 := OpUp_enter Try.prog K
              go_simp
              exact hK _ _ (hJ.quiet (by decide) (by decide)) trivial rfl
            refine ⟨?_, ?_⟩
            · -- 15: Go.Op.move (Go.Operand.tmp 11)
              intro listed a w1 hJ hls hl0 hlw hlc hF hU hsz
              have e11 : a.eval (.tmp 11) = _ := hU 11 (by kernel_rfl)
              rw [if_pos (by rfl)]
              intro K hK
              clear hF hU hsz
              obtain ⟨q1, q2, q3⟩ := eval_rest a
              generalize hρ : a.eval = ρ
              rw [hρ] at q1 q2 q3 e11
              clear hρ
              have u1 := OpUp_value Try.prog K
              have u2 := OpUp_enter Try.prog K
              go_simp
              exact hK _ _ (hJ.quiet (by decide) (by decide)) trivial rfl
            refine ⟨?_, ?_⟩
            · -- 16: Go.Op.indexAddr 38 (Go.Operand.tmp 88) (Go.Operand.tmp 89)
              intro listed a w1 hJ hls hl0 hlw hlc hF hU hsz
              have e88 : a.eval (.tmp 88) = _ := hF 14 _ _ rfl rfl (by kernel_rfl)
              have e89 : a.eval (.tmp 89) = _ := hF 15 _ _ rfl rfl (by kernel_rfl)
              rw [if_pos (by rfl)]
              intro K hK
              clear hF hU hsz
              obtain ⟨q1, q2, q3⟩ := eval_rest a
              generalize hρ : a.eval = ρ
              rw [hρ] at q1 q2 q3 e88 e89
              clear hρ
              have u1 := OpUp_value Try.prog K
              have u2 := OpUp_enter Try.prog K
              go_simp
              exact hK _ _ (hJ.quiet (by decide) (by decide)) trivial rfl
            refine ⟨?_, ?_⟩
            · -- 17: Go.Op.fieldAddr 41 (Go.Operand.tmp 90) 1
              intro listed a w1 hJ hls hl0 hlw hlc hF hU hsz
              have e90 : a.eval (.tmp 90) = _ := hF 16 _ _ rfl rfl (by kernel_rfl)
              rw [if_pos (by rfl)]
              intro K hK
              clear hF hU hsz
              obtain ⟨q1, q2, q3⟩ := eval_rest a
              generalize hρ : a.eval = ρ
              rw [hρ] at q1 q2 q3 e90
              clear hρ
              have u1 := OpUp_value Try.prog K
              have u2 := OpUp_enter Try.prog K
              go_simp
              exact hK _ _ (hJ.quiet (by decide) (by decide)) trivial rfl
            refine ⟨?_, ?_⟩
            · -- 18: Go.Op.load 3 (Go.Operand.tmp 91)
              intro listed a w1 hJ hls hl0 hlw hlc hF hU hsz
              have e91 : a.eval (.tmp 91) = _ := hF 17 _ _ rfl rfl (by kernel_rfl)
              rw [if_pos (by rfl)]
              intro K hK
              clear hF hU hsz
              obtain ⟨k0, k1, k2, _⟩ := HAC.out w1 hJ.hb
              obtain ⟨q1, q2, q3⟩ := eval_rest a
              generalize hρ : a.eval = ρ
              rw [hρ] at q1 q2 q3 e91
              clear hρ
              have u1 := OpUp_value Try.prog K
              have u2 := OpUp_enter Try.prog K
              go_simp
              exact hK _ _ (hJ.quiet (by decide) (by decide)) trivial rfl
            refine ⟨?_, ?_⟩
            · -- 19: Go.Op.binOp Go.BinOp.and 3 (Go.Operand.tmp 92) (Go.Operand.const (Go.Value.int G
              intro listed a w1 hJ hls hl0 hlw hlc hF hU hsz
              have e92 : a.eval (.tmp 92) = _ := hF 18 _ _ rfl rfl (by kernel_rfl)
              rw [if_pos (by rfl)]
              intro K hK
              clear hF hU hsz
              obtain ⟨q1, q2, q3⟩ := eval_rest a
              generalize hρ : a.eval = ρ
              rw [hρ] at q1 q2 q3 e92
              clear hρ
              have u1 := OpUp_value Try.prog K
              have u2 := OpUp_enter Try.prog K
              go_simp
              exact hK _ _ (hJ.quiet (by decide) (by decide)) trivial rfl
            refine ⟨?_, ?_⟩
            · -- 20: Go.Op.move (Go.Operand.tmp 0)
              intro listed a w1 hJ hls hl0 hlw hlc hF hU hsz
              have e0 : a.eval (.tmp 0) = _ := hU 0 (by kernel_rfl)
              rw [if_pos (by rfl)]
              intro K hK
              clear hF hU hsz
              obtain ⟨q1, q2, q3⟩ := eval_rest a
              generalize hρ : a.eval = ρ
              rw [hρ] at q1 q2 q3 e0
              clear hρ
              have u1 := OpUp_value Try.prog K
              have u2 := OpUp_enter Try.prog K
              go_simp
              exact hK _ _ (hJ.quiet (by decide) (by decide)) trivial rfl
            refine ⟨?_, ?_⟩
            · -- 21: Go.Op.move (Go.Operand.tmp 11)
              intro listed a w1 hJ hls hl0 hlw hlc hF hU hsz
              have e11 : a.eval (.tmp 11) = _ := hU 11 (by kernel_rfl)
              rw [if_pos (by rfl)]
              intro K hK
              clear hF hU hsz
              obtain ⟨q1, q2, q3⟩ := eval_rest a
              generalize hρ : a.eval = ρ
              rw [hρ] at q1 q2 q3 e11
              clear hρ
              have u1 := OpUp_value Try.prog K
              have u2 := OpUp_enter Try.prog K
              go_simp
              exact hK _ _ (hJ.quiet (by decide) (by decide)) trivial rfl
            refine ⟨?_, ?_⟩
            · -- 22: Go.Op.indexAddr 38 (Go.Operand.tmp 94) (Go.Operand.tmp 95)
              intro listed a w1 hJ hls hl0 hlw hlc hF hU hsz
              have e94 : a.eval (.tmp 94) = _ := hF 20 _ _ rfl rfl (by kernel_rfl)
              have e95 : a.eval (.tmp 95) = _ := hF 21 _ _ rfl rfl (by kernel_rfl)
              rw [if_pos (by rfl)]
              intro K hK
              clear hF hU hsz
              obtain ⟨q1, q2, q3⟩ := eval_rest a
              generalize hρ : a.eval = ρ
              rw [hρ] at q1 q2 q3 e94 e95
              clear hρ
              have u1 := OpUp_value Try.prog K
              have u2 := OpUp_enter Try.prog K
              go_simp
              exact hK _ _ (hJ.quiet (by decide) (by decide)) trivial rfl
            refine ⟨?_, ?_⟩
            · -- 23: Go.Op.fieldAddr 41 (Go.Operand.tmp 96) 2
              intro listed a w1 hJ hls hl0 hlw hlc hF hU hsz
              have e96 : a.eval (.tmp 96) = _ := hF 22 _ _ rfl rfl (by kernel_rfl)
              rw [if_pos (by rfl)]
              intro K hK
              clear hF hU hsz
              obtain ⟨q1, q2, q3⟩ := eval_rest a
              generalize hρ : a.eval = ρ
              rw [hρ] at q1 q2 q3 e96
              clear hρ
              have u1 := OpUp_value Try.prog K
              have u2 := OpUp_enter Try.prog K
              go_simp
              exact hK _ _ (hJ.quiet (by decide) (by decide)) trivial rfl
            refine ⟨?_, ?_⟩
            · -- 24: Go.Op.load 22 (Go.Operand.tmp 97)
              intro listed a w1 hJ hls hl0 hlw hlc hF hU hsz
              have e97 : a.eval (.tmp 97) = _ := hF 23 _ _ rfl rfl (by kernel_rfl)
              rw [if_pos (by rfl)]
              intro K hK
              clear hF hU hsz
              obtain ⟨k0, k1, k2, _⟩ := HAC.out w1 hJ.hb
              obtain ⟨q1, q2, q3⟩ := eval_rest a
              generalize hρ : a.eval = ρ
              rw [hρ] at q1 q2 q3 e97
              clear hρ
              have u1 := OpUp_value Try.prog K
              have u2 := OpUp_enter Try.prog K
              go_simp
              exact hK _ _ (hJ.quiet (by decide) (by decide)) trivial rfl
            refine ⟨?_, ?_⟩
            · -- 25: Go.Op.call { callee := Go.Callee.value (Go.Operand.func 27), args := #[Go.Operan
              intro listed a w1 hJ hls hl0 hlw hlc hF hU hsz
              have e87 : a.eval (.tmp 87) = _ := hF 13 _ _ rfl rfl (by kernel_rfl)
              have e93 : a.eval (.tmp 93) = _ := hF 19 _ _ rfl rfl (by kernel_rfl)
              have e98 : a.eval (.tmp 98) = _ := hF 24 _ _ rfl rfl (by kernel_rfl)
              rw [if_pos (by rfl)]
              intro K hK
              clear hF hU hsz
              obtain ⟨q1, q2, q3⟩ := eval_rest a
              generalize hρ : a.eval = ρ
              rw [hρ] at q1 q2 q3 e87 e93 e98
              clear hρ
              have u1 := OpUp_value Try.prog K
              have u2 := OpUp_enter Try.prog K
              go_simp
              have hl0 : listed.getD 25 false = false := hl0
              have hl12 := hlw 12 (by kernel_rfl)
              rw [hl0, hl12] at hJ
              obtain ⟨o1, p1, hT⟩ := hJ
              refine (mStore_any n p1 H b1 (at_ % 16) v w1 hT.r (room_mono HI0.out.rm (by omega)) (HI0.out.cb.fit (by omega))).mono ?_
              rintro e w2 ⟨rfl, o2, hm2, hfr⟩
              rw [HB2.out] at hm2 ⊢
              refine ⟨_, rfl, hK _ _ ?_ trivial rfl⟩
              show TwJ _ _ _ _ _ _ _ _ _ ((listed.setIfInBounds 25 true).getD 12 false) ((listed.setIfInBounds 25 true).getD 25 false) w2
              rw [getD_set_eq (i := 25) hls, getD_set_ne (i := 25) (j := 12) (by decide), hl12]
              exact ⟨o1, o2, hT.snd hm2 hfr⟩
            exact trivial
          case hend =>
            intro vs0 w1 listed hJ hl1 hl2 hH0
            obtain ⟨vs1, rfl, hH1⟩ := hH0.eq_
            obtain ⟨vs2, rfl, hH2⟩ := hH1.eq_
            obtain ⟨vs3, rfl, hH3⟩ := hH2.eq_
            obtain ⟨vs4, rfl, hH4⟩ := hH3.eq_
            obtain ⟨vs5, rfl, hH5⟩ := hH4.eq_
            obtain ⟨vs6, rfl, hH6⟩ := hH5.eq_
            obtain ⟨vs7, rfl, hH7⟩ := hH6.eq_
            obtain ⟨vs8, rfl, hH8⟩ := hH7.eq_
            obtain ⟨vs9, rfl, hH9⟩ := hH8.eq_
            obtain ⟨vs10, rfl, hH10⟩ := hH9.eq_
            obtain ⟨vs11, rfl, hH11⟩ := hH10.eq_
            obtain ⟨vs12, rfl, hH12⟩ := hH11.eq_
            obtain ⟨vs13, rfl, hH13⟩ := hH12.eq_
            obtain ⟨vs14, rfl, hH14⟩ := hH13.eq_
            obtain ⟨vs15, rfl, hH15⟩ := hH14.eq_
            obtain ⟨vs16, rfl, hH16⟩ := hH15.eq_
            obtain ⟨vs17, rfl, hH17⟩ := hH16.eq_
            obtain ⟨vs18, rfl, hH18⟩ := hH17.eq_
            obtain ⟨vs19, rfl, hH19⟩ := hH18.eq_
            obtain ⟨vs20, rfl, hH20⟩ := hH19.eq_
            obtain ⟨vs21, rfl, hH21⟩ := hH20.eq_
            obtain ⟨vs22, rfl, hH22⟩ := hH21.eq_
            obtain ⟨vs23, rfl, hH23⟩ := hH22.eq_
            obtain ⟨vs24, rfl, hH24⟩ := hH23.eq_
            obtain ⟨vs25, rfl, hH25⟩ := hH24.eq_
            obtain ⟨vs26, rfl, hH26⟩ := hH25.eq_
            obtain rfl := hH26.nil
            clear hH0 hH1 hH2 hH3 hH4 hH5 hH6 hH7 hH8 hH9 hH10 hH11 hH12 hH13 hH14 hH15 hH16 hH17 hH18 hH19 hH20 hH21 hH22 hH23 hH24 hH25 hH26
            simp only [List.take_succ_cons, List.take_zero, putAll, Act.put, List.setIfInBounds_toArray, List.set_cons_zero, List.set_cons_succ]
            rw [hl1 12 (by decide), hl1 25 (by decide)] at hJ
            obtain ⟨o3, p3, hT⟩ := hJ
            have HT := Lib.hid hT
            clear hT hl1 hl2
            go_wp2_with fail
            have KO1 := Lib.hid (mOff_any HT.out.l)
            have KO2 := Lib.hid (mOff_any HT.out.r)
            rw [ho1] at KO1
            rw [ho2] at KO2
            clear ho1 ho2
            refine KO1.out.mono ?_
            rintro e w6 ⟨rfl, rfl⟩
            go_wp2_with fail
            refine KO2.out.mono ?_
            rintro e w6 ⟨rfl, rfl⟩
            go_wp2
            go_roundw
            case rel => exact ⟨k + 1, by omega, by go_num, _, _, _, _, HT.out, HI.out⟩
            case measure => simp [intOf]; omega
        by_cases h1 : op = 1
        · subst h1
          have hr1 : (ma.flush [at_ % 2]).2 = 14 := hr1
          have hr2 : (b1.flush [at_ % 2]).2 = 14 := hr2
          obtain ⟨a2, ha2⟩ : ∃ q, (ma.flush [at_ % 2]) = (q, 14) := ⟨_, Prod.ext rfl hr1⟩
          obtain ⟨b2, hb2⟩ : ∃ q, (b1.flush [at_ % 2]) = (q, 14) := ⟨_, Prod.ext rfl hr2⟩
          have hi : FuI ks c (k + 1) (ma.flush [at_ % 2]).1 (b1.flush [at_ % 2]).1 := hi
          rw [ha2, hb2] at hi
          simp only at hi
          have HA2 := Lib.hid ha2
          have HB2 := Lib.hid hb2
          clear ha2 hb2 hr1 hr2
          obtain ⟨ho1, ho2⟩ := hi.dead (by omega)
          have HI0 := Lib.hid HI.out
          have HI := Lib.hid hi
          clear hi

          clear h0
          go_wp2_with fail
          apply wp_region_ja (fun _ _ => True) (fun _ _ _ _ _ => trivial) (fun _ => trivial) (FlJ w m G ma a2 n H b1 b2 (at_ % 2)) 144 18 (Eqs _ :: Eqs _ :: Eqs _ :: Eqs _ :: Eqs _ :: Eqs _ :: Eqs _ :: SlQ :: Eqs _ :: Eqs _ :: Eqs _ :: Eqs _ :: Eqs _ :: Eqs _ :: Eqs _ :: Eqs _ :: SlQ :: Eqs _ :: []) (by kernel_rfl) (by rfl) rfl (stab_cons (stab_eq _) (stab_cons (stab_eq _) (stab_cons (stab_eq _) (stab_cons (stab_eq _) (stab_cons (stab_eq _) (stab_cons (stab_eq _) (stab_cons (stab_eq _) (stab_cons stab_slq (stab_cons (stab_eq _) (stab_cons (stab_eq _) (stab_cons (stab_eq _) (stab_cons (stab_eq _) (stab_cons (stab_eq _) (stab_cons (stab_eq _) (stab_cons (stab_eq _) (stab_cons (stab_eq _) (stab_cons stab_slq (stab_cons (stab_eq _) stab_nil)))))))))))))))))) (by kernel_rfl) (by kernel_rfl) (by kernel_rfl) (by kernel_rfl)
          case h0 =>
            exact ⟨_, _, HT.out.below (Stood.cur (Stood.refl _)), fun h => by simp at h, fun h => by simp at h⟩
          case hstep =>
            simp only [List.take_succ_cons, List.take_zero]
            refine ⟨?_, ?_⟩
            · -- 0: Go.Op.move (Go.Operand.tmp 7)
              intro listed a w1 hJ hls hl0 hlw hlc hF hU hsz
              have e7 : a.eval (.tmp 7) = _ := hU 7 (by kernel_rfl)
              rw [if_pos (by rfl)]
              intro K hK
              clear hF hU hsz
              obtain ⟨q1, q2, q3⟩ := eval_rest a
              generalize hρ : a.eval = ρ
              rw [hρ] at q1 q2 q3 e7
              clear hρ
              have u1 := OpUp_value Try.prog K
              have u2 := OpUp_enter Try.prog K
              go_simp
              exact hK _ _ ((hJ.quiet (by decide) (by decide) _)) trivial rfl
            refine ⟨?_, ?_⟩
            · -- 1: Go.Op.move (Go.Operand.tmp 0)
              intro listed a w1 hJ hls hl0 hlw hlc hF hU hsz
              have e0 : a.eval (.tmp 0) = _ := hU 0 (by kernel_rfl)
              rw [if_pos (by rfl)]
              intro K hK
              clear hF hU hsz
              obtain ⟨q1, q2, q3⟩ := eval_rest a
              generalize hρ : a.eval = ρ
              rw [hρ] at q1 q2 q3 e0
              clear hρ
              have u1 := OpUp_value Try.prog K
              have u2 := OpUp_enter Try.prog K
              go_simp
              exact hK _ _ ((hJ.quiet (by decide) (by decide) _)) trivial rfl
            refine ⟨?_, ?_⟩
            · -- 2: Go.Op.move (Go.Operand.tmp 11)
              intro listed a w1 hJ hls hl0 hlw hlc hF hU hsz
              have e11 : a.eval (.tmp 11) = _ := hU 11 (by kernel_rfl)
              rw [if_pos (by rfl)]
              intro K hK
              clear hF hU hsz
              obtain ⟨q1, q2, q3⟩ := eval_rest a
              generalize hρ : a.eval = ρ
              rw [hρ] at q1 q2 q3 e11
              clear hρ
              have u1 := OpUp_value Try.prog K
              have u2 := OpUp_enter Try.prog K
              go_simp
              exact hK _ _ ((hJ.quiet (by decide) (by decide) _)) trivial rfl
            refine ⟨?_, ?_⟩
            · -- 3: Go.Op.indexAddr 38 (Go.Operand.tmp 103) (Go.Operand.tmp 104)
              intro listed a w1 hJ hls hl0 hlw hlc hF hU hsz
              have e103 : a.eval (.tmp 103) = _ := hF 1 _ _ rfl rfl (by kernel_rfl)
              have e104 : a.eval (.tmp 104) = _ := hF 2 _ _ rfl rfl (by kernel_rfl)
              rw [if_pos (by rfl)]
              intro K hK
              clear hF hU hsz
              obtain ⟨q1, q2, q3⟩ := eval_rest a
              generalize hρ : a.eval = ρ
              rw [hρ] at q1 q2 q3 e103 e104
              clear hρ
              have u1 := OpUp_value Try.prog K
              have u2 := OpUp_enter Try.prog K
              go_simp
              exact hK _ _ ((hJ.quiet (by decide) (by decide) _)) trivial rfl
            refine ⟨?_, ?_⟩
            · -- 4: Go.Op.fieldAddr 41 (Go.Operand.tmp 105) 1
              intro listed a w1 hJ hls hl0 hlw hlc hF hU hsz
              have e105 : a.eval (.tmp 105) = _ := hF 3 _ _ rfl rfl (by kernel_rfl)
              rw [if_pos (by rfl)]
              intro K hK
              clear hF hU hsz
              obtain ⟨q1, q2, q3⟩ := eval_rest a
              generalize hρ : a.eval = ρ
              rw [hρ] at q1 q2 q3 e105
              clear hρ
              have u1 := OpUp_value Try.prog K
              have u2 := OpUp_enter Try.prog K
              go_simp
              exact hK _ _ ((hJ.quiet (by decide) (by decide) _)) trivial rfl
            refine ⟨?_, ?_⟩
            · -- 5: Go.Op.load 3 (Go.Operand.tmp 106)
              intro listed a w1 hJ hls hl0 hlw hlc hF hU hsz
              have e106 : a.eval (.tmp 106) = _ := hF 4 _ _ rfl rfl (by kernel_rfl)
              rw [if_pos (by rfl)]
              intro K hK
              clear hF hU hsz
              obtain ⟨k0, k1, k2, _⟩ := HAC.out w1 hJ.hb
              obtain ⟨q1, q2, q3⟩ := eval_rest a
              generalize hρ : a.eval = ρ
              rw [hρ] at q1 q2 q3 e106
              clear hρ
              have u1 := OpUp_value Try.prog K
              have u2 := OpUp_enter Try.prog K
              go_simp
              exact hK _ _ ((hJ.quiet (by decide) (by decide) _)) trivial rfl
            refine ⟨?_, ?_⟩
            · -- 6: Go.Op.binOp Go.BinOp.and 3 (Go.Operand.tmp 107) (Go.Operand.const (Go.Value.int 
              intro listed a w1 hJ hls hl0 hlw hlc hF hU hsz
              have e107 : a.eval (.tmp 107) = _ := hF 5 _ _ rfl rfl (by kernel_rfl)
              rw [if_pos (by rfl)]
              intro K hK
              clear hF hU hsz
              obtain ⟨q1, q2, q3⟩ := eval_rest a
              generalize hρ : a.eval = ρ
              rw [hρ] at q1 q2 q3 e107
              clear hρ
              have u1 := OpUp_value Try.prog K
              have u2 := OpUp_enter Try.prog K
              go_simp
              exact hK _ _ ((hJ.quiet (by decide) (by decide) _)) trivial rfl
            refine ⟨?_, ?_⟩
            · -- 7: Go.Op.buildSlice 39 1 #[(0, Go.Operand.tmp 108)]
              intro listed a w1 hJ hls hl0 hlw hlc hF hU hsz
              have e108 : a.eval (.tmp 108) = _ := hF 6 _ _ rfl rfl (by kernel_rfl)
              rw [if_pos (by rfl)]
              intro K hK
              clear hF hU
              have hsz9 : 109 < a.tmps.size := by rw [hsz]; simp only [List.size_toArray, List.length_cons, List.length_nil]; omega
              obtain ⟨q1, q2, q3⟩ := eval_rest a
              generalize hρ : a.eval = ρ
              rw [hρ] at q1 q2 q3 e108
              clear hρ
              have u1 := OpUp_value Try.prog K
              have u2 := OpUp_enter Try.prog K
              go_simp
              have hl0 : listed.getD 7 false = false := hl0
              obtain ⟨o1, p1, hT, hB1, hB2⟩ := hJ
              refine hK _ _ ⟨o1, p1, ?_, ?_, ?_⟩ trivial ⟨_, _, rfl, trivial⟩
              · rw [getD_set_ne (i := 7) (j := 8) (by decide), getD_set_ne (i := 7) (j := 17) (by decide)]; exact hT.below (Below.alloc (Below.refl _ _) (Nat.le_refl _) _)
              · intro _; exact ⟨w1.heap.size, by simp [Act.put, Array.getD_eq_getD_getElem?, hsz9], heap_alloc_new w1 _, hT.l.fresh _ (Nat.le_refl _), hT.r.fresh _ (Nat.le_refl _)⟩
              · intro h9; rw [getD_set_ne (i := 7) (j := 16) (by decide)] at h9; exact ((hB2 h9).below ((Below.refl _ _).alloc (Nat.le_refl _) _)).put (by decide) _
            refine ⟨?_, ?_⟩
            · -- 8: Go.Op.call { callee := Go.Callee.value (Go.Operand.func 28), args := #[Go.Operan
              intro listed a w1 hJ hls hl0 hlw hlc hF hU hsz
              have e102 : a.eval (.tmp 102) = _ := hF 0 _ _ rfl rfl (by kernel_rfl)
              have e109 := hF 7 _ _ rfl rfl (by kernel_rfl)
              obtain ⟨B109, d109, e109, r109⟩ := e109
              have e109 : a.eval (.tmp 109) = _ := e109
              rw [if_pos (by rfl)]
              intro K hK
              clear hF hU hsz
              have h9_ := e109
              rw [Act.eval_getD] at h9_
              obtain ⟨q1, q2, q3⟩ := eval_rest a
              generalize hρ : a.eval = ρ
              rw [hρ] at q1 q2 q3 e102 e109
              clear hρ
              have u1 := OpUp_value Try.prog K
              have u2 := OpUp_enter Try.prog K
              go_simp
              have hl0 : listed.getD 8 false = false := hl0
              have hlo := hlc 17 _ rfl (by kernel_rfl)
              have hlb := hlw 7 (by kernel_rfl)
              obtain ⟨o1, p1, hT, hB1, hB2⟩ := hJ
              rw [hl0, hlo] at hT
              obtain ⟨q9, hq1, hq2, hq3, hq4⟩ := hB1 hlb
              rw [hq1] at h9_
              injection h9_ with h91; injection h91 with h92; injection h92 with h93 h94
              subst h93; subst h94
              have hT0 := hT
              simp only [if_true, if_false, Bool.false_eq_true] at hT
              refine (mFlush_any m o1 G ma [at_ % 2] (some ⟨_, 0, none⟩) 1 w1 hT.l (room_mono HI0.out.ra (by omega)) (HI0.out.ca.fit (by omega)) (fun W9 own9 hf9 => ?_) (by simp)).mono ?_
              · obtain ⟨h9, _⟩ := hf9.heap hq2 hq3
                exact .inr ⟨_, 0, rfl, fun j hj => by
                  obtain rfl : j = 0 := by simpa using hj
                  exact Lib.cell_of_heap h9 0⟩
              rintro e w2 ⟨rfl, o2, hm2, hfr⟩
              rw [HA2.out] at hm2 ⊢
              refine ⟨_, rfl, hK _ _ ?_ trivial rfl⟩
              refine ⟨o2, p1, ?_, fun h9 => ?_, fun h9 => ?_⟩
              · rw [getD_set_eq (i := 8) hls, getD_set_ne (i := 8) (j := 17) (by decide), hlo]; exact hT.fst hm2 hfr
              · rw [getD_set_ne (i := 8) (j := 7) (by decide)] at h9; exact ((hB1 h9).fst hfr).put (by decide) _
              · rw [getD_set_ne (i := 8) (j := 16) (by decide)] at h9; exact ((hB2 h9).fst hfr).put (by decide) _
            refine ⟨?_, ?_⟩
            · -- 9: Go.Op.move (Go.Operand.tmp 9)
              intro listed a w1 hJ hls hl0 hlw hlc hF hU hsz
              have e9 : a.eval (.tmp 9) = _ := hU 9 (by kernel_rfl)
              rw [if_pos (by rfl)]
              intro K hK
              clear hF hU hsz
              obtain ⟨q1, q2, q3⟩ := eval_rest a
              generalize hρ : a.eval = ρ
              rw [hρ] at q1 q2 q3 e9
              clear hρ
              have u1 := OpUp_value Try.prog K
              have u2 := OpUp_enter Try.prog K
              go_simp
              exact hK _ _ ((hJ.quiet (by decide) (by decide) _)) trivial rfl
            refine ⟨?_, ?_⟩
            · -- 10: Go.Op.move (Go.Operand.tmp 0)
              intro listed a w1 hJ hls hl0 hlw hlc hF hU hsz
              have e0 : a.eval (.tmp 0) = _ := hU 0 (by kernel_rfl)
              rw [if_pos (by rfl)]
              intro K hK
              clear hF hU hsz
              obtain ⟨q1, q2, q3⟩ := eval_rest a
              generalize hρ : a.eval = ρ
              rw [hρ] at q1 q2 q3 e0
              clear hρ
              have u1 := OpUp_value Try.prog K
              have u2 := OpUp_enter Try.prog K
              go_simp
              exact hK _ _ ((hJ.quiet (by decide) (by decide) _)) trivial rfl
            refine ⟨?_, ?_⟩
            · -- 11: Go.Op.move (Go.Operand.tmp 11)
              intro listed a w1 hJ hls hl0 hlw hlc hF hU hsz
              have e11 : a.eval (.tmp 11) = _ := hU 11 (by kernel_rfl)
              rw [if_pos (by rfl)]
              intro K hK
              clear hF hU hsz
              obtain ⟨q1, q2, q3⟩ := eval_rest a
              generalize hρ : a.eval = ρ
              rw [hρ] at q1 q2 q3 e11
              clear hρ
              have u1 := OpUp_value Try.prog K
              have u2 := OpUp_enter Try.prog K
              go_simp
              exact hK _ _ ((hJ.quiet (by decide) (by decide) _)) trivial rfl
            refine ⟨?_, ?_⟩
            · -- 12: Go.Op.indexAddr 38 (Go.Operand.tmp 112) (Go.Operand.tmp 113)
              intro listed a w1 hJ hls hl0 hlw hlc hF hU hsz
              have e112 : a.eval (.tmp 112) = _ := hF 10 _ _ rfl rfl (by kernel_rfl)
              have e113 : a.eval (.tmp 113) = _ := hF 11 _ _ rfl rfl (by kernel_rfl)
              rw [if_pos (by rfl)]
              intro K hK
              clear hF hU hsz
              obtain ⟨q1, q2, q3⟩ := eval_rest a
              generalize hρ : a.eval = ρ
              rw [hρ] at q1 q2 q3 e112 e113
              clear hρ
              have u1 := OpUp_value Try.prog K
              have u2 := OpUp_enter Try.prog K
              go_simp
              exact hK _ _ ((hJ.quiet (by decide) (by decide) _)) trivial rfl
            refine ⟨?_, ?_⟩
            · -- 13: Go.Op.fieldAddr 41 (Go.Operand.tmp 114) 1
              intro listed a w1 hJ hls hl0 hlw hlc hF hU hsz
              have e114 : a.eval (.tmp 114) = _ := hF 12 _ _ rfl rfl (by kernel_rfl)
              rw [if_pos (by rfl)]
              intro K hK
              clear hF hU hsz
              obtain ⟨q1, q2, q3⟩ := eval_rest a
              generalize hρ : a.eval = ρ
              rw [hρ] at q1 q2 q3 e114
              clear hρ
              have u1 := OpUp_value Try.prog K
              have u2 := OpUp_enter Try.prog K
              go_simp
              exact hK _ _ ((hJ.quiet (by decide) (by decide) _)) trivial rfl
            refine ⟨?_, ?_⟩
            · -- 14: Go.Op.load 3 (Go.Operand.tmp 115)
              intro listed a w1 hJ hls hl0 hlw hlc hF hU hsz
              have e115 : a.eval (.tmp 115) = _ := hF 13 _ _ rfl rfl (by kernel_rfl)
              rw [if_pos (by rfl)]
              intro K hK
              clear hF hU hsz
              obtain ⟨k0, k1, k2, _⟩ := HAC.out w1 hJ.hb
              obtain ⟨q1, q2, q3⟩ := eval_rest a
              generalize hρ : a.eval = ρ
              rw [hρ] at q1 q2 q3 e115
              clear hρ
              have u1 := OpUp_value Try.prog K
              have u2 := OpUp_enter Try.prog K
              go_simp
              exact hK _ _ ((hJ.quiet (by decide) (by decide) _)) trivial rfl
            refine ⟨?_, ?_⟩
            · -- 15: Go.Op.binOp Go.BinOp.and 3 (Go.Operand.tmp 116) (Go.Operand.const (Go.Value.int 
              intro listed a w1 hJ hls hl0 hlw hlc hF hU hsz
              have e116 : a.eval (.tmp 116) = _ := hF 14 _ _ rfl rfl (by kernel_rfl)
              rw [if_pos (by rfl)]
              intro K hK
              clear hF hU hsz
              obtain ⟨q1, q2, q3⟩ := eval_rest a
              generalize hρ : a.eval = ρ
              rw [hρ] at q1 q2 q3 e116
              clear hρ
              have u1 := OpUp_value Try.prog K
              have u2 := OpUp_enter Try.prog K
              go_simp
              exact hK _ _ ((hJ.quiet (by decide) (by decide) _)) trivial rfl
            refine ⟨?_, ?_⟩
            · -- 16: Go.Op.buildSlice 39 1 #[(0, Go.Operand.tmp 117)]
              intro listed a w1 hJ hls hl0 hlw hlc hF hU hsz
              have e117 : a.eval (.tmp 117) = _ := hF 15 _ _ rfl rfl (by kernel_rfl)
              rw [if_pos (by rfl)]
              intro K hK
              clear hF hU
              have hsz9 : 118 < a.tmps.size := by rw [hsz]; simp only [List.size_toArray, List.length_cons, List.length_nil]; omega
              obtain ⟨q1, q2, q3⟩ := eval_rest a
              generalize hρ : a.eval = ρ
              rw [hρ] at q1 q2 q3 e117
              clear hρ
              have u1 := OpUp_value Try.prog K
              have u2 := OpUp_enter Try.prog K
              go_simp
              have hl0 : listed.getD 16 false = false := hl0
              obtain ⟨o1, p1, hT, hB1, hB2⟩ := hJ
              refine hK _ _ ⟨o1, p1, ?_, ?_, ?_⟩ trivial ⟨_, _, rfl, trivial⟩
              · rw [getD_set_ne (i := 16) (j := 8) (by decide), getD_set_ne (i := 16) (j := 17) (by decide)]; exact hT.below (Below.alloc (Below.refl _ _) (Nat.le_refl _) _)
              · intro h9; rw [getD_set_ne (i := 16) (j := 7) (by decide)] at h9; exact ((hB1 h9).below ((Below.refl _ _).alloc (Nat.le_refl _) _)).put (by decide) _
              · intro _; exact ⟨w1.heap.size, by simp [Act.put, Array.getD_eq_getD_getElem?, hsz9], heap_alloc_new w1 _, hT.l.fresh _ (Nat.le_refl _), hT.r.fresh _ (Nat.le_refl _)⟩
            refine ⟨?_, ?_⟩
            · -- 17: Go.Op.call { callee := Go.Callee.value (Go.Operand.func 28), args := #[Go.Operan
              intro listed a w1 hJ hls hl0 hlw hlc hF hU hsz
              have e111 : a.eval (.tmp 111) = _ := hF 9 _ _ rfl rfl (by kernel_rfl)
              have e118 := hF 16 _ _ rfl rfl (by kernel_rfl)
              obtain ⟨B118, d118, e118, r118⟩ := e118
              have e118 : a.eval (.tmp 118) = _ := e118
              rw [if_pos (by rfl)]
              intro K hK
              clear hF hU hsz
              have h9_ := e118
              rw [Act.eval_getD] at h9_
              obtain ⟨q1, q2, q3⟩ := eval_rest a
              generalize hρ : a.eval = ρ
              rw [hρ] at q1 q2 q3 e111 e118
              clear hρ
              have u1 := OpUp_value Try.prog K
              have u2 := OpUp_enter Try.prog K
              go_simp
              have hl0 : listed.getD 17 false = false := hl0
              have hlo := hlw 8 (by kernel_rfl)
              have hlb := hlw 16 (by kernel_rfl)
              obtain ⟨o1, p1, hT, hB1, hB2⟩ := hJ
              rw [hlo, hl0] at hT
              obtain ⟨q9, hq1, hq2, hq3, hq4⟩ := hB2 hlb
              rw [hq1] at h9_
              injection h9_ with h91; injection h91 with h92; injection h92 with h93 h94
              subst h93; subst h94
              have hT0 := hT
              simp only [if_true, if_false, Bool.false_eq_true] at hT
              refine (mFlush_any n p1 H b1 [at_ % 2] (some ⟨_, 0, none⟩) 1 w1 hT.r (room_mono HI0.out.rm (by omega)) (HI0.out.cb.fit (by omega)) (fun W9 own9 hf9 => ?_) (by simp)).mono ?_
              · obtain ⟨h9, _⟩ := hf9.heap hq2 hq4
                exact .inr ⟨_, 0, rfl, fun j hj => by
                  obtain rfl : j = 0 := by simpa using hj
                  exact Lib.cell_of_heap h9 0⟩
              rintro e w2 ⟨rfl, o2, hm2, hfr⟩
              rw [HB2.out] at hm2 ⊢
              refine ⟨_, rfl, hK _ _ ?_ trivial rfl⟩
              refine ⟨o1, o2, ?_, fun h9 => ?_, fun h9 => ?_⟩
              · rw [getD_set_eq (i := 17) hls, getD_set_ne (i := 17) (j := 8) (by decide), hlo]; exact hT.snd hm2 hfr
              · rw [getD_set_ne (i := 17) (j := 7) (by decide)] at h9; exact ((hB1 h9).snd hfr).put (by decide) _
              · rw [getD_set_ne (i := 17) (j := 16) (by decide)] at h9; exact ((hB2 h9).snd hfr).put (by decide) _
            exact trivial
          case hend =>
            intro vs0 w1 listed hJ hl1 hl2 hH0
            obtain ⟨vs1, rfl, hH1⟩ := hH0.eq_
            obtain ⟨vs2, rfl, hH2⟩ := hH1.eq_
            obtain ⟨vs3, rfl, hH3⟩ := hH2.eq_
            obtain ⟨vs4, rfl, hH4⟩ := hH3.eq_
            obtain ⟨vs5, rfl, hH5⟩ := hH4.eq_
            obtain ⟨vs6, rfl, hH6⟩ := hH5.eq_
            obtain ⟨vs7, rfl, hH7⟩ := hH6.eq_
            obtain ⟨v7, vs8, rfl, hv7, hH8⟩ := hH7.cons
            obtain ⟨vs9, rfl, hH9⟩ := hH8.eq_
            obtain ⟨vs10, rfl, hH10⟩ := hH9.eq_
            obtain ⟨vs11, rfl, hH11⟩ := hH10.eq_
            obtain ⟨vs12, rfl, hH12⟩ := hH11.eq_
            obtain ⟨vs13, rfl, hH13⟩ := hH12.eq_
            obtain ⟨vs14, rfl, hH14⟩ := hH13.eq_
            obtain ⟨vs15, rfl, hH15⟩ := hH14.eq_
            obtain ⟨vs16, rfl, hH16⟩ := hH15.eq_
            obtain ⟨v16, vs17, rfl, hv16, hH17⟩ := hH16.cons
            obtain ⟨vs18, rfl, hH18⟩ := hH17.eq_
            obtain rfl := hH18.nil
            clear hH0 hH1 hH2 hH3 hH4 hH5 hH6 hH7 hH8 hH9 hH10 hH11 hH12 hH13 hH14 hH15 hH16 hH17 hH18
            simp only [List.take_succ_cons, List.take_zero, putAll, Act.put, List.setIfInBounds_toArray, List.set_cons_zero, List.set_cons_succ]
            obtain ⟨o3, p3, hT, _, _⟩ := hJ
            rw [hl1 8 (by decide), hl1 17 (by decide)] at hT
            have HT := Lib.hid hT
            simp only [if_true] at HT
            obtain ⟨_, _, rfl, _⟩ := hv7
            obtain ⟨_, _, rfl, _⟩ := hv16
            clear hT hl1 hl2
            go_wp2_with fail
            have KO1 := Lib.hid (mOff_any HT.out.l)
            have KO2 := Lib.hid (mOff_any HT.out.r)
            rw [ho1] at KO1
            rw [ho2] at KO2
            clear ho1 ho2
            refine KO1.out.mono ?_
            rintro e w6 ⟨rfl, rfl⟩
            go_wp2_with fail
            refine KO2.out.mono ?_
            rintro e w6 ⟨rfl, rfl⟩
            go_wp2
            go_roundw
            case rel => exact ⟨k + 1, by omega, by go_num, _, _, _, _, HT.out, HI.out⟩
            case measure => simp [intOf]; omega
        have hq1 := actA2 at_ v ma h0 h1
        have hq2 := actA2 at_ v b1 h0 h1
        rw [hq1] at hr1 hi
        rw [hq2] at hr2 hi
        clear hq1 hq2
        have hr1 : (ma.fence).2 = 14 := hr1
        have hr2 : (b1.fence).2 = 14 := hr2
        obtain ⟨a2, ha2⟩ : ∃ q, (ma.fence) = (q, 14) := ⟨_, Prod.ext rfl hr1⟩
        obtain ⟨b2, hb2⟩ : ∃ q, (b1.fence) = (q, 14) := ⟨_, Prod.ext rfl hr2⟩
        have hi : FuI ks c (k + 1) (ma.fence).1 (b1.fence).1 := hi
        rw [ha2, hb2] at hi
        simp only at hi
        have HA2 := Lib.hid ha2
        have HB2 := Lib.hid hb2
        clear ha2 hb2 hr1 hr2
        obtain ⟨ho1, ho2⟩ := hi.dead (by omega)
        have HI0 := Lib.hid HI.out
        have HI := Lib.hid hi
        clear hi

        have h0b : (op == 0) = false := by rw [beq_eq_false_iff_ne]; exact h0
        have h1b : (op == 1) = false := by rw [beq_eq_false_iff_ne]; exact h1
        clear h0 h1
        go_wp2_with fail
        have KF := Lib.hid (mFence_any m _ G ma _ HT.out.l (room_mono HI0.out.ra (by omega)) (HI0.out.ca.fit (by omega)))
        rw [HA2.out] at KF
        refine KF.out.mono ?_
        rintro e w2 ⟨rfl, o2, hm2, hfr⟩
        have HT := Lib.hid (HT.out.fst hm2 hfr)
        clear hm2 hfr KF k0
        obtain ⟨k0, _⟩ := HAC.out w2 HT.out.hb
        have KF := Lib.hid (mFence_any n _ H b1 _ HT.out.r (room_mono HI0.out.rm (by omega)) (HI0.out.cb.fit (by omega)))
        rw [HB2.out] at KF
        go_wp2_with fail
        refine KF.out.mono ?_
        rintro e w3 ⟨rfl, o3, hm2, hfr⟩
        have HT := Lib.hid (HT.out.snd hm2 hfr)
        clear hm2 hfr KF k0
        go_wp2_with fail
        have KO1 := Lib.hid (mOff_any HT.out.l)
        have KO2 := Lib.hid (mOff_any HT.out.r)
        rw [ho1] at KO1
        rw [ho2] at KO2
        clear ho1 ho2
        refine KO1.out.mono ?_
        rintro e w6 ⟨rfl, rfl⟩
        go_wp2_with fail
        refine KO2.out.mono ?_
        rintro e w6 ⟨rfl, rfl⟩
        go_wp2
        go_roundw
        case rel => exact ⟨k + 1, by omega, by go_num, _, _, _, _, HT.out, HI.out⟩
        case measure => simp [intOf]; omega
      have g2 : ((k : Int) + 1 == c) = false := by rw [beq_eq_false_iff_ne]; omega
      obtain ⟨hr1, hr2, hi⟩ := HI.out.late (by omega) op at_ v
      obtain ⟨k0, _⟩ := HAC.out wr HT.out.hb
      by_cases h0 : op = 0
      · subst h0
        have hr1 : (ma.store (at_ % 16) v).2 = 14 := hr1
        have hr2 : (mb.store (at_ % 16) v).2 = 14 := hr2
        obtain ⟨a2, ha2⟩ : ∃ q, (ma.store (at_ % 16) v) = (q, 14) := ⟨_, Prod.ext rfl hr1⟩
        obtain ⟨b2, hb2⟩ : ∃ q, (mb.store (at_ % 16) v) = (q, 14) := ⟨_, Prod.ext rfl hr2⟩
        have hi : FuI ks c (k + 1) (ma.store (at_ % 16) v).1 (mb.store (at_ % 16) v).1 := hi
        rw [ha2, hb2] at hi
        simp only at hi
        have HA2 := Lib.hid ha2
        have HB2 := Lib.hid hb2
        clear ha2 hb2 hr1 hr2
        obtain ⟨ho1, ho2⟩ := hi.dead (by omega)
        have HI0 := Lib.hid HI.out
        have HI := Lib.hid hi
        clear hi

        go_wp2_with fail
        apply wp_region_j (fun l w9 => TwJ w m G ma a2 n H mb b2 (l.getD 12 false) (l.getD 25 false) w9) 144 26 (Eqs _ :: Eqs _ :: Eqs _ :: Eqs _ :: Eqs _ :: Eqs _ :: Eqs _ :: Eqs _ :: Eqs _ :: Eqs _ :: Eqs _ :: Eqs _ :: Eqs _ :: Eqs _ :: Eqs _ :: Eqs _ :: Eqs _ :: Eqs _ :: Eqs _ :: Eqs _ :: Eqs _ :: Eqs _ :: Eqs _ :: Eqs _ :: Eqs _ :: Eqs _ :: []) (by kernel_rfl) (by rfl) rfl (stab_cons (stab_eq _) (stab_cons (stab_eq _) (stab_cons (stab_eq _) (stab_cons (stab_eq _) (stab_cons (stab_eq _) (stab_cons (stab_eq _) (stab_cons (stab_eq _) (stab_cons (stab_eq _) (stab_cons (stab_eq _) (stab_cons (stab_eq _) (stab_cons (stab_eq _) (stab_cons (stab_eq _) (stab_cons (stab_eq _) (stab_cons (stab_eq _) (stab_cons (stab_eq _) (stab_cons (stab_eq _) (stab_cons (stab_eq _) (stab_cons (stab_eq _) (stab_cons (stab_eq _) (stab_cons (stab_eq _) (stab_cons (stab_eq _) (stab_cons (stab_eq _) (stab_cons (stab_eq _) (stab_cons (stab_eq _) (stab_cons (stab_eq _) (stab_cons (stab_eq _) stab_nil)))))))))))))))))))))))))) (by kernel_rfl) (by kernel_rfl) (by kernel_rfl) (by kernel_rfl)
        case h0 =>
          exact ⟨_, _, HT.out.below (Stood.cur (Stood.refl _))⟩
        case hstep =>
          simp only [List.take_succ_cons, List.take_zero]
          refine ⟨?_, ?_⟩
          · -- 0: Go.Op.move (Go.Operand.tmp 7)
            intro listed a w1 hJ hls hl0 hlw hlc hF hU hsz
            have e7 : a.eval (.tmp 7) = _ := hU 7 (by kernel_rfl)
            rw [if_pos (by rfl)]
            intro K hK
            clear hF hU hsz
            obtain ⟨q1, q2, q3⟩ := eval_rest a
            generalize hρ : a.eval = ρ
            rw [hρ] at q1 q2 q3 e7
            clear hρ
            have u1 := OpUp_value Try.prog K
            have u2 := OpUp_enter Try.prog K
            go_simp
            exact hK _ _ (hJ.quiet (by decide) (by decide)) trivial rfl
          refine ⟨?_, ?_⟩
          · -- 1: Go.Op.move (Go.Operand.tmp 0)
            intro listed a w1 hJ hls hl0 hlw hlc hF hU hsz
            have e0 : a.eval (.tmp 0) = _ := hU 0 (by kernel_rfl)
            rw [if_pos (by rfl)]
            intro K hK
            clear hF hU hsz
            obtain ⟨q1, q2, q3⟩ := eval_rest a
            generalize hρ : a.eval = ρ
            rw [hρ] at q1 q2 q3 e0
            clear hρ
            have u1 := OpUp_value Try.prog K
            have u2 := OpUp_enter Try.prog K
            go_simp
            exact hK _ _ (hJ.quiet (by decide) (by decide)) trivial rfl
          refine ⟨?_, ?_⟩
          · -- 2: Go.Op.move (Go.Operand.tmp 11)
            intro listed a w1 hJ hls hl0 hlw hlc hF hU hsz
            have e11 : a.eval (.tmp 11) = _ := hU 11 (by kernel_rfl)
            rw [if_pos (by rfl)]
            intro K hK
            clear hF hU hsz
            obtain ⟨q1, q2, q3⟩ := eval_rest a
            generalize hρ : a.eval = ρ
            rw [hρ] at q1 q2 q3 e11
            clear hρ
            have u1 := OpUp_value Try.prog K
            have u2 := OpUp_enter Try.prog K
            go_simp
            exact hK _ _ (hJ.quiet (by decide) (by decide)) trivial rfl
          refine ⟨?_, ?_⟩
          · -- 3: Go.Op.indexAddr 38 (Go.Operand.tmp 75) (Go.Operand.tmp 76)
            intro listed a w1 hJ hls hl0 hlw hlc hF hU hsz
            have e75 : a.eval (.tmp 75) = _ := hF 1 _ _ rfl rfl (by kernel_rfl)
            have e76 : a.eval (.tmp 76) = _ := hF 2 _ _ rfl rfl (by kernel_rfl)
            rw [if_pos (by rfl)]
            intro K hK
            clear hF hU hsz
            obtain ⟨q1, q2, q3⟩ := eval_rest a
            generalize hρ : a.eval = ρ
            rw [hρ] at q1 q2 q3 e75 e76
            clear hρ
            have u1 := OpUp_value Try.prog K
            have u2 := OpUp_enter Try.prog K
            go_simp
            exact hK _ _ (hJ.quiet (by decide) (by decide)) trivial rfl
          refine ⟨?_, ?_⟩
          · -- 4: Go.Op.fieldAddr 41 (Go.Operand.tmp 77) 1
            intro listed a w1 hJ hls hl0 hlw hlc hF hU hsz
            have e77 : a.eval (.tmp 77) = _ := hF 3 _ _ rfl rfl (by kernel_rfl)
            rw [if_pos (by rfl)]
            intro K hK
            clear hF hU hsz
            obtain ⟨q1, q2, q3⟩ := eval_rest a
            generalize hρ : a.eval = ρ
            rw [hρ] at q1 q2 q3 e77
            clear hρ
            have u1 := OpUp_value Try.prog K
            have u2 := OpUp_enter Try.prog K
            go_simp
            exact hK _ _ (hJ.quiet (by decide) (by decide)) trivial rfl
          refine ⟨?_, ?_⟩
          · -- 5: Go.Op.load 3 (Go.Operand.tmp 78)
            intro listed a w1 hJ hls hl0 hlw hlc hF hU hsz
            have e78 : a.eval (.tmp 78) = _ := hF 4 _ _ rfl rfl (by kernel_rfl)
            rw [if_pos (by rfl)]
            intro K hK
            clear hF hU hsz
            obtain ⟨k0, k1, k2, _⟩ := HAC.out w1 hJ.hb
            obtain ⟨q1, q2, q3⟩ := eval_rest a
            generalize hρ : a.eval = ρ
            rw [hρ] at q1 q2 q3 e78
            clear hρ
            have u1 := OpUp_value Try.prog K
            have u2 := OpUp_enter Try.prog K
            go_simp
            exact hK _ _ (hJ.quiet (by decide) (by decide)) trivial rfl
          refine ⟨?_, ?_⟩
          · -- 6: Go.Op.binOp Go.BinOp.and 3 (Go.Operand.tmp 79) (Go.Operand.const (Go.Value.int G
            intro listed a w1 hJ hls hl0 hlw hlc hF hU hsz
            have e79 : a.eval (.tmp 79) = _ := hF 5 _ _ rfl rfl (by kernel_rfl)
            rw [if_pos (by rfl)]
            intro K hK
            clear hF hU hsz
            obtain ⟨q1, q2, q3⟩ := eval_rest a
            generalize hρ : a.eval = ρ
            rw [hρ] at q1 q2 q3 e79
            clear hρ
            have u1 := OpUp_value Try.prog K
            have u2 := OpUp_enter Try.prog K
            go_simp
            exact hK _ _ (hJ.quiet (by decide) (by decide)) trivial rfl
          refine ⟨?_, ?_⟩
          · -- 7: Go.Op.move (Go.Operand.tmp 0)
            intro listed a w1 hJ hls hl0 hlw hlc hF hU hsz
            have e0 : a.eval (.tmp 0) = _ := hU 0 (by kernel_rfl)
            rw [if_pos (by rfl)]
            intro K hK
            clear hF hU hsz
            obtain ⟨q1, q2, q3⟩ := eval_rest a
            generalize hρ : a.eval = ρ
            rw [hρ] at q1 q2 q3 e0
            clear hρ
            have u1 := OpUp_value Try.prog K
            have u2 := OpUp_enter Try.prog K
            go_simp
            exact hK _ _ (hJ.quiet (by decide) (by decide)) trivial rfl
          refine ⟨?_, ?_⟩
          · -- 8: Go.Op.move (Go.Operand.tmp 11)
            intro listed a w1 hJ hls hl0 hlw hlc hF hU hsz
            have e11 : a.eval (.tmp 11) = _ := hU 11 (by kernel_rfl)
            rw [if_pos (by rfl)]
            intro K hK
            clear hF hU hsz
            obtain ⟨q1, q2, q3⟩ := eval_rest a
            generalize hρ : a.eval = ρ
            rw [hρ] at q1 q2 q3 e11
            clear hρ
            have u1 := OpUp_value Try.prog K
            have u2 := OpUp_enter Try.prog K
            go_simp
            exact hK _ _ (hJ.quiet (by decide) (by decide)) trivial rfl
          refine ⟨?_, ?_⟩
          · -- 9: Go.Op.indexAddr 38 (Go.Operand.tmp 81) (Go.Operand.tmp 82)
            intro listed a w1 hJ hls hl0 hlw hlc hF hU hsz
            have e81 : a.eval (.tmp 81) = _ := hF 7 _ _ rfl rfl (by kernel_rfl)
            have e82 : a.eval (.tmp 82) = _ := hF 8 _ _ rfl rfl (by kernel_rfl)
            rw [if_pos (by rfl)]
            intro K hK
            clear hF hU hsz
            obtain ⟨q1, q2, q3⟩ := eval_rest a
            generalize hρ : a.eval = ρ
            rw [hρ] at q1 q2 q3 e81 e82
            clear hρ
            have u1 := OpUp_value Try.prog K
            have u2 := OpUp_enter Try.prog K
            go_simp
            exact hK _ _ (hJ.quiet (by decide) (by decide)) trivial rfl
          refine ⟨?_, ?_⟩
          · -- 10: Go.Op.fieldAddr 41 (Go.Operand.tmp 83) 2
            intro listed a w1 hJ hls hl0 hlw hlc hF hU hsz
            have e83 : a.eval (.tmp 83) = _ := hF 9 _ _ rfl rfl (by kernel_rfl)
            rw [if_pos (by rfl)]
            intro K hK
            clear hF hU hsz
            obtain ⟨q1, q2, q3⟩ := eval_rest a
            generalize hρ : a.eval = ρ
            rw [hρ] at q1 q2 q3 e83
            clear hρ
            have u1 := OpUp_value Try.prog K
            have u2 := OpUp_enter Try.prog K
            go_simp
            exact hK _ _ (hJ.quiet (by decide) (by decide)) trivial rfl
          refine ⟨?_, ?_⟩
          · -- 11: Go.Op.load 22 (Go.Operand.tmp 84)
            intro listed a w1 hJ hls hl0 hlw hlc hF hU hsz
            have e84 : a.eval (.tmp 84) = _ := hF 10 _ _ rfl rfl (by kernel_rfl)
            rw [if_pos (by rfl)]
            intro K hK
            clear hF hU hsz
            obtain ⟨k0, k1, k2, _⟩ := HAC.out w1 hJ.hb
            obtain ⟨q1, q2, q3⟩ := eval_rest a
            generalize hρ : a.eval = ρ
            rw [hρ] at q1 q2 q3 e84
            clear hρ
            have u1 := OpUp_value Try.prog K
            have u2 := OpUp_enter Try.prog K
            go_simp
            exact hK _ _ (hJ.quiet (by decide) (by decide)) trivial rfl
          refine ⟨?_, ?_⟩
          · -- 12: Go.Op.call { callee := Go.Callee.value (Go.Operand.func 27), args := #[Go.Operan
            intro listed a w1 hJ hls hl0 hlw hlc hF hU hsz
            have e74 : a.eval (.tmp 74) = _ := hF 0 _ _ rfl rfl (by kernel_rfl)
            have e80 : a.eval (.tmp 80) = _ := hF 6 _ _ rfl rfl (by kernel_rfl)
            have e85 : a.eval (.tmp 85) = _ := hF 11 _ _ rfl rfl (by kernel_rfl)
            rw [if_pos (by rfl)]
            intro K hK
            clear hF hU hsz
            obtain ⟨q1, q2, q3⟩ := eval_rest a
            generalize hρ : a.eval = ρ
            rw [hρ] at q1 q2 q3 e74 e80 e85
            clear hρ
            have u1 := OpUp_value Try.prog K
            have u2 := OpUp_enter Try.prog K
            go_simp
            have hl0 : listed.getD 12 false = false := hl0
            have hl25 := hlc 25 _ rfl (by kernel_rfl)
            rw [hl0, hl25] at hJ
            obtain ⟨o1, p1, hT⟩ := hJ
            refine (mStore_any m o1 G ma (at_ % 16) v w1 hT.l (room_mono HI0.out.ra (by omega)) (HI0.out.ca.fit (by omega))).mono ?_
            rintro e w2 ⟨rfl, o2, hm2, hfr⟩
            rw [HA2.out] at hm2 ⊢
            refine ⟨_, rfl, hK _ _ ?_ trivial rfl⟩
            show TwJ _ _ _ _ _ _ _ _ _ ((listed.setIfInBounds 12 true).getD 12 false) ((listed.setIfInBounds 12 true).getD 25 false) w2
            rw [getD_set_eq (i := 12) hls, getD_set_ne (i := 12) (j := 25) (by decide), hl25]
            exact ⟨o2, p1, hT.fst hm2 hfr⟩
          refine ⟨?_, ?_⟩
          · -- 13: Go.Op.move (Go.Operand.tmp 9)
            intro listed a w1 hJ hls hl0 hlw hlc hF hU hsz
            have e9 : a.eval (.tmp 9) = _ := hU 9 (by kernel_rfl)
            rw [if_pos (by rfl)]
            intro K hK
            clear hF hU hsz
            obtain ⟨q1, q2, q3⟩ := eval_rest a
            generalize hρ : a.eval = ρ
            rw [hρ] at q1 q2 q3 e9
            clear hρ
            have u1 := OpUp_value Try.prog K
            have u2 := OpUp_enter Try.prog K
            go_simp
            exact hK _ _ (hJ.quiet (by decide) (by decide)) trivial rfl
          refine ⟨?_, ?_⟩
          · -- 14: Go.Op.move (Go.Operand.tmp 0)
            intro listed a w1 hJ hls hl0 hlw hlc hF hU hsz
            have e0 : a.eval (.tmp 0) = _ := hU 0 (by kernel_rfl)
            rw [if_pos (by rfl)]
            intro K hK
            clear hF hU hsz
            obtain ⟨q1, q2, q3⟩ := eval_rest a
            generalize hρ : a.eval = ρ
            rw [hρ] at q1 q2 q3 e0
            clear hρ
            have u1 := OpUp_value Try.prog K
            have u2 := OpUp_enter Try.prog K
            go_simp
            exact hK _ _ (hJ.quiet (by decide) (by decide)) trivial rfl
          refine ⟨?_, ?_⟩
          · -- 15: Go.Op.move (Go.Operand.tmp 11)
            intro listed a w1 hJ hls hl0 hlw hlc hF hU hsz
            have e11 : a.eval (.tmp 11) = _ := hU 11 (by kernel_rfl)
            rw [if_pos (by rfl)]
            intro K hK
            clear hF hU hsz
            obtain ⟨q1, q2, q3⟩ := eval_rest a
            generalize hρ : a.eval = ρ
            rw [hρ] at q1 q2 q3 e11
            clear hρ
            have u1 := OpUp_value Try.prog K
            have u2 := OpUp_enter Try.prog K
            go_simp
            exact hK _ _ (hJ.quiet (by decide) (by decide)) trivial rfl
          refine ⟨?_, ?_⟩
          · -- 16: Go.Op.indexAddr 38 (Go.Operand.tmp 88) (Go.Operand.tmp 89)
            intro listed a w1 hJ hls hl0 hlw hlc hF hU hsz
            have e88 : a.eval (.tmp 88) = _ := hF 14 _ _ rfl rfl (by kernel_rfl)
            have e89 : a.eval (.tmp 89) = _ := hF 15 _ _ rfl rfl (by kernel_rfl)
            rw [if_pos (by rfl)]
            intro K hK
            clear hF hU hsz
            obtain ⟨q1, q2, q3⟩ := eval_rest a
            generalize hρ : a.eval = ρ
            rw [hρ] at q1 q2 q3 e88 e89
            clear hρ
            have u1 := OpUp_value Try.prog K
            have u2 := OpUp_enter Try.prog K
            go_simp
            exact hK _ _ (hJ.quiet (by decide) (by decide)) trivial rfl
          refine ⟨?_, ?_⟩
          · -- 17: Go.Op.fieldAddr 41 (Go.Operand.tmp 90) 1
            intro listed a w1 hJ hls hl0 hlw hlc hF hU hsz
            have e90 : a.eval (.tmp 90) = _ := hF 16 _ _ rfl rfl (by kernel_rfl)
            rw [if_pos (by rfl)]
            intro K hK
            clear hF hU hsz
            obtain ⟨q1, q2, q3⟩ := eval_rest a
            generalize hρ : a.eval = ρ
            rw [hρ] at q1 q2 q3 e90
            clear hρ
            have u1 := OpUp_value Try.prog K
            have u2 := OpUp_enter Try.prog K
            go_simp
            exact hK _ _ (hJ.quiet (by decide) (by decide)) trivial rfl
          refine ⟨?_, ?_⟩
          · -- 18: Go.Op.load 3 (Go.Operand.tmp 91)
            intro listed a w1 hJ hls hl0 hlw hlc hF hU hsz
            have e91 : a.eval (.tmp 91) = _ := hF 17 _ _ rfl rfl (by kernel_rfl)
            rw [if_pos (by rfl)]
            intro K hK
            clear hF hU hsz
            obtain ⟨k0, k1, k2, _⟩ := HAC.out w1 hJ.hb
            obtain ⟨q1, q2, q3⟩ := eval_rest a
            generalize hρ : a.eval = ρ
            rw [hρ] at q1 q2 q3 e91
            clear hρ
            have u1 := OpUp_value Try.prog K
            have u2 := OpUp_enter Try.prog K
            go_simp
            exact hK _ _ (hJ.quiet (by decide) (by decide)) trivial rfl
          refine ⟨?_, ?_⟩
          · -- 19: Go.Op.binOp Go.BinOp.and 3 (Go.Operand.tmp 92) (Go.Operand.const (Go.Value.int G
            intro listed a w1 hJ hls hl0 hlw hlc hF hU hsz
            have e92 : a.eval (.tmp 92) = _ := hF 18 _ _ rfl rfl (by kernel_rfl)
            rw [if_pos (by rfl)]
            intro K hK
            clear hF hU hsz
            obtain ⟨q1, q2, q3⟩ := eval_rest a
            generalize hρ : a.eval = ρ
            rw [hρ] at q1 q2 q3 e92
            clear hρ
            have u1 := OpUp_value Try.prog K
            have u2 := OpUp_enter Try.prog K
            go_simp
            exact hK _ _ (hJ.quiet (by decide) (by decide)) trivial rfl
          refine ⟨?_, ?_⟩
          · -- 20: Go.Op.move (Go.Operand.tmp 0)
            intro listed a w1 hJ hls hl0 hlw hlc hF hU hsz
            have e0 : a.eval (.tmp 0) = _ := hU 0 (by kernel_rfl)
            rw [if_pos (by rfl)]
            intro K hK
            clear hF hU hsz
            obtain ⟨q1, q2, q3⟩ := eval_rest a
            generalize hρ : a.eval = ρ
            rw [hρ] at q1 q2 q3 e0
            clear hρ
            have u1 := OpUp_value Try.prog K
            have u2 := OpUp_enter Try.prog K
            go_simp
            exact hK _ _ (hJ.quiet (by decide) (by decide)) trivial rfl
          refine ⟨?_, ?_⟩
          · -- 21: Go.Op.move (Go.Operand.tmp 11)
            intro listed a w1 hJ hls hl0 hlw hlc hF hU hsz
            have e11 : a.eval (.tmp 11) = _ := hU 11 (by kernel_rfl)
            rw [if_pos (by rfl)]
            intro K hK
            clear hF hU hsz
            obtain ⟨q1, q2, q3⟩ := eval_rest a
            generalize hρ : a.eval = ρ
            rw [hρ] at q1 q2 q3 e11
            clear hρ
            have u1 := OpUp_value Try.prog K
            have u2 := OpUp_enter Try.prog K
            go_simp
            exact hK _ _ (hJ.quiet (by decide) (by decide)) trivial rfl
          refine ⟨?_, ?_⟩
          · -- 22: Go.Op.indexAddr 38 (Go.Operand.tmp 94) (Go.Operand.tmp 95)
            intro listed a w1 hJ hls hl0 hlw hlc hF hU hsz
            have e94 : a.eval (.tmp 94) = _ := hF 20 _ _ rfl rfl (by kernel_rfl)
            have e95 : a.eval (.tmp 95) = _ := hF 21 _ _ rfl rfl (by kernel_rfl)
            rw [if_pos (by rfl)]
            intro K hK
            clear hF hU hsz
            obtain ⟨q1, q2, q3⟩ := eval_rest a
            generalize hρ : a.eval = ρ
            rw [hρ] at q1 q2 q3 e94 e95
            clear hρ
            have u1 := OpUp_value Try.prog K
            have u2 := OpUp_enter Try.prog K
            go_simp
            exact hK _ _ (hJ.quiet (by decide) (by decide)) trivial rfl
          refine ⟨?_, ?_⟩
          · -- 23: Go.Op.fieldAddr 41 (Go.Operand.tmp 96) 2
            intro listed a w1 hJ hls hl0 hlw hlc hF hU hsz
            have e96 : a.eval (.tmp 96) = _ := hF 22 _ _ rfl rfl (by kernel_rfl)
            rw [if_pos (by rfl)]
            intro K hK
            clear hF hU hsz
            obtain ⟨q1, q2, q3⟩ := eval_rest a
            generalize hρ : a.eval = ρ
            rw [hρ] at q1 q2 q3 e96
            clear hρ
            have u1 := OpUp_value Try.prog K
            have u2 := OpUp_enter Try.prog K
            go_simp
            exact hK _ _ (hJ.quiet (by decide) (by decide)) trivial rfl
          refine ⟨?_, ?_⟩
          · -- 24: Go.Op.load 22 (Go.Operand.tmp 97)
            intro listed a w1 hJ hls hl0 hlw hlc hF hU hsz
            have e97 : a.eval (.tmp 97) = _ := hF 23 _ _ rfl rfl (by kernel_rfl)
            rw [if_pos (by rfl)]
            intro K hK
            clear hF hU hsz
            obtain ⟨k0, k1, k2, _⟩ := HAC.out w1 hJ.hb
            obtain ⟨q1, q2, q3⟩ := eval_rest a
            generalize hρ : a.eval = ρ
            rw [hρ] at q1 q2 q3 e97
            clear hρ
            have u1 := OpUp_value Try.prog K
            have u2 := OpUp_enter Try.prog K
            go_simp
            exact hK _ _ (hJ.quiet (by decide) (by decide)) trivial rfl
          refine ⟨?_, ?_⟩
          · -- 25: Go.Op.call { callee := Go.Callee.value (Go.Operand.func 27), args := #[Go.Operan
            intro listed a w1 hJ hls hl0 hlw hlc hF hU hsz
            have e87 : a.eval (.tmp 87) = _ := hF 13 _ _ rfl rfl (by kernel_rfl)
            have e93 : a.eval (.tmp 93) = _ := hF 19 _ _ rfl rfl (by kernel_rfl)
            have e98 : a.eval (.tmp 98) = _ := hF 24 _ _ rfl rfl (by kernel_rfl)
            rw [if_pos (by rfl)]
            intro K hK
            clear hF hU hsz
            obtain ⟨q1, q2, q3⟩ := eval_rest a
            generalize hρ : a.eval = ρ
            rw [hρ] at q1 q2 q3 e87 e93 e98
            clear hρ
            have u1 := OpUp_value Try.prog K
            have u2 := OpUp_enter Try.prog K
            go_simp
            have hl0 : listed.getD 25 false = false := hl0
            have hl12 := hlw 12 (by kernel_rfl)
            rw [hl0, hl12] at hJ
            obtain ⟨o1, p1, hT⟩ := hJ
            refine (mStore_any n p1 H mb (at_ % 16) v w1 hT.r (room_mono HI0.out.rm (by omega)) (HI0.out.cb.fit (by omega))).mono ?_
            rintro e w2 ⟨rfl, o2, hm2, hfr⟩
            rw [HB2.out] at hm2 ⊢
            refine ⟨_, rfl, hK _ _ ?_ trivial rfl⟩
            show TwJ _ _ _ _ _ _ _ _ _ ((listed.setIfInBounds 25 true).getD 12 false) ((listed.setIfInBounds 25 true).getD 25 false) w2
            rw [getD_set_eq (i := 25) hls, getD_set_ne (i := 25) (j := 12) (by decide), hl12]
            exact ⟨o1, o2, hT.snd hm2 hfr⟩
          exact trivial
        case hend =>
          intro vs0 w1 listed hJ hl1 hl2 hH0
          obtain ⟨vs1, rfl, hH1⟩ := hH0.eq_
          obtain ⟨vs2, rfl, hH2⟩ := hH1.eq_
          obtain ⟨vs3, rfl, hH3⟩ := hH2.eq_
          obtain ⟨vs4, rfl, hH4⟩ := hH3.eq_
          obtain ⟨vs5, rfl, hH5⟩ := hH4.eq_
          obtain ⟨vs6, rfl, hH6⟩ := hH5.eq_
          obtain ⟨vs7, rfl, hH7⟩ := hH6.eq_
          obtain ⟨vs8, rfl, hH8⟩ := hH7.eq_
          obtain ⟨vs9, rfl, hH9⟩ := hH8.eq_
          obtain ⟨vs10, rfl, hH10⟩ := hH9.eq_
          obtain ⟨vs11, rfl, hH11⟩ := hH10.eq_
          obtain ⟨vs12, rfl, hH12⟩ := hH11.eq_
          obtain ⟨vs13, rfl, hH13⟩ := hH12.eq_
          obtain ⟨vs14, rfl, hH14⟩ := hH13.eq_
          obtain ⟨vs15, rfl, hH15⟩ := hH14.eq_
          obtain ⟨vs16, rfl, hH16⟩ := hH15.eq_
          obtain ⟨vs17, rfl, hH17⟩ := hH16.eq_
          obtain ⟨vs18, rfl, hH18⟩ := hH17.eq_
          obtain ⟨vs19, rfl, hH19⟩ := hH18.eq_
          obtain ⟨vs20, rfl, hH20⟩ := hH19.eq_
          obtain ⟨vs21, rfl, hH21⟩ := hH20.eq_
          obtain ⟨vs22, rfl, hH22⟩ := hH21.eq_
          obtain ⟨vs23, rfl, hH23⟩ := hH22.eq_
          obtain ⟨vs24, rfl, hH24⟩ := hH23.eq_
          obtain ⟨vs25, rfl, hH25⟩ := hH24.eq_
          obtain ⟨vs26, rfl, hH26⟩ := hH25.eq_
          obtain rfl := hH26.nil
          clear hH0 hH1 hH2 hH3 hH4 hH5 hH6 hH7 hH8 hH9 hH10 hH11 hH12 hH13 hH14 hH15 hH16 hH17 hH18 hH19 hH20 hH21 hH22 hH23 hH24 hH25 hH26
          simp only [List.take_succ_cons, List.take_zero, putAll, Act.put, List.setIfInBounds_toArray, List.set_cons_zero, List.set_cons_succ]
          rw [hl1 12 (by decide), hl1 25 (by decide)] at hJ
          obtain ⟨o3, p3, hT⟩ := hJ
          have HT := Lib.hid hT
          clear hT hl1 hl2
          go_wp2_with fail
          have KO1 := Lib.hid (mOff_any HT.out.l)
          have KO2 := Lib.hid (mOff_any HT.out.r)
          rw [ho1] at KO1
          rw [ho2] at KO2
          clear ho1 ho2
          refine KO1.out.mono ?_
          rintro e w6 ⟨rfl, rfl⟩
          go_wp2_with fail
          refine KO2.out.mono ?_
          rintro e w6 ⟨rfl, rfl⟩
          go_wp2
          go_roundw
          case rel => exact ⟨k + 1, by omega, by go_num, _, _, _, _, HT.out, HI.out⟩
          case measure => simp [intOf]; omega
      by_cases h1 : op = 1
      · subst h1
        have hr1 : (ma.flush [at_ % 2]).2 = 14 := hr1
        have hr2 : (mb.flush [at_ % 2]).2 = 14 := hr2
        obtain ⟨a2, ha2⟩ : ∃ q, (ma.flush [at_ % 2]) = (q, 14) := ⟨_, Prod.ext rfl hr1⟩
        obtain ⟨b2, hb2⟩ : ∃ q, (mb.flush [at_ % 2]) = (q, 14) := ⟨_, Prod.ext rfl hr2⟩
        have hi : FuI ks c (k + 1) (ma.flush [at_ % 2]).1 (mb.flush [at_ % 2]).1 := hi
        rw [ha2, hb2] at hi
        simp only at hi
        have HA2 := Lib.hid ha2
        have HB2 := Lib.hid hb2
        clear ha2 hb2 hr1 hr2
        obtain ⟨ho1, ho2⟩ := hi.dead (by omega)
        have HI0 := Lib.hid HI.out
        have HI := Lib.hid hi
        clear hi

        clear h0
        go_wp2_with fail
        apply wp_region_ja (fun _ _ => True) (fun _ _ _ _ _ => trivial) (fun _ => trivial) (FlJ w m G ma a2 n H mb b2 (at_ % 2)) 144 18 (Eqs _ :: Eqs _ :: Eqs _ :: Eqs _ :: Eqs _ :: Eqs _ :: Eqs _ :: SlQ :: Eqs _ :: Eqs _ :: Eqs _ :: Eqs _ :: Eqs _ :: Eqs _ :: Eqs _ :: Eqs _ :: SlQ :: Eqs _ :: []) (by kernel_rfl) (by rfl) rfl (stab_cons (stab_eq _) (stab_cons (stab_eq _) (stab_cons (stab_eq _) (stab_cons (stab_eq _) (stab_cons (stab_eq _) (stab_cons (stab_eq _) (stab_cons (stab_eq _) (stab_cons stab_slq (stab_cons (stab_eq _) (stab_cons (stab_eq _) (stab_cons (stab_eq _) (stab_cons (stab_eq _) (stab_cons (stab_eq _) (stab_cons (stab_eq _) (stab_cons (stab_eq _) (stab_cons (stab_eq _) (stab_cons stab_slq (stab_cons (stab_eq _) stab_nil)))))))))))))))))) (by kernel_rfl) (by kernel_rfl) (by kernel_rfl) (by kernel_rfl)
        case h0 =>
          exact ⟨_, _, HT.out.below (Stood.cur (Stood.refl _)), fun h => by simp at h, fun h => by simp at h⟩
        case hstep =>
          simp only [List.take_succ_cons, List.take_zero]
          refine ⟨?_, ?_⟩
          · -- 0: Go.Op.move (Go.Operand.tmp 7)
            intro listed a w1 hJ hls hl0 hlw hlc hF hU hsz
            have e7 : a.eval (.tmp 7) = _ := hU 7 (by kernel_rfl)
            rw [if_pos (by rfl)]
            intro K hK
            clear hF hU hsz
            obtain ⟨q1, q2, q3⟩ := eval_rest a
            generalize hρ : a.eval = ρ
            rw [hρ] at q1 q2 q3 e7
            clear hρ
            have u1 := OpUp_value Try.prog K
            have u2 := OpUp_enter Try.prog K
            go_simp
            exact hK _ _ ((hJ.quiet (by decide) (by decide) _)) trivial rfl
          refine ⟨?_, ?_⟩
          · -- 1: Go.Op.move (Go.Operand.tmp 0)
            intro listed a w1 hJ hls hl0 hlw hlc hF hU hsz
            have e0 : a.eval (.tmp 0) = _ := hU 0 (by kernel_rfl)
            rw [if_pos (by rfl)]
            intro K hK
            clear hF hU hsz
            obtain ⟨q1, q2, q3⟩ := eval_rest a
            generalize hρ : a.eval = ρ
            rw [hρ] at q1 q2 q3 e0
            clear hρ
            have u1 := OpUp_value Try.prog K
            have u2 := OpUp_enter Try.prog K
            go_simp
            exact hK _ _ ((hJ.quiet (by decide) (by decide) _)) trivial rfl
          refine ⟨?_, ?_⟩
          · -- 2: Go.Op.move (Go.Operand.tmp 11)
            intro listed a w1 hJ hls hl0 hlw hlc hF hU hsz
            have e11 : a.eval (.tmp 11) = _ := hU 11 (by kernel_rfl)
            rw [if_pos (by rfl)]
            intro K hK
            clear hF hU hsz
            obtain ⟨q1, q2, q3⟩ := eval_rest a
            generalize hρ : a.eval = ρ
            rw [hρ] at q1 q2 q3 e11
            clear hρ
            have u1 := OpUp_value Try.prog K
            have u2 := OpUp_enter Try.prog K
            go_simp
            exact hK _ _ ((hJ.quiet (by decide) (by decide) _)) trivial rfl
          refine ⟨?_, ?_⟩
          · -- 3: Go.Op.indexAddr 38 (Go.Operand.tmp 103) (Go.Operand.tmp 104)
            intro listed a w1 hJ hls hl0 hlw hlc hF hU hsz
            have e103 : a.eval (.tmp 103) = _ := hF 1 _ _ rfl rfl (by kernel_rfl)
            have e104 : a.eval (.tmp 104) = _ := hF 2 _ _ rfl rfl (by kernel_rfl)
            rw [if_pos (by rfl)]
            intro K hK
            clear hF hU hsz
            obtain ⟨q1, q2, q3⟩ := eval_rest a
            generalize hρ : a.eval = ρ
            rw [hρ] at q1 q2 q3 e103 e104
            clear hρ
            have u1 := OpUp_value Try.prog K
            have u2 := OpUp_enter Try.prog K
            go_simp
            exact hK _ _ ((hJ.quiet (by decide) (by decide) _)) trivial rfl
          refine ⟨?_, ?_⟩
          · -- 4: Go.Op.fieldAddr 41 (Go.Operand.tmp 105) 1
            intro listed a w1 hJ hls hl0 hlw hlc hF hU hsz
            have e105 : a.eval (.tmp 105) = _ := hF 3 _ _ rfl rfl (by kernel_rfl)
            rw [if_pos (by rfl)]
            intro K hK
            clear hF hU hsz
            obtain ⟨q1, q2, q3⟩ := eval_rest a
            generalize hρ : a.eval = ρ
            rw [hρ] at q1 q2 q3 e105
            clear hρ
            have u1 := OpUp_value Try.prog K
            have u2 := OpUp_enter Try.prog K
            go_simp
            exact hK _ _ ((hJ.quiet (by decide) (by decide) _)) trivial rfl
          refine ⟨?_, ?_⟩
          · -- 5: Go.Op.load 3 (Go.Operand.tmp 106)
            intro listed a w1 hJ hls hl0 hlw hlc hF hU hsz
            have e106 : a.eval (.tmp 106) = _ := hF 4 _ _ rfl rfl (by kernel_rfl)
            rw [if_pos (by rfl)]
            intro K hK
            clear hF hU hsz
            obtain ⟨k0, k1, k2, _⟩ := HAC.out w1 hJ.hb
            obtain ⟨q1, q2, q3⟩ := eval_rest a
            generalize hρ : a.eval = ρ
            rw [hρ] at q1 q2 q3 e106
            clear hρ
            have u1 := OpUp_value Try.prog K
            have u2 := OpUp_enter Try.prog K
            go_simp
            exact hK _ _ ((hJ.quiet (by decide) (by decide) _)) trivial rfl
          refine ⟨?_, ?_⟩
          · -- 6: Go.Op.binOp Go.BinOp.and 3 (Go.Operand.tmp 107) (Go.Operand.const (Go.Value.int 
            intro listed a w1 hJ hls hl0 hlw hlc hF hU hsz
            have e107 : a.eval (.tmp 107) = _ := hF 5 _ _ rfl rfl (by kernel_rfl)
            rw [if_pos (by rfl)]
            intro K hK
            clear hF hU hsz
            obtain ⟨q1, q2, q3⟩ := eval_rest a
            generalize hρ : a.eval = ρ
            rw [hρ] at q1 q2 q3 e107
            clear hρ
            have u1 := OpUp_value Try.prog K
            have u2 := OpUp_enter Try.prog K
            go_simp
            exact hK _ _ ((hJ.quiet (by decide) (by decide) _)) trivial rfl
          refine ⟨?_, ?_⟩
          · -- 7: Go.Op.buildSlice 39 1 #[(0, Go.Operand.tmp 108)]
            intro listed a w1 hJ hls hl0 hlw hlc hF hU hsz
            have e108 : a.eval (.tmp 108) = _ := hF 6 _ _ rfl rfl (by kernel_rfl)
            rw [if_pos (by rfl)]
            intro K hK
            clear hF hU
            have hsz9 : 109 < a.tmps.size := by rw [hsz]; simp only [List.size_toArray, List.length_cons, List.length_nil]; omega
            obtain ⟨q1, q2, q3⟩ := eval_rest a
            generalize hρ : a.eval = ρ
            rw [hρ] at q1 q2 q3 e108
            clear hρ
            have u1 := OpUp_value Try.prog K
            have u2 := OpUp_enter Try.prog K
            go_simp
            have hl0 : listed.getD 7 false = false := hl0
            obtain ⟨o1, p1, hT, hB1, hB2⟩ := hJ
            refine hK _ _ ⟨o1, p1, ?_, ?_, ?_⟩ trivial ⟨_, _, rfl, trivial⟩
            · rw [getD_set_ne (i := 7) (j := 8) (by decide), getD_set_ne (i := 7) (j := 17) (by decide)]; exact hT.below (Below.alloc (Below.refl _ _) (Nat.le_refl _) _)
            · intro _; exact ⟨w1.heap.size, by simp [Act.put, Array.getD_eq_getD_getElem?, hsz9], heap_alloc_new w1 _, hT.l.fresh _ (Nat.le_refl _), hT.r.fresh _ (Nat.le_refl _)⟩
            · intro h9; rw [getD_set_ne (i := 7) (j := 16) (by decide)] at h9; exact ((hB2 h9).below ((Below.refl _ _).alloc (Nat.le_refl _) _)).put (by decide) _
          refine ⟨?_, ?_⟩
          · -- 8: Go.Op.call { callee := Go.Callee.value (Go.Operand.func 28), args := #[Go.Operan
            intro listed a w1 hJ hls hl0 hlw hlc hF hU hsz
            have e102 : a.eval (.tmp 102) = _ := hF 0 _ _ rfl rfl (by kernel_rfl)
            have e109 := hF 7 _ _ rfl rfl (by kernel_rfl)
            obtain ⟨B109, d109, e109, r109⟩ := e109
            have e109 : a.eval (.tmp 109) = _ := e109
            rw [if_pos (by rfl)]
            intro K hK
            clear hF hU hsz
            have h9_ := e109
            rw [Act.eval_getD] at h9_
            obtain ⟨q1, q2, q3⟩ := eval_rest a
            generalize hρ : a.eval = ρ
            rw [hρ] at q1 q2 q3 e102 e109
            clear hρ
            have u1 := OpUp_value Try.prog K
            have u2 := OpUp_enter Try.prog K
            go_simp
            have hl0 : listed.getD 8 false = false := hl0
            have hlo := hlc 17 _ rfl (by kernel_rfl)
            have hlb := hlw 7 (by kernel_rfl)
            obtain ⟨o1, p1, hT, hB1, hB2⟩ := hJ
            rw [hl0, hlo] at hT
            obtain ⟨q9, hq1, hq2, hq3, hq4⟩ := hB1 hlb
            rw [hq1] at h9_
            injection h9_ with h91; injection h91 with h92; injection h92 with h93 h94
            subst h93; subst h94
            have hT0 := hT
            simp only [if_true, if_false, Bool.false_eq_true] at hT
            refine (mFlush_any m o1 G ma [at_ % 2] (some ⟨_, 0, none⟩) 1 w1 hT.l (room_mono HI0.out.ra (by omega)) (HI0.out.ca.fit (by omega)) (fun W9 own9 hf9 => ?_) (by simp)).mono ?_
            · obtain ⟨h9, _⟩ := hf9.heap hq2 hq3
              exact .inr ⟨_, 0, rfl, fun j hj => by
                obtain rfl : j = 0 := by simpa using hj
                exact Lib.cell_of_heap h9 0⟩
            rintro e w2 ⟨rfl, o2, hm2, hfr⟩
            rw [HA2.out] at hm2 ⊢
            refine ⟨_, rfl, hK _ _ ?_ trivial rfl⟩
            refine ⟨o2, p1, ?_, fun h9 => ?_, fun h9 => ?_⟩
            · rw [getD_set_eq (i := 8) hls, getD_set_ne (i := 8) (j := 17) (by decide), hlo]; exact hT.fst hm2 hfr
            · rw [getD_set_ne (i := 8) (j := 7) (by decide)] at h9; exact ((hB1 h9).fst hfr).put (by decide) _
            · rw [getD_set_ne (i := 8) (j := 16) (by decide)] at h9; exact ((hB2 h9).fst hfr).put (by decide) _
          refine ⟨?_, ?_⟩
          · -- 9: Go.Op.move (Go.Operand.tmp 9)
            intro listed a w1 hJ hls hl0 hlw hlc hF hU hsz
            have e9 : a.eval (.tmp 9) = _ := hU 9 (by kernel_rfl)
            rw [if_pos (by rfl)]
            intro K hK
            clear hF hU hsz
            obtain ⟨q1, q2, q3⟩ := eval_rest a
            generalize hρ : a.eval = ρ
            rw [hρ] at q1 q2 q3 e9
            clear hρ
            have u1 := OpUp_value Try.prog K
            have u2 := OpUp_enter Try.prog K
            go_simp
            exact hK _ _ ((hJ.quiet (by decide) (by decide) _)) trivial rfl
          refine ⟨?_, ?_⟩
          · -- 10: Go.Op.move (Go.Operand.tmp 0)
            intro listed a w1 hJ hls hl0 hlw hlc hF hU hsz
            have e0 : a.eval (.tmp 0) = _ := hU 0 (by kernel_rfl)
            rw [if_pos (by rfl)]
            intro K hK
            clear hF hU hsz
            obtain ⟨q1, q2, q3⟩ := eval_rest a
            generalize hρ : a.eval = ρ
            rw [hρ] at q1 q2 q3 e0
            clear hρ
            have u1 := OpUp_value Try.prog K
            have u2 := OpUp_enter Try.prog K
            go_simp
            exact hK _ _ ((hJ.quiet (by decide) (by decide) _)) trivial rfl
          refine ⟨?_, ?_⟩
          · -- 11: Go.Op.move (Go.Operand.tmp 11)
            intro listed a w1 hJ hls hl0 hlw hlc hF hU hsz
            have e11 : a.eval (.tmp 11) = _ := hU 11 (by kernel_rfl)
            rw [if_pos (by rfl)]
            intro K hK
            clear hF hU hsz
            obtain ⟨q1, q2, q3⟩ := eval_rest a
            generalize hρ : a.eval = ρ
            rw [hρ] at q1 q2 q3 e11
            clear hρ
            have u1 := OpUp_value Try.prog K
            have u2 := OpUp_enter Try.prog K
            go_simp
            exact hK _ _ ((hJ.quiet (by decide) (by decide) _)) trivial rfl
          refine ⟨?_, ?_⟩
          · -- 12: Go.Op.indexAddr 38 (Go.Operand.tmp 112) (Go.Operand.tmp 113)
            intro listed a w1 hJ hls hl0 hlw hlc hF hU hsz
            have e112 : a.eval (.tmp 112) = _ := hF 10 _ _ rfl rfl (by kernel_rfl)
            have e113 : a.eval (.tmp 113) = _ := hF 11 _ _ rfl rfl (by kernel_rfl)
            rw [if_pos (by rfl)]
            intro K hK
            clear hF hU hsz
            obtain ⟨q1, q2, q3⟩ := eval_rest a
            generalize hρ : a.eval = ρ
            rw [hρ] at q1 q2 q3 e112 e113
            clear hρ
            have u1 := OpUp_value Try.prog K
            have u2 := OpUp_enter Try.prog K
            go_simp
            exact hK _ _ ((hJ.quiet (by decide) (by decide) _)) trivial rfl
          refine ⟨?_, ?_⟩
          · -- 13: Go.Op.fieldAddr 41 (Go.Operand.tmp 114) 1
            intro listed a w1 hJ hls hl0 hlw hlc hF hU hsz
            have e114 : a.eval (.tmp 114) = _ := hF 12 _ _ rfl rfl (by kernel_rfl)
            rw [if_pos (by rfl)]
            intro K hK
            clear hF hU hsz
            obtain ⟨q1, q2, q3⟩ := eval_rest a
            generalize hρ : a.eval = ρ
            rw [hρ] at q1 q2 q3 e114
            clear hρ
            have u1 := OpUp_value Try.prog K
            have u2 := OpUp_enter Try.prog K
            go_simp
            exact hK _ _ ((hJ.quiet (by decide) (by decide) _)) trivial rfl
          refine ⟨?_, ?_⟩
          · -- 14: Go.Op.load 3 (Go.Operand.tmp 115)
            intro listed a w1 hJ hls hl0 hlw hlc hF hU hsz
            have e115 : a.eval (.tmp 115) = _ := hF 13 _ _ rfl rfl (by kernel_rfl)
            rw [if_pos (by rfl)]
            intro K hK
            clear hF hU hsz
            obtain ⟨k0, k1, k2, _⟩ := HAC.out w1 hJ.hb
            obtain ⟨q1, q2, q3⟩ := eval_rest a
            generalize hρ : a.eval = ρ
            rw [hρ] at q1 q2 q3 e115
            clear hρ
            have u1 := OpUp_value Try.prog K
            have u2 := OpUp_enter Try.prog K
            go_simp
            exact hK _ _ ((hJ.quiet (by decide) (by decide) _)) trivial rfl
          refine ⟨?_, ?_⟩
          · -- 15: Go.Op.binOp Go.BinOp.and 3 (Go.Operand.tmp 116) (Go.Operand.const (Go.Value.int 
            intro listed a w1 hJ hls hl0 hlw hlc hF hU hsz
            have e116 : a.eval (.tmp 116) = _ := hF 14 _ _ rfl rfl (by kernel_rfl)
            rw [if_pos (by rfl)]
            intro K hK
            clear hF hU hsz
            obtain ⟨q1, q2, q3⟩ := eval_rest a
            generalize hρ : a.eval = ρ
            rw [hρ] at q1 q2 q3 e116
            clear hρ
            have u1 := OpUp_value Try.prog K
            have u2 := OpUp_enter Try.prog K
            go_simp
            exact hK _ _ ((hJ.quiet (by decide) (by decide) _)) trivial rfl
          refine ⟨?_, ?_⟩
          · -- 16: Go.Op.buildSlice 39 1 #[(0, Go.Operand.tmp 117)]
            intro listed a w1 hJ hls hl0 hlw hlc hF hU hsz
            have e117 : a.eval (.tmp 117) = _ := hF 15 _ _ rfl rfl (by kernel_rfl)
            rw [if_pos (by rfl)]
            intro K hK
            clear hF hU
            have hsz9 : 118 < a.tmps.size := by rw [hsz]; simp only [List.size_toArray, List.length_cons, List.length_nil]; omega
            obtain ⟨q1, q2, q3⟩ := eval_rest a
            generalize hρ : a.eval = ρ
            rw [hρ] at q1 q2 q3 e117
            clear hρ
            have u1 := OpUp_value Try.prog K
            have u2 := OpUp_enter Try.prog K
            go_simp
            have hl0 : listed.getD 16 false = false := hl0
            obtain ⟨o1, p1, hT, hB1, hB2⟩ := hJ
            refine hK _ _ ⟨o1, p1, ?_, ?_, ?_⟩ trivial ⟨_, _, rfl, trivial⟩
            · rw [getD_set_ne (i := 16) (j := 8) (by decide), getD_set_ne (i := 16) (j := 17) (by decide)]; exact hT.below (Below.alloc (Below.refl _ _) (Nat.le_refl _) _)
            · intro h9; rw [getD_set_ne (i := 16) (j := 7) (by decide)] at h9; exact ((hB1 h9).below ((Below.refl _ _).alloc (Nat.le_refl _) _)).put (by decide) _
            · intro _; exact ⟨w1.heap.size, by simp [Act.put, Array.getD_eq_getD_getElem?, hsz9], heap_alloc_new w1 _, hT.l.fresh _ (Nat.le_refl _), hT.r.fresh _ (Nat.le_refl _)⟩
          refine ⟨?_, ?_⟩
          · -- 17: Go.Op.call { callee := Go.Callee.value (Go.Operand.func 28), args := #[Go.Operan
            intro listed a w1 hJ hls hl0 hlw hlc hF hU hsz
            have e111 : a.eval (.tmp 111) = _ := hF 9 _ _ rfl rfl (by kernel_rfl)
            have e118 := hF 16 _ _ rfl rfl (by kernel_rfl)
            obtain ⟨B118, d118, e118, r118⟩ := e118
            have e118 : a.eval (.tmp 118) = _ := e118
            rw [if_pos (by rfl)]
            intro K hK
            clear hF hU hsz
            have h9_ := e118
            rw [Act.eval_getD] at h9_
            obtain ⟨q1, q2, q3⟩ := eval_rest a
            generalize hρ : a.eval = ρ
            rw [hρ] at q1 q2 q3 e111 e118
            clear hρ
            have u1 := OpUp_value Try.prog K
            have u2 := OpUp_enter Try.prog K
            go_simp
            have hl0 : listed.getD 17 false = false := hl0
            have hlo := hlw 8 (by kernel_rfl)
            have hlb := hlw 16 (by kernel_rfl)
            obtain ⟨o1, p1, hT, hB1, hB2⟩ := hJ
            rw [hlo, hl0] at hT
            obtain ⟨q9, hq1, hq2, hq3, hq4⟩ := hB2 hlb
            rw [hq1] at h9_
            injection h9_ with h91; injection h91 with h92; injection h92 with h93 h94
            subst h93; subst h94
            have hT0 := hT
            simp only [if_true, if_false, Bool.false_eq_true] at hT
            refine (mFlush_any n p1 H mb [at_ % 2] (some ⟨_, 0, none⟩) 1 w1 hT.r (room_mono HI0.out.rm (by omega)) (HI0.out.cb.fit (by omega)) (fun W9 own9 hf9 => ?_) (by simp)).mono ?_
            · obtain ⟨h9, _⟩ := hf9.heap hq2 hq4
              exact .inr ⟨_, 0, rfl, fun j hj => by
                obtain rfl : j = 0 := by simpa using hj
                exact Lib.cell_of_heap h9 0⟩
            rintro e w2 ⟨rfl, o2, hm2, hfr⟩
            rw [HB2.out] at hm2 ⊢
            refine ⟨_, rfl, hK _ _ ?_ trivial rfl⟩
            refine ⟨o1, o2, ?_, fun h9 => ?_, fun h9 => ?_⟩
            · rw [getD_set_eq (i := 17) hls, getD_set_ne (i := 17) (j := 8) (by decide), hlo]; exact hT.snd hm2 hfr
            · rw [getD_set_ne (i := 17) (j := 7) (by decide)] at h9; exact ((hB1 h9).snd hfr).put (by decide) _
            · rw [getD_set_ne (i := 17) (j := 16) (by decide)] at h9; exact ((hB2 h9).snd hfr).put (by decide) _
          exact trivial
        case hend =>
          intro vs0 w1 listed hJ hl1 hl2 hH0
          obtain ⟨vs1, rfl, hH1⟩ := hH0.eq_
          obtain ⟨vs2, rfl, hH2⟩ := hH1.eq_
          obtain ⟨vs3, rfl, hH3⟩ := hH2.eq_
          obtain ⟨vs4, rfl, hH4⟩ := hH3.eq_
          obtain ⟨vs5, rfl, hH5⟩ := hH4.eq_
          obtain ⟨vs6, rfl, hH6⟩ := hH5.eq_
          obtain ⟨vs7, rfl, hH7⟩ := hH6.eq_
          obtain ⟨v7, vs8, rfl, hv7, hH8⟩ := hH7.cons
          obtain ⟨vs9, rfl, hH9⟩ := hH8.eq_
          obtain ⟨vs10, rfl, hH10⟩ := hH9.eq_
          obtain ⟨vs11, rfl, hH11⟩ := hH10.eq_
          obtain ⟨vs12, rfl, hH12⟩ := hH11.eq_
          obtain ⟨vs13, rfl, hH13⟩ := hH12.eq_
          obtain ⟨vs14, rfl, hH14⟩ := hH13.eq_
          obtain ⟨vs15, rfl, hH15⟩ := hH14.eq_
          obtain ⟨vs16, rfl, hH16⟩ := hH15.eq_
          obtain ⟨v16, vs17, rfl, hv16, hH17⟩ := hH16.cons
          obtain ⟨vs18, rfl, hH18⟩ := hH17.eq_
          obtain rfl := hH18.nil
          clear hH0 hH1 hH2 hH3 hH4 hH5 hH6 hH7 hH8 hH9 hH10 hH11 hH12 hH13 hH14 hH15 hH16 hH17 hH18
          simp only [List.take_succ_cons, List.take_zero, putAll, Act.put, List.setIfInBounds_toArray, List.set_cons_zero, List.set_cons_succ]
          obtain ⟨o3, p3, hT, _, _⟩ := hJ
          rw [hl1 8 (by decide), hl1 17 (by decide)] at hT
          have HT := Lib.hid hT
          simp only [if_true] at HT
          obtain ⟨_, _, rfl, _⟩ := hv7
          obtain ⟨_, _, rfl, _⟩ := hv16
          clear hT hl1 hl2
          go_wp2_with fail
          have KO1 := Lib.hid (mOff_any HT.out.l)
          have KO2 := Lib.hid (mOff_any HT.out.r)
          rw [ho1] at KO1
          rw [ho2] at KO2
          clear ho1 ho2
          refine KO1.out.mono ?_
          rintro e w6 ⟨rfl, rfl⟩
          go_wp2_with fail
          refine KO2.out.mono ?_
          rintro e w6 ⟨rfl, rfl⟩
          go_wp2
          go_roundw
          case rel => exact ⟨k + 1, by omega, by go_num, _, _, _, _, HT.out, HI.out⟩
          case measure => simp [intOf]; omega
      have hq1 := actA2 at_ v ma h0 h1
      have hq2 := actA2 at_ v mb h0 h1
      rw [hq1] at hr1 hi
      rw [hq2] at hr2 hi
      clear hq1 hq2
      have hr1 : (ma.fence).2 = 14 := hr1
      have hr2 : (mb.fence).2 = 14 := hr2
      obtain ⟨a2, ha2⟩ : ∃ q, (ma.fence) = (q, 14) := ⟨_, Prod.ext rfl hr1⟩
      obtain ⟨b2, hb2⟩ : ∃ q, (mb.fence) = (q, 14) := ⟨_, Prod.ext rfl hr2⟩
      have hi : FuI ks c (k + 1) (ma.fence).1 (mb.fence).1 := hi
      rw [ha2, hb2] at hi
      simp only at hi
      have HA2 := Lib.hid ha2
      have HB2 := Lib.hid hb2
      clear ha2 hb2 hr1 hr2
      obtain ⟨ho1, ho2⟩ := hi.dead (by omega)
      have HI0 := Lib.hid HI.out
      have HI := Lib.hid hi
      clear hi

      have h0b : (op == 0) = false := by rw [beq_eq_false_iff_ne]; exact h0
      have h1b : (op == 1) = false := by rw [beq_eq_false_iff_ne]; exact h1
      clear h0 h1
      go_wp2_with fail
      have KF := Lib.hid (mFence_any m _ G ma _ HT.out.l (room_mono HI0.out.ra (by omega)) (HI0.out.ca.fit (by omega)))
      rw [HA2.out] at KF
      refine KF.out.mono ?_
      rintro e w2 ⟨rfl, o2, hm2, hfr⟩
      have HT := Lib.hid (HT.out.fst hm2 hfr)
      clear hm2 hfr KF k0
      obtain ⟨k0, _⟩ := HAC.out w2 HT.out.hb
      have KF := Lib.hid (mFence_any n _ H mb _ HT.out.r (room_mono HI0.out.rm (by omega)) (HI0.out.cb.fit (by omega)))
      rw [HB2.out] at KF
      go_wp2_with fail
      refine KF.out.mono ?_
      rintro e w3 ⟨rfl, o3, hm2, hfr⟩
      have HT := Lib.hid (HT.out.snd hm2 hfr)
      clear hm2 hfr KF k0
      go_wp2_with fail
      have KO1 := Lib.hid (mOff_any HT.out.l)
      have KO2 := Lib.hid (mOff_any HT.out.r)
      rw [ho1] at KO1
      rw [ho2] at KO2
      clear ho1 ho2
      refine KO1.out.mono ?_
      rintro e w6 ⟨rfl, rfl⟩
      go_wp2_with fail
      refine KO2.out.mono ?_
      rintro e w6 ⟨rfl, rfl⟩
      go_wp2
      go_roundw
      case rel => exact ⟨k + 1, by omega, by go_num, _, _, _, _, HT.out, HI.out⟩
      case measure => simp [intOf]; omega
    · obtain rfl : k = l.length := by omega
      have KW := Lib.hid (mWords_any m o G ma wr HT.out.l (room_mono HI.out.ra (by omega)))
      have KW2 := Lib.hid (fun W (hb : Below wr.heap.size wr W) => mWords_any n p H mb W (HT.out.r.below hb) (room_mono HI.out.rm (by omega)))
      have hwl : ma.words.length = 24 := by unfold AM.words; rw [words_len, HI.out.ls, HI.out.len]
      have hwe := words_ls HI.out.ls
      rw [HI.out.ls, HI.out.len] at KW
      rw [HI.out.len, ← hwe] at KW2
      clear hwe
      generalize ma.words = us at *
      have HWL := Lib.hid hwl
      clear hwl
      go_wp2_with fail
      refine KW.out.mono ?_
      rintro e w2 ⟨⟨B, d, rfl, ho⟩, hb⟩
      have HU := Lib.hid ho.rd
      have hbb := hb
      have HB := Lib.hid (HT.out.hb.trans (hb.mono HT.out.hb.size))
      clear ho hb
      go_wp2_with fail
      refine (KW2.out _ hbb).mono ?_
      rintro e w3 ⟨⟨B2, d2, rfl, ho⟩, hb⟩
      have HU := Lib.hid (HU.out.below hb)
      have HU2 := Lib.hid ho.rd
      have HB := Lib.hid (HB.out.trans (hb.mono HB.out.size))
      have KM := Lib.hid (same4_any us us B B2 d d2 w3 HU.out HU2.out (by rw [HWL.out]; unfold maxLen; omega) (by rw [HWL.out]; unfold maxLen; omega))
      rw [beq_self_eq_true, HWL.out] at KM
      clear ho hb hbb
      go_wp2_with fail
      refine KM.out.mono ?_
      rintro e w4 ⟨rfl, hd⟩
      have HB := Lib.hid (HB.out.trans ((hd.below _).mono HB.out.size))
      clear hd
      go_wp2
      go_ret
      exact ⟨rfl, HB.out⟩
end Go.Proofs.Ytoifejinppjeeaa
