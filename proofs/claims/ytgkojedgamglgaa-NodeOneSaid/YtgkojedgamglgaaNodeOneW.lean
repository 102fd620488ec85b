/- The walk of the statement NodeOne. Condition: the runs can be read. -/
import Derived.Test.YtgkojedgamglgaaNodeW3
import Derived.Test.YtgkojedgamglgaaNodeLaw
import Derived.Test.YtgkojedgamglgaaNodeLongW
namespace Go.Proofs.Ytgkojedgamglgaa
open Go.RowKit
set_option linter.unusedVariables false
set_option linter.unusedSimpArgs false
/-- A node whose runs can be read: a fact that lasts. -/
def RdNs (n : NodeN) (rs : List Rn) : Fact := fun v w => ∃ (B : Option Addr) (d : Nat), v = nodeV n B rs d ∧ RdR w B rs
theorem stab_rdN {n : NodeN} {rs : List Rn} : Stab Stood (RdNs n rs) := fun v w w' ⟨B, d, e, hr⟩ h => ⟨B, d, e, hr.below h⟩
theorem nGet_len (xs : List (BitVec 64)) (m : Nat) (hm : xs.length = m) (A : Option Addr) (c base : Nat) (w : World) (ho : OwnU w base A xs c) :
    Calls Try.prog 52 #[.slice A m c] w fun e w' => (∃ B d, e = .returned (.tuple #[nodeV (tellN xs) B (tellR xs) d, .bool (nodeOk xs)]) ∧ RdR w' B (tellR xs)) ∧ Below w.heap.size w w' := by
  subst hm
  exact nGet_any xs A c w ho.rd ho.cap.1 ho.cap.2
set_option maxRecDepth 100000 in
set_option maxHeartbeats 8000000 in
theorem NodeOne_walk (n : NodeN) (rs : List Rn) (A : Option Addr) (c : Nat) (z : Int) (v : BitVec 64) (w : World) (hr : RdR w A rs ∧ RnFit rs ∧ n.Fit) (hc : rs.length ≤ c) (hm : c ≤ maxLen) (hz1 : -9223372036854775808 ≤ z) (hz2 : z ≤ 9223372036854775807) :
    Calls Try.prog 15 #[nodeV n A rs c, .int .i64 z, U v] w fun e w' => e = .returned (.bool true) ∧ Below w.heap.size w w' := by
  have HL := Lib.hid hr.1
  clear hr
  have KA := Lib.hid (fun W => nodeAwake_any W)
  have KP := Lib.hid (fun (W : World) (h : RdR W A rs) => nPut_any n A rs c W h)
  have KI := Lib.hid (fun (W : World) (B : Option Addr) (d : Nat) (h : RdR W B rs) (h4 : rs.length ≤ 1000) => inode_any n B rs d W h h4)
  have KS := Lib.hid (fun (W : World) (B C : Option Addr) (d e : Nat) (h : RdR W B rs) (h2 : RdR W C rs) (h4 : rs.length ≤ 1000) => nodes_same n B C rs d e W h h2 h4)
  have HLN := Lib.hid (nodeW_len n rs)
  have HF4 := Lib.hid (fun h => fits_four (n := n) (rs := rs) h)
  have HBK := Lib.hid (fun h => node_back (n := n) (rs := rs) h)
  have HON := Lib.hid (fun h ht hv k hk => nodeOk_one (n := n) (rs := rs) h ht v hv k hk)
  generalize fitsB n rs = ft at *
  generalize nodeW n rs = xs at *
  have HNE := Lib.hid (show n = ⟨n.t, n.l, n.s⟩ from rfl)
  obtain ⟨t, l, s⟩ := n
  unfold nodeV at *
  simp only at *
  have HX := Lib.hid ((Below.refl w.heap.size w).alloc (Nat.le_refl _) (.cells #[.int .i64 t, .int .i64 l, .int .i64 s, .slice A rs.length c] 84))
  have HBX := Lib.hid (heap_alloc_new w (.cells #[.int .i64 t, .int .i64 l, .int .i64 s, .slice A rs.length c] 84))
  have HL := Lib.hid (HL.out.below HX.out)
  cases ft with
  | false =>
    rw [if_neg (by decide)] at HLN
    go_enter Try.func15, Try.ntmps15
    go_wp2_with fail
    refine (KA.out _).mono ?_
    rintro e w1 ⟨rfl, hb⟩
    have HX := Lib.hid (HX.out.trans (hb.mono HX.out.size))
    have HBX := Lib.hid (heap_below HBX.out hb)
    have HL := Lib.hid (HL.out.below hb)
    clear hb
    have hws := HX.out.size
    obtain ⟨c0, c1, c2, c3⟩ := cells4 HBX.out
    go_wp2_with fail
    refine (KP.out _ HL.out).mono ?_
    rintro e w2 ⟨⟨B, d, rfl, ho⟩, hb⟩
    have HX := Lib.hid (HX.out.trans (hb.mono HX.out.size))
    have HBX := Lib.hid (heap_below HBX.out hb)
    have HL := Lib.hid (HL.out.below hb)
    clear hb
    have HO := Lib.hid ho
    clear ho c0 c1 c2 c3
    rw [show xs.length = 0 from HLN.out]
    obtain ⟨c0, c1, c2, c3⟩ := cells4 HBX.out
    go_wp2
    go_ret
    exact ⟨rfl, HX.out⟩
  | true =>
    rw [if_pos rfl] at HLN
    by_cases hq : t = 0
    · skip
      have k0 : (t == 0) = true := by simp [hq]
      clear hq
      go_enter Try.func15, Try.ntmps15
      go_wp2_with fail
      refine (KA.out _).mono ?_
      rintro e w1 ⟨rfl, hb⟩
      have HX := Lib.hid (HX.out.trans (hb.mono HX.out.size))
      have HBX := Lib.hid (heap_below HBX.out hb)
      have HL := Lib.hid (HL.out.below hb)
      clear hb
      have hws := HX.out.size
      obtain ⟨c0, c1, c2, c3⟩ := cells4 HBX.out
      go_wp2_with fail
      refine (KP.out _ HL.out).mono ?_
      rintro e w2 ⟨⟨B, d, rfl, ho⟩, hb⟩
      have HX := Lib.hid (HX.out.trans (hb.mono HX.out.size))
      have HBX := Lib.hid (heap_below HBX.out hb)
      have HL := Lib.hid (HL.out.below hb)
      clear hb
      have HO := Lib.hid ho
      clear ho c0 c1 c2 c3
      rw [show xs.length = 8 from HLN.out]
      obtain ⟨c0, c1, c2, c3⟩ := cells4 HBX.out
      go_wp2
      go_ret
      exact ⟨rfl, HX.out⟩
    have ht := hq
    clear hq
    by_cases hq : z < 0
    · skip
      have k0 : (t == 0) = false := by rw [beq_eq_false_iff_ne]; exact ht
      go_enter Try.func15, Try.ntmps15
      go_wp2_with fail
      refine (KA.out _).mono ?_
      rintro e w1 ⟨rfl, hb⟩
      have HX := Lib.hid (HX.out.trans (hb.mono HX.out.size))
      have HBX := Lib.hid (heap_below HBX.out hb)
      have HL := Lib.hid (HL.out.below hb)
      clear hb
      have hws := HX.out.size
      obtain ⟨c0, c1, c2, c3⟩ := cells4 HBX.out
      go_wp2_with fail
      refine (KP.out _ HL.out).mono ?_
      rintro e w2 ⟨⟨B, d, rfl, ho⟩, hb⟩
      have HX := Lib.hid (HX.out.trans (hb.mono HX.out.size))
      have HBX := Lib.hid (heap_below HBX.out hb)
      have HL := Lib.hid (HL.out.below hb)
      clear hb
      have HO := Lib.hid ho
      clear ho c0 c1 c2 c3
      rw [show xs.length = 8 from HLN.out]
      obtain ⟨c0, c1, c2, c3⟩ := cells4 HBX.out
      go_wp2
      go_ret
      exact ⟨rfl, HX.out⟩
    have hz0 := hq
    clear hq
    by_cases hq : 7 < z
    · skip
      have k0 : (t == 0) = false := by rw [beq_eq_false_iff_ne]; exact ht
      go_enter Try.func15, Try.ntmps15
      go_wp2_with fail
      refine (KA.out _).mono ?_
      rintro e w1 ⟨rfl, hb⟩
      have HX := Lib.hid (HX.out.trans (hb.mono HX.out.size))
      have HBX := Lib.hid (heap_below HBX.out hb)
      have HL := Lib.hid (HL.out.below hb)
      clear hb
      have hws := HX.out.size
      obtain ⟨c0, c1, c2, c3⟩ := cells4 HBX.out
      go_wp2_with fail
      refine (KP.out _ HL.out).mono ?_
      rintro e w2 ⟨⟨B, d, rfl, ho⟩, hb⟩
      have HX := Lib.hid (HX.out.trans (hb.mono HX.out.size))
      have HBX := Lib.hid (heap_below HBX.out hb)
      have HL := Lib.hid (HL.out.below hb)
      clear hb
      have HO := Lib.hid ho
      clear ho c0 c1 c2 c3
      rw [show xs.length = 8 from HLN.out]
      obtain ⟨c0, c1, c2, c3⟩ := cells4 HBX.out
      go_wp2
      go_ret
      exact ⟨rfl, HX.out⟩
    have hz7 := hq
    clear hq
    by_cases hq : v = 0#64
    · skip
      have k0 : (t == 0) = false := by rw [beq_eq_false_iff_ne]; exact ht
      have k1 : (v == 0#64) = true := by rw [hq]; rfl
      have k2 : (v == BitVec.ofInt 64 0) = true := k1
      clear hq
      go_enter Try.func15, Try.ntmps15
      go_wp2_with fail
      refine (KA.out _).mono ?_
      rintro e w1 ⟨rfl, hb⟩
      have HX := Lib.hid (HX.out.trans (hb.mono HX.out.size))
      have HBX := Lib.hid (heap_below HBX.out hb)
      have HL := Lib.hid (HL.out.below hb)
      clear hb
      have hws := HX.out.size
      obtain ⟨c0, c1, c2, c3⟩ := cells4 HBX.out
      go_wp2_with fail
      refine (KP.out _ HL.out).mono ?_
      rintro e w2 ⟨⟨B, d, rfl, ho⟩, hb⟩
      have HX := Lib.hid (HX.out.trans (hb.mono HX.out.size))
      have HBX := Lib.hid (heap_below HBX.out hb)
      have HL := Lib.hid (HL.out.below hb)
      clear hb
      have HO := Lib.hid ho
      clear ho c0 c1 c2 c3
      rw [show xs.length = 8 from HLN.out]
      obtain ⟨c0, c1, c2, c3⟩ := cells4 HBX.out
      go_wp2
      go_ret
      exact ⟨rfl, HX.out⟩
    have hv := hq
    clear hq
    have k0 : (t == 0) = false := by rw [beq_eq_false_iff_ne]; exact ht
    have k1 : (v == 0#64) = false := by rw [beq_eq_false_iff_ne]; exact hv
    have k2 : (v == BitVec.ofInt 64 0) = false := k1
    have HONE := Lib.hid (HON.out rfl ht hv)
    obtain ⟨hb1, hb2, hb3⟩ := HBK.out rfl
    have HB1 := Lib.hid hb1
    have HB2 := Lib.hid hb2
    have HB3 := Lib.hid hb3
    have HLE := Lib.hid (show rs.length ≤ 1000 by have := HF4.out rfl; omega)
    clear ht hv HON HBK HF4 hb1 hb2 hb3
    obtain ⟨k, rfl⟩ := Int.eq_ofNat_of_zero_le (show 0 ≤ z by omega)
    have hk8 : k < 8 := by omega
    go_enter Try.func15, Try.ntmps15
    go_wp2_with fail
    refine (KA.out _).mono ?_
    rintro e w1 ⟨rfl, hb⟩
    have HX := Lib.hid (HX.out.trans (hb.mono HX.out.size))
    have HBX := Lib.hid (heap_below HBX.out hb)
    have HL := Lib.hid (HL.out.below hb)
    clear hb
    have hws := HX.out.size
    obtain ⟨c0, c1, c2, c3⟩ := cells4 HBX.out
    go_wp2_with fail
    refine (KP.out _ HL.out).mono ?_
    rintro e w2 ⟨⟨B, d, rfl, ho⟩, hb⟩
    have HX := Lib.hid (HX.out.trans (hb.mono HX.out.size))
    have HBX := Lib.hid (heap_below HBX.out hb)
    have HL := Lib.hid (HL.out.below hb)
    clear hb
    have HO := Lib.hid ho
    clear ho c0 c1 c2 c3
    rw [show xs.length = 8 from HLN.out]
    obtain ⟨c0, c1, c2, c3⟩ := cells4 HBX.out
    have KG := Lib.hid (nGet_len xs 8 HLN.out B d _ _ HO.out)
    rw [HB1.out, HB2.out, HB3.out] at KG
    unfold nodeV at KG
    simp only at KG
    go_wp2_with fail
    refine (KG.out).mono ?_
    rintro e w3 ⟨⟨B2, d2, rfl, hr2⟩, hb⟩
    have HX := Lib.hid (HX.out.trans (hb.mono HX.out.size))
    have HBX := Lib.hid (heap_below HBX.out hb)
    have HL := Lib.hid (HL.out.below hb)
    have HO := Lib.hid (HO.out.below hb)
    clear hb
    have HR2 := Lib.hid hr2
    clear hr2 KG c0 c1 c2 c3
    have HBY := Lib.hid (heap_alloc_new w3 (.cells #[.int .i64 t, .int .i64 l, .int .i64 s, .slice B2 rs.length d2] 84))
    have hltX : w.heap.size < w3.heap.size := heap_lt HBX.out
    have hba : Below w3.heap.size w3 (w3.alloc (.cells #[.int .i64 t, .int .i64 l, .int .i64 s, .slice B2 rs.length d2] 84)) := (Below.refl _ _).alloc (Nat.le_refl _) _
    have HX := Lib.hid (HX.out.trans (hba.mono HX.out.size))
    have HBX := Lib.hid (heap_below HBX.out hba)
    have HL := Lib.hid (HL.out.below hba)
    have HO := Lib.hid (HO.out.below hba)
    have HR2 := Lib.hid (HR2.out.below hba)
    clear hba
    have hy : w3.heap.size < (w3.alloc (.cells #[.int .i64 t, .int .i64 l, .int .i64 s, .slice B2 rs.length d2] 84)).heap.size := by simp
    go_wp2_with fail
    apply wp_region_inv' 67 (Eqs _ :: Eqs _ :: Eqs _ :: Eqs _ :: (RdNs ⟨t, l, s⟩ rs) :: Eqs _ :: (RdNs ⟨t, l, s⟩ rs) :: Eqs _ :: Eqs _ :: Eqs _ :: []) (by kernel_rfl) (by rfl) (stab_cons (stab_eq _) (stab_cons (stab_eq _) (stab_cons (stab_eq _) (stab_cons (stab_eq _) (stab_cons stab_rdN (stab_cons (stab_eq _) (stab_cons stab_rdN (stab_cons (stab_eq _) (stab_cons (stab_eq _) (stab_cons (stab_eq _) stab_nil)))))))))) (by kernel_rfl) (by kernel_rfl)
    case hstep =>
      refine StepsOK.cons ?_ ?_
      · -- 0: Go.Op.move (Go.Operand.tmp 9)
        intro a w1 hR1 hF hU hsz
        have e9 : a.eval (.tmp 9) = _ := hU 9 (by kernel_rfl)
        rw [if_pos (by rfl)]
        intro K hK
        clear hF hU hsz
        obtain ⟨q1, q2, q3⟩ := eval_rest a
        generalize hρ : a.eval = ρ
        rw [hρ] at q1 q2 q3 e9
        clear hρ
        have u1 := OpUp_value Try.prog K
        have u2 := OpUp_enter Try.prog K
        go_simp
        exact hK _ _ (Stood.refl _) rfl
      refine StepsOK.cons ?_ ?_
      · -- 1: Go.Op.unOp Go.UnOp.not 4 (Go.Operand.tmp 41)
        intro a w1 hR1 hF hU hsz
        have e41 : a.eval (.tmp 41) = _ := hF 0 _ _ rfl rfl (by kernel_rfl)
        rw [if_pos (by rfl)]
        intro K hK
        clear hF hU hsz
        obtain ⟨q1, q2, q3⟩ := eval_rest a
        generalize hρ : a.eval = ρ
        rw [hρ] at q1 q2 q3 e41
        clear hρ
        have u1 := OpUp_value Try.prog K
        have u2 := OpUp_enter Try.prog K
        go_simp
        exact hK _ _ (Stood.refl _) rfl
      refine StepsOK.cons ?_ ?_
      · -- 2: Go.Op.move (Go.Operand.tmp 42)
        intro a w1 hR1 hF hU hsz
        have e42 : a.eval (.tmp 42) = _ := hF 1 _ _ rfl rfl (by kernel_rfl)
        rw [if_pos (by rfl)]
        intro K hK
        clear hF hU hsz
        obtain ⟨q1, q2, q3⟩ := eval_rest a
        generalize hρ : a.eval = ρ
        rw [hρ] at q1 q2 q3 e42
        clear hρ
        have u1 := OpUp_value Try.prog K
        have u2 := OpUp_enter Try.prog K
        go_simp
        exact hK _ _ (Stood.refl _) rfl
      refine StepsOK.cons ?_ ?_
      · -- 3: Go.Op.load 84 (Go.Operand.tmp 8)
        intro a w1 hR1 hF hU hsz
        have e8 : a.eval (.tmp 8) = _ := hU 8 (by kernel_rfl)
        have e43 : a.eval (.tmp 43) = _ := hF 2 _ _ rfl rfl (by kernel_rfl)
        rw [wanted_guard (ops := _) rfl rfl rfl e43, if_pos (by rfl)]
        intro K hK
        clear hF hU hsz
        obtain ⟨c0_, c1_, c2_, c3_⟩ := cells4 (heap_below HBY.out (Stood.cur hR1))
        obtain ⟨q1, q2, q3⟩ := eval_rest a
        generalize hρ : a.eval = ρ
        rw [hρ] at q1 q2 q3 e8 e43
        clear hρ
        have u1 := OpUp_value Try.prog K
        have u2 := OpUp_enter Try.prog K
        go_simp
        exact hK _ _ (Stood.refl _) rfl
      refine StepsOK.cons ?_ ?_
      · -- 4: Go.Op.call { callee := Go.Callee.value (Go.Operand.func 55), args := #[Go.Operan
        intro a w1 hR1 hF hU hsz
        have e44 : a.eval (.tmp 44) = _ := hF 3 _ _ rfl rfl (by kernel_rfl)
        have e43 : a.eval (.tmp 43) = _ := hF 2 _ _ rfl rfl (by kernel_rfl)
        rw [wanted_guard (ops := _) rfl rfl rfl e43, if_pos (by rfl)]
        intro K hK
        clear hF hU hsz
        obtain ⟨q1, q2, q3⟩ := eval_rest a
        generalize hρ : a.eval = ρ
        rw [hρ] at q1 q2 q3 e43 e44
        clear hρ
        have u1 := OpUp_value Try.prog K
        have u2 := OpUp_enter Try.prog K
        go_simp
        refine (KI.out w1 B2 d2 (HR2.out.below (Stood.cur hR1)) HLE.out).mono ?_
        rintro e w' ⟨⟨B4, d4, rfl, hr4⟩, hb⟩
        exact ⟨_, rfl, hK _ _ hb ⟨B4, d4, rfl, hr4⟩⟩
      refine StepsOK.cons ?_ ?_
      · -- 5: Go.Op.load 84 (Go.Operand.tmp 3)
        intro a w1 hR1 hF hU hsz
        have e3 : a.eval (.tmp 3) = _ := hU 3 (by kernel_rfl)
        have e43 : a.eval (.tmp 43) = _ := hF 2 _ _ rfl rfl (by kernel_rfl)
        rw [wanted_guard (ops := _) rfl rfl rfl e43, if_pos (by rfl)]
        intro K hK
        clear hF hU hsz
        obtain ⟨c0_, c1_, c2_, c3_⟩ := cells4 (heap_below HBX.out (Stood.cur hR1))
        obtain ⟨q1, q2, q3⟩ := eval_rest a
        generalize hρ : a.eval = ρ
        rw [hρ] at q1 q2 q3 e3 e43
        clear hρ
        have u1 := OpUp_value Try.prog K
        have u2 := OpUp_enter Try.prog K
        go_simp
        exact hK _ _ (Stood.refl _) rfl
      refine StepsOK.cons ?_ ?_
      · -- 6: Go.Op.call { callee := Go.Callee.value (Go.Operand.func 55), args := #[Go.Operan
        intro a w1 hR1 hF hU hsz
        have e46 : a.eval (.tmp 46) = _ := hF 5 _ _ rfl rfl (by kernel_rfl)
        have e43 : a.eval (.tmp 43) = _ := hF 2 _ _ rfl rfl (by kernel_rfl)
        rw [wanted_guard (ops := _) rfl rfl rfl e43, if_pos (by rfl)]
        intro K hK
        clear hF hU hsz
        obtain ⟨q1, q2, q3⟩ := eval_rest a
        generalize hρ : a.eval = ρ
        rw [hρ] at q1 q2 q3 e43 e46
        clear hρ
        have u1 := OpUp_value Try.prog K
        have u2 := OpUp_enter Try.prog K
        go_simp
        refine (KI.out w1 A c (HL.out.below (Stood.cur hR1)) HLE.out).mono ?_
        rintro e w' ⟨⟨B4, d4, rfl, hr4⟩, hb⟩
        exact ⟨_, rfl, hK _ _ hb ⟨B4, d4, rfl, hr4⟩⟩
      refine StepsOK.cons ?_ ?_
      · -- 7: Go.Op.call { callee := Go.Callee.value (Go.Operand.func 61), args := #[Go.Operan
        intro a w1 hR1 hF hU hsz
        have e45 := hF 4 _ _ rfl rfl (by kernel_rfl)
        obtain ⟨B45, d45, e45, r45⟩ := e45
        have e45 : a.eval (.tmp 45) = .agg #[.int .i64 t, .int .i64 l, .int .i64 s, .slice B45 rs.length d45] := e45
        have e47 := hF 6 _ _ rfl rfl (by kernel_rfl)
        obtain ⟨B47, d47, e47, r47⟩ := e47
        have e47 : a.eval (.tmp 47) = .agg #[.int .i64 t, .int .i64 l, .int .i64 s, .slice B47 rs.length d47] := e47
        have e43 : a.eval (.tmp 43) = _ := hF 2 _ _ rfl rfl (by kernel_rfl)
        rw [wanted_guard (ops := _) rfl rfl rfl e43, if_pos (by rfl)]
        intro K hK
        clear hF hU hsz
        obtain ⟨q1, q2, q3⟩ := eval_rest a
        generalize hρ : a.eval = ρ
        rw [hρ] at q1 q2 q3 e43 e45 e47
        clear hρ
        have u1 := OpUp_value Try.prog K
        have u2 := OpUp_enter Try.prog K
        go_simp
        refine (KS.out w1 B45 B47 d45 d47 r45 r47 HLE.out).mono ?_
        rintro e w' ⟨rfl, hb⟩
        exact ⟨_, rfl, hK _ _ hb rfl⟩
      refine StepsOK.cons ?_ ?_
      · -- 8: Go.Op.unOp Go.UnOp.not 4 (Go.Operand.tmp 48)
        intro a w1 hR1 hF hU hsz
        have e48 : a.eval (.tmp 48) = _ := hF 7 _ _ rfl rfl (by kernel_rfl)
        have e43 : a.eval (.tmp 43) = _ := hF 2 _ _ rfl rfl (by kernel_rfl)
        rw [wanted_guard (ops := _) rfl rfl rfl e43, if_pos (by rfl)]
        intro K hK
        clear hF hU hsz
        obtain ⟨q1, q2, q3⟩ := eval_rest a
        generalize hρ : a.eval = ρ
        rw [hρ] at q1 q2 q3 e43 e48
        clear hρ
        have u1 := OpUp_value Try.prog K
        have u2 := OpUp_enter Try.prog K
        go_simp
        exact hK _ _ (Stood.refl _) rfl
      refine StepsOK.cons ?_ ?_
      · -- 9: Go.Op.pick (Go.Operand.tmp 43) (Go.Operand.const (Go.Value.bool true)) (Go.Opera
        intro a w1 hR1 hF hU hsz
        have e43 : a.eval (.tmp 43) = _ := hF 2 _ _ rfl rfl (by kernel_rfl)
        have e49 : a.eval (.tmp 49) = _ := hF 8 _ _ rfl rfl (by kernel_rfl)
        rw [if_pos (by rfl)]
        intro K hK
        clear hF hU hsz
        obtain ⟨q1, q2, q3⟩ := eval_rest a
        generalize hρ : a.eval = ρ
        rw [hρ] at q1 q2 q3 e43 e49
        clear hρ
        have u1 := OpUp_value Try.prog K
        have u2 := OpUp_enter Try.prog K
        go_simp
        exact hK _ _ (Stood.refl _) rfl
      exact StepsOK.nil
    case hend =>
      intro vs0 w1 hR1 hH0
      obtain ⟨vs1, rfl, hH1⟩ := hH0.eq_
      obtain ⟨vs2, rfl, hH2⟩ := hH1.eq_
      obtain ⟨vs3, rfl, hH3⟩ := hH2.eq_
      obtain ⟨vs4, rfl, hH4⟩ := hH3.eq_
      obtain ⟨v4, vs5, rfl, hv4, hH5⟩ := hH4.cons
      obtain ⟨vs6, rfl, hH6⟩ := hH5.eq_
      obtain ⟨v6, vs7, rfl, hv6, hH7⟩ := hH6.cons
      obtain ⟨vs8, rfl, hH8⟩ := hH7.eq_
      obtain ⟨vs9, rfl, hH9⟩ := hH8.eq_
      obtain ⟨vs10, rfl, hH10⟩ := hH9.eq_
      obtain rfl := hH10.nil
      clear hH0 hH1 hH2 hH3 hH4 hH5 hH6 hH7 hH8 hH9 hH10
      simp only [putAll, Act.put, List.setIfInBounds_toArray, List.set_cons_zero, List.set_cons_succ]
      have HX := Lib.hid (HX.out.trans ((Stood.cur hR1).mono HX.out.size))
      have HO := Lib.hid (HO.out.below (Stood.cur hR1))
      clear hv4 hv6 hR1 HBX HBY HL HR2 hy hltX
      have hkx : k < xs.length := by rw [HLN.out]; exact hk8
      have HN1 := Lib.hid (HONE.out k hkx)
      obtain ⟨gg, rfl, hg1, hg2⟩ := HO.out.form (by omega)
      have cz := HO.out.cellAt k hkx
      have fz := HO.out.frozenAt k
      have hk0 : (0 : Int) ≤ (k : Int) := by omega
      have hk9 : (k : Int) < 8 := by omega
      generalize xs[k] = y at *
      have HO2 := Lib.hid (HO.out.stored k (y ^^^ v))
      have HX2 := Lib.hid (HX.out.setCell (p := ⟨gg, k, none⟩) (Nat.le_trans hws hg1) (U (y ^^^ v)))
      have KG := Lib.hid (nGet_len (xs.set k (y ^^^ v)) 8 (by rw [List.length_set]; exact HLN.out) _ _ _ _ HO2.out)
      rw [HN1.out] at KG
      clear hkx
      go_wp2_with fail
      refine KG.out.mono ?_
      rintro e w9 ⟨⟨B9, d9, rfl, hr9⟩, hb⟩
      have HX3 := Lib.hid (HX2.out.trans (hb.mono HX2.out.size))
      unfold nodeV
      go_wp2
      go_ret
      exact ⟨rfl, HX3.out.alloc HX3.out.size _⟩
end Go.Proofs.Ytgkojedgamglgaa
