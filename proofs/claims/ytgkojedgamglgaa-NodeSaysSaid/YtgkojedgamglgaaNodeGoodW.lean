/- The walk of the statement NodeGood. Condition: the runs can be read. -/
import Derived.Test.YtgkojedgamglgaaNodeW7
namespace Go.Proofs.Ytgkojedgamglgaa
open Go.RowKit
set_option linter.unusedVariables false
set_option linter.unusedSimpArgs false
/-- A node whose runs can be read: a fact that lasts. -/
def RdNs (n : NodeN) (rs : List Rn) : Fact := fun v w => ∃ (B : Option Addr) (d : Nat), v = nodeV n B rs d ∧ RdR w B rs
theorem stab_rdN {n : NodeN} {rs : List Rn} : Stab Stood (RdNs n rs) := fun v w w' ⟨B, d, e, hr⟩ h => ⟨B, d, e, hr.below h⟩
set_option maxRecDepth 100000 in
set_option maxHeartbeats 8000000 in
theorem NodeGood_walk (g : Geo) (n : NodeN) (rs : List Rn) (A : Option Addr) (c : Nat) (w : World) (hfg : g.Fit) (hr : RdR w A rs ∧ RnFit rs ∧ n.Fit) (hc : rs.length ≤ c) (hm : c ≤ maxLen) :
    Calls Try.prog 17 #[g.v, nodeV n A rs c] w fun e w' => e = .returned (.bool true) ∧ Below w.heap.size w w' := by
  have HL := Lib.hid hr.1
  have HFR := Lib.hid hr.2.1
  have HFN := Lib.hid hr.2.2
  clear hr hfg
  have KA := Lib.hid (fun W => nodeAwake_any W)
  have KG := Lib.hid (fun (W : World) (B : Option Addr) (d : Nat) (h : RdR W B rs) (h2 : rs.length ≤ 1000) (h3 : rs.length ≤ d) (h4 : d ≤ maxLen) => nGood_any g n B rs d W h HFR.out HFN.out h2 h3 h4)
  have KP := Lib.hid (fun (W : World) (h : RdR W A rs) => nPut_any n A rs c W h)
  have KI := Lib.hid (fun (W : World) (B : Option Addr) (d : Nat) (h : RdR W B rs) (h4 : rs.length ≤ 1000) => inode_any n B rs d W h h4)
  have KS := Lib.hid (fun (W : World) (B C : Option Addr) (d e : Nat) (h : RdR W B rs) (h2 : RdR W C rs) (h4 : rs.length ≤ 1000) => nodes_same n B C rs d e W h h2 h4)
  have KB := Lib.hid (fun (W : World) (h : RdR W A rs) (hn : rs.length ≤ 1000) => nBlocks_any n A rs c W h hn)
  have KN := Lib.hid (fun W => nNeeds_any n A rs c W HFN.out)
  have HCM := Lib.hid (And.intro hc hm)
  clear hc hm HFR HFN
  have HLN := Lib.hid (nodeW_len n rs)
  have HBK := Lib.hid (fun h => node_back (n := n) (rs := rs) h)
  have HGF := Lib.hid (fun h => good_fits (g := g) (n := n) (rs := rs) h)
  have HSU := Lib.hid (fun h => good_sums (g := g) (n := n) (rs := rs) h)
  generalize fitsB n rs = ft at *
  generalize goodN g n rs = gd at *
  generalize sumR rs = sm at *
  generalize needsN n = nd at *
  generalize nodeW n rs = xs at *
  have HNE := Lib.hid (show n = ⟨n.t, n.l, n.s⟩ from rfl)
  obtain ⟨gb, gn, gc, gk⟩ := g
  obtain ⟨t, l, s⟩ := n
  unfold nodeV at *
  simp only [Geo.v] at *
  have HX := Lib.hid ((Below.refl w.heap.size w).alloc (Nat.le_refl _) (.cells #[.int .i64 gb, .int .i64 gn, .int .i64 gc, .int .i64 gk] 33))
  have HW := Lib.hid (HX.out.alloc HX.out.size (.cells #[.int .i64 t, .int .i64 l, .int .i64 s, .slice A rs.length c] 84))
  have HL := Lib.hid (HL.out.below HW.out)
  have HGX := Lib.hid (heap_below (heap_alloc_new w (.cells #[.int .i64 gb, .int .i64 gn, .int .i64 gc, .int .i64 gk] 33)) ((Below.refl _ _).alloc (Nat.le_refl _) (.cells #[.int .i64 t, .int .i64 l, .int .i64 s, .slice A rs.length c] 84)))
  have HBX := Lib.hid (show ((w.alloc (.cells #[.int .i64 gb, .int .i64 gn, .int .i64 gc, .int .i64 gk] 33)).alloc (.cells #[.int .i64 t, .int .i64 l, .int .i64 s, .slice A rs.length c] 84)).heap[w.heap.size + 1]? = some (.cells #[.int .i64 t, .int .i64 l, .int .i64 s, .slice A rs.length c] 84 (0, 0)) by have h := heap_alloc_new (w.alloc (.cells #[.int .i64 gb, .int .i64 gn, .int .i64 gc, .int .i64 gk] 33)) (.cells #[.int .i64 t, .int .i64 l, .int .i64 s, .slice A rs.length c] 84); simpa using h)
  clear HX
  by_cases h10 : 10 < rs.length
  · have q10 : 10 < (rs.length : Int) := by omega
    go_enter Try.func17, Try.ntmps17
    go_wp2_with fail
    refine (KA.out _).mono ?_
    rintro e w1 ⟨rfl, hb⟩
    have HW := Lib.hid (HW.out.trans (hb.mono HW.out.size))
    have HGX := Lib.hid (heap_below HGX.out hb)
    have HBX := Lib.hid (heap_below HBX.out hb)
    have HL := Lib.hid (HL.out.below hb)
    clear hb
    obtain ⟨i0, i1, i2, i3⟩ := cells4 HGX.out
    obtain ⟨c0, c1, c2, c3⟩ := cells4 HBX.out
    go_wp2
    go_ret
    exact ⟨rfl, HW.out⟩
  have q10 : ¬ 10 < (rs.length : Int) := by omega
  have HLE := Lib.hid (show rs.length ≤ 1000 by omega)
  clear h10
  cases gd with
  | false =>
    go_enter Try.func17, Try.ntmps17
    go_wp2_with fail
    refine (KA.out _).mono ?_
    rintro e w1 ⟨rfl, hb⟩
    have HW := Lib.hid (HW.out.trans (hb.mono HW.out.size))
    have HGX := Lib.hid (heap_below HGX.out hb)
    have HBX := Lib.hid (heap_below HBX.out hb)
    have HL := Lib.hid (HL.out.below hb)
    clear hb
    obtain ⟨i0, i1, i2, i3⟩ := cells4 HGX.out
    obtain ⟨c0, c1, c2, c3⟩ := cells4 HBX.out
    go_wp2_with fail
    refine (KG.out _ A c HL.out HLE.out HCM.out.1 HCM.out.2).mono ?_
    rintro e w2 ⟨rfl, hb⟩
    have HW := Lib.hid (HW.out.trans (hb.mono HW.out.size))
    have HGX := Lib.hid (heap_below HGX.out hb)
    have HBX := Lib.hid (heap_below HBX.out hb)
    have HL := Lib.hid (HL.out.below hb)
    clear hb
    go_wp2
    go_ret
    exact ⟨rfl, HW.out⟩
  | true =>
    have hft := HGF.out rfl
    have hsu := HSU.out rfl
    subst hft hsu
    clear HGF HSU
    rw [if_pos rfl] at HLN
    obtain ⟨hb1, hb2, hb3⟩ := HBK.out rfl
    have HB1 := Lib.hid hb1
    have HB2 := Lib.hid hb2
    have HB3 := Lib.hid hb3
    clear hb1 hb2 hb3 HBK
    go_enter Try.func17, Try.ntmps17
    go_wp2_with fail
    refine (KA.out _).mono ?_
    rintro e w1 ⟨rfl, hb⟩
    have HW := Lib.hid (HW.out.trans (hb.mono HW.out.size))
    have HGX := Lib.hid (heap_below HGX.out hb)
    have HBX := Lib.hid (heap_below HBX.out hb)
    have HL := Lib.hid (HL.out.below hb)
    clear hb
    obtain ⟨i0, i1, i2, i3⟩ := cells4 HGX.out
    obtain ⟨c0, c1, c2, c3⟩ := cells4 HBX.out
    go_wp2_with fail
    refine (KG.out _ A c HL.out HLE.out HCM.out.1 HCM.out.2).mono ?_
    rintro e w2 ⟨rfl, hb⟩
    have HW := Lib.hid (HW.out.trans (hb.mono HW.out.size))
    have HGX := Lib.hid (heap_below HGX.out hb)
    have HBX := Lib.hid (heap_below HBX.out hb)
    have HL := Lib.hid (HL.out.below hb)
    clear hb
    clear i0 i1 i2 i3 c0 c1 c2 c3
    obtain ⟨i0, i1, i2, i3⟩ := cells4 HGX.out
    obtain ⟨c0, c1, c2, c3⟩ := cells4 HBX.out
    go_wp2_with fail
    refine (KP.out _ HL.out).mono ?_
    rintro e w3 ⟨⟨B, d, rfl, ho⟩, hb⟩
    have HW := Lib.hid (HW.out.trans (hb.mono HW.out.size))
    have HGX := Lib.hid (heap_below HGX.out hb)
    have HBX := Lib.hid (heap_below HBX.out hb)
    have HL := Lib.hid (HL.out.below hb)
    clear hb
    clear i0 i1 i2 i3 c0 c1 c2 c3
    have HO := Lib.hid ho
    clear ho
    rw [show xs.length = 8 from HLN.out]
    have KGT := Lib.hid (fun (W : World) (h : RdU W B xs) => show Calls Try.prog 52 #[.slice B 8 d] W fun e w' => (∃ B2 d2, e = .returned (.tuple #[.agg #[.int .i64 t, .int .i64 l, .int .i64 s, .slice B2 rs.length d2], .bool true]) ∧ RdR w' B2 rs ∧ rs.length ≤ d2 ∧ d2 ≤ maxLen) ∧ Below W.heap.size W w' by
      have h9 := nGet_cap xs B d W h HO.out.cap.1 HO.out.cap.2
      rw [HLN.out, HB1.out, HB2.out, HB3.out] at h9
      exact h9)
    go_wp2_with fail
    refine (KGT.out _ HO.out.rd).mono ?_
    rintro e w4 ⟨⟨B2, d2, rfl, hr2, hd1, hd2⟩, hb⟩
    have HW := Lib.hid (HW.out.trans (hb.mono HW.out.size))
    have HGX := Lib.hid (heap_below HGX.out hb)
    have HBX := Lib.hid (heap_below HBX.out hb)
    have HL := Lib.hid (HL.out.below hb)
    have HO := Lib.hid (HO.out.below hb)
    clear hb
    have HR2 := Lib.hid hr2
    have HD2 := Lib.hid (And.intro hd1 hd2)
    clear hr2 hd1 hd2 KGT HO
    have HBY := Lib.hid (heap_alloc_new w4 (.cells #[.int .i64 t, .int .i64 l, .int .i64 s, .slice B2 rs.length d2] 84))
    have hltX : w.heap.size + 1 < w4.heap.size := heap_lt HBX.out
    have hba : Below w4.heap.size w4 (w4.alloc (.cells #[.int .i64 t, .int .i64 l, .int .i64 s, .slice B2 rs.length d2] 84)) := (Below.refl _ _).alloc (Nat.le_refl _) _
    have HW := Lib.hid (HW.out.trans (hba.mono HW.out.size))
    have HGX := Lib.hid (heap_below HGX.out hba)
    have HBX := Lib.hid (heap_below HBX.out hba)
    have HL := Lib.hid (HL.out.below hba)
    have HR2 := Lib.hid (HR2.out.below hba)
    clear hba
    go_wp2_with fail
    apply wp_region_inv' 52 (Eqs _ :: Eqs _ :: Eqs _ :: Eqs _ :: Eqs _ :: Eqs _ :: Eqs _ :: Eqs _ :: (RdNs ⟨t, l, s⟩ rs) :: Eqs _ :: (RdNs ⟨t, l, s⟩ rs) :: Eqs _ :: Eqs _ :: Eqs _ :: Eqs _ :: Eqs _ :: Eqs _ :: Eqs _ :: Eqs _ :: Eqs _ :: Eqs _ :: Eqs _ :: Eqs _ :: Eqs _ :: Eqs _ :: Eqs _ :: []) (by kernel_rfl) (by rfl) (stab_cons (stab_eq _) (stab_cons (stab_eq _) (stab_cons (stab_eq _) (stab_cons (stab_eq _) (stab_cons (stab_eq _) (stab_cons (stab_eq _) (stab_cons (stab_eq _) (stab_cons (stab_eq _) (stab_cons stab_rdN (stab_cons (stab_eq _) (stab_cons stab_rdN (stab_cons (stab_eq _) (stab_cons (stab_eq _) (stab_cons (stab_eq _) (stab_cons (stab_eq _) (stab_cons (stab_eq _) (stab_cons (stab_eq _) (stab_cons (stab_eq _) (stab_cons (stab_eq _) (stab_cons (stab_eq _) (stab_cons (stab_eq _) (stab_cons (stab_eq _) (stab_cons (stab_eq _) (stab_cons (stab_eq _) (stab_cons (stab_eq _) (stab_cons (stab_eq _) stab_nil)))))))))))))))))))))))))) (by kernel_rfl) (by kernel_rfl)
    case hstep =>
      refine StepsOK.cons ?_ ?_
      · -- 0: Go.Op.move (Go.Operand.tmp 5)
        intro a w1 hR1 hF hU hsz
        have e5 : a.eval (.tmp 5) = _ := hU 5 (by kernel_rfl)
        rw [if_pos (by rfl)]
        intro K hK
        clear hF hU hsz
        obtain ⟨q1, q2, q3⟩ := eval_rest a
        generalize hρ : a.eval = ρ
        rw [hρ] at q1 q2 q3 e5
        clear hρ
        have u1 := OpUp_value Try.prog K
        have u2 := OpUp_enter Try.prog K
        go_simp
        exact hK _ _ (Stood.refl _) rfl
      refine StepsOK.cons ?_ ?_
      · -- 1: Go.Op.call { callee := Go.Callee.builtin Go.Builtin.len, args := #[Go.Operand.tm
        intro a w1 hR1 hF hU hsz
        have e27 : a.eval (.tmp 27) = _ := hF 0 _ _ rfl rfl (by kernel_rfl)
        rw [if_pos (by rfl)]
        intro K hK
        clear hF hU hsz
        obtain ⟨q1, q2, q3⟩ := eval_rest a
        generalize hρ : a.eval = ρ
        rw [hρ] at q1 q2 q3 e27
        clear hρ
        have u1 := OpUp_value Try.prog K
        have u2 := OpUp_enter Try.prog K
        go_simp
        exact hK _ _ (Stood.refl _) rfl
      refine StepsOK.cons ?_ ?_
      · -- 2: Go.Op.binOp Go.BinOp.eql 3 (Go.Operand.tmp 28) (Go.Operand.const (Go.Value.int G
        intro a w1 hR1 hF hU hsz
        have e28 : a.eval (.tmp 28) = _ := hF 1 _ _ rfl rfl (by kernel_rfl)
        rw [if_pos (by rfl)]
        intro K hK
        clear hF hU hsz
        obtain ⟨q1, q2, q3⟩ := eval_rest a
        generalize hρ : a.eval = ρ
        rw [hρ] at q1 q2 q3 e28
        clear hρ
        have u1 := OpUp_value Try.prog K
        have u2 := OpUp_enter Try.prog K
        go_simp
        exact hK _ _ (Stood.refl _) rfl
      refine StepsOK.cons ?_ ?_
      · -- 3: Go.Op.move (Go.Operand.tmp 29)
        intro a w1 hR1 hF hU hsz
        have e29 : a.eval (.tmp 29) = _ := hF 2 _ _ rfl rfl (by kernel_rfl)
        rw [if_pos (by rfl)]
        intro K hK
        clear hF hU hsz
        obtain ⟨q1, q2, q3⟩ := eval_rest a
        generalize hρ : a.eval = ρ
        rw [hρ] at q1 q2 q3 e29
        clear hρ
        have u1 := OpUp_value Try.prog K
        have u2 := OpUp_enter Try.prog K
        go_simp
        exact hK _ _ (Stood.refl _) rfl
      refine StepsOK.cons ?_ ?_
      · -- 4: Go.Op.move (Go.Operand.tmp 7)
        intro a w1 hR1 hF hU hsz
        have e7 : a.eval (.tmp 7) = _ := hU 7 (by kernel_rfl)
        have e30 : a.eval (.tmp 30) = _ := hF 3 _ _ rfl rfl (by kernel_rfl)
        rw [wanted_guard (ops := _) rfl rfl rfl e30, if_pos (by rfl)]
        intro K hK
        clear hF hU hsz
        obtain ⟨q1, q2, q3⟩ := eval_rest a
        generalize hρ : a.eval = ρ
        rw [hρ] at q1 q2 q3 e7 e30
        clear hρ
        have u1 := OpUp_value Try.prog K
        have u2 := OpUp_enter Try.prog K
        go_simp
        exact hK _ _ (Stood.refl _) rfl
      refine StepsOK.cons ?_ ?_
      · -- 5: Go.Op.pick (Go.Operand.tmp 30) (Go.Operand.tmp 31) (Go.Operand.const (Go.Value.b
        intro a w1 hR1 hF hU hsz
        have e30 : a.eval (.tmp 30) = _ := hF 3 _ _ rfl rfl (by kernel_rfl)
        have e31 : a.eval (.tmp 31) = _ := hF 4 _ _ rfl rfl (by kernel_rfl)
        rw [if_pos (by rfl)]
        intro K hK
        clear hF hU hsz
        obtain ⟨q1, q2, q3⟩ := eval_rest a
        generalize hρ : a.eval = ρ
        rw [hρ] at q1 q2 q3 e30 e31
        clear hρ
        have u1 := OpUp_value Try.prog K
        have u2 := OpUp_enter Try.prog K
        go_simp
        exact hK _ _ (Stood.refl _) rfl
      refine StepsOK.cons ?_ ?_
      · -- 6: Go.Op.move (Go.Operand.tmp 32)
        intro a w1 hR1 hF hU hsz
        have e32 : a.eval (.tmp 32) = _ := hF 5 _ _ rfl rfl (by kernel_rfl)
        rw [if_pos (by rfl)]
        intro K hK
        clear hF hU hsz
        obtain ⟨q1, q2, q3⟩ := eval_rest a
        generalize hρ : a.eval = ρ
        rw [hρ] at q1 q2 q3 e32
        clear hρ
        have u1 := OpUp_value Try.prog K
        have u2 := OpUp_enter Try.prog K
        go_simp
        exact hK _ _ (Stood.refl _) rfl
      refine StepsOK.cons ?_ ?_
      · -- 7: Go.Op.load 84 (Go.Operand.tmp 6)
        intro a w1 hR1 hF hU hsz
        have e6 : a.eval (.tmp 6) = _ := hU 6 (by kernel_rfl)
        have e33 : a.eval (.tmp 33) = _ := hF 6 _ _ rfl rfl (by kernel_rfl)
        rw [wanted_guard (ops := _) rfl rfl rfl e33, if_pos (by rfl)]
        intro K hK
        clear hF hU hsz
        obtain ⟨c0_, c1_, c2_, c3_⟩ := cells4 (heap_below HBY.out (Stood.cur hR1))
        obtain ⟨q1, q2, q3⟩ := eval_rest a
        generalize hρ : a.eval = ρ
        rw [hρ] at q1 q2 q3 e6 e33
        clear hρ
        have u1 := OpUp_value Try.prog K
        have u2 := OpUp_enter Try.prog K
        go_simp
        exact hK _ _ (Stood.refl _) rfl
      refine StepsOK.cons ?_ ?_
      · -- 8: Go.Op.call { callee := Go.Callee.value (Go.Operand.func 55), args := #[Go.Operan
        intro a w1 hR1 hF hU hsz
        have e34 : a.eval (.tmp 34) = _ := hF 7 _ _ rfl rfl (by kernel_rfl)
        have e33 : a.eval (.tmp 33) = _ := hF 6 _ _ rfl rfl (by kernel_rfl)
        rw [wanted_guard (ops := _) rfl rfl rfl e33, if_pos (by rfl)]
        intro K hK
        clear hF hU hsz
        obtain ⟨q1, q2, q3⟩ := eval_rest a
        generalize hρ : a.eval = ρ
        rw [hρ] at q1 q2 q3 e33 e34
        clear hρ
        have u1 := OpUp_value Try.prog K
        have u2 := OpUp_enter Try.prog K
        go_simp
        refine (KI.out w1 B2 d2 (HR2.out.below (Stood.cur hR1)) HLE.out).mono ?_
        rintro e w' ⟨⟨B4, d4, rfl, hr4⟩, hb⟩
        exact ⟨_, rfl, hK _ _ hb ⟨B4, d4, rfl, hr4⟩⟩
      refine StepsOK.cons ?_ ?_
      · -- 9: Go.Op.load 84 (Go.Operand.tmp 3)
        intro a w1 hR1 hF hU hsz
        have e3 : a.eval (.tmp 3) = _ := hU 3 (by kernel_rfl)
        have e33 : a.eval (.tmp 33) = _ := hF 6 _ _ rfl rfl (by kernel_rfl)
        rw [wanted_guard (ops := _) rfl rfl rfl e33, if_pos (by rfl)]
        intro K hK
        clear hF hU hsz
        obtain ⟨c0_, c1_, c2_, c3_⟩ := cells4 (heap_below HBX.out (Stood.cur hR1))
        obtain ⟨q1, q2, q3⟩ := eval_rest a
        generalize hρ : a.eval = ρ
        rw [hρ] at q1 q2 q3 e3 e33
        clear hρ
        have u1 := OpUp_value Try.prog K
        have u2 := OpUp_enter Try.prog K
        go_simp
        exact hK _ _ (Stood.refl _) rfl
      refine StepsOK.cons ?_ ?_
      · -- 10: Go.Op.call { callee := Go.Callee.value (Go.Operand.func 55), args := #[Go.Operan
        intro a w1 hR1 hF hU hsz
        have e36 : a.eval (.tmp 36) = _ := hF 9 _ _ rfl rfl (by kernel_rfl)
        have e33 : a.eval (.tmp 33) = _ := hF 6 _ _ rfl rfl (by kernel_rfl)
        rw [wanted_guard (ops := _) rfl rfl rfl e33, if_pos (by rfl)]
        intro K hK
        clear hF hU hsz
        obtain ⟨q1, q2, q3⟩ := eval_rest a
        generalize hρ : a.eval = ρ
        rw [hρ] at q1 q2 q3 e33 e36
        clear hρ
        have u1 := OpUp_value Try.prog K
        have u2 := OpUp_enter Try.prog K
        go_simp
        refine (KI.out w1 A c (HL.out.below (Stood.cur hR1)) HLE.out).mono ?_
        rintro e w' ⟨⟨B4, d4, rfl, hr4⟩, hb⟩
        exact ⟨_, rfl, hK _ _ hb ⟨B4, d4, rfl, hr4⟩⟩
      refine StepsOK.cons ?_ ?_
      · -- 11: Go.Op.call { callee := Go.Callee.value (Go.Operand.func 61), args := #[Go.Operan
        intro a w1 hR1 hF hU hsz
        have e35 := hF 8 _ _ rfl rfl (by kernel_rfl)
        obtain ⟨B35, d35, e35, r35⟩ := e35
        have e35 : a.eval (.tmp 35) = .agg #[.int .i64 t, .int .i64 l, .int .i64 s, .slice B35 rs.length d35] := e35
        have e37 := hF 10 _ _ rfl rfl (by kernel_rfl)
        obtain ⟨B37, d37, e37, r37⟩ := e37
        have e37 : a.eval (.tmp 37) = .agg #[.int .i64 t, .int .i64 l, .int .i64 s, .slice B37 rs.length d37] := e37
        have e33 : a.eval (.tmp 33) = _ := hF 6 _ _ rfl rfl (by kernel_rfl)
        rw [wanted_guard (ops := _) rfl rfl rfl e33, if_pos (by rfl)]
        intro K hK
        clear hF hU hsz
        obtain ⟨q1, q2, q3⟩ := eval_rest a
        generalize hρ : a.eval = ρ
        rw [hρ] at q1 q2 q3 e33 e35 e37
        clear hρ
        have u1 := OpUp_value Try.prog K
        have u2 := OpUp_enter Try.prog K
        go_simp
        refine (KS.out w1 B35 B37 d35 d37 r35 r37 HLE.out).mono ?_
        rintro e w' ⟨rfl, hb⟩
        exact ⟨_, rfl, hK _ _ hb rfl⟩
      refine StepsOK.cons ?_ ?_
      · -- 12: Go.Op.pick (Go.Operand.tmp 33) (Go.Operand.tmp 38) (Go.Operand.const (Go.Value.b
        intro a w1 hR1 hF hU hsz
        have e33 : a.eval (.tmp 33) = _ := hF 6 _ _ rfl rfl (by kernel_rfl)
        have e38 : a.eval (.tmp 38) = _ := hF 11 _ _ rfl rfl (by kernel_rfl)
        rw [if_pos (by rfl)]
        intro K hK
        clear hF hU hsz
        obtain ⟨q1, q2, q3⟩ := eval_rest a
        generalize hρ : a.eval = ρ
        rw [hρ] at q1 q2 q3 e33 e38
        clear hρ
        have u1 := OpUp_value Try.prog K
        have u2 := OpUp_enter Try.prog K
        go_simp
        exact hK _ _ (Stood.refl _) rfl
      refine StepsOK.cons ?_ ?_
      · -- 13: Go.Op.move (Go.Operand.tmp 39)
        intro a w1 hR1 hF hU hsz
        have e39 : a.eval (.tmp 39) = _ := hF 12 _ _ rfl rfl (by kernel_rfl)
        rw [if_pos (by rfl)]
        intro K hK
        clear hF hU hsz
        obtain ⟨q1, q2, q3⟩ := eval_rest a
        generalize hρ : a.eval = ρ
        rw [hρ] at q1 q2 q3 e39
        clear hρ
        have u1 := OpUp_value Try.prog K
        have u2 := OpUp_enter Try.prog K
        go_simp
        exact hK _ _ (Stood.refl _) rfl
      refine StepsOK.cons ?_ ?_
      · -- 14: Go.Op.load 84 (Go.Operand.tmp 3)
        intro a w1 hR1 hF hU hsz
        have e3 : a.eval (.tmp 3) = _ := hU 3 (by kernel_rfl)
        have e40 : a.eval (.tmp 40) = _ := hF 13 _ _ rfl rfl (by kernel_rfl)
        rw [wanted_guard (ops := _) rfl rfl rfl e40, if_pos (by rfl)]
        intro K hK
        clear hF hU hsz
        obtain ⟨c0_, c1_, c2_, c3_⟩ := cells4 (heap_below HBX.out (Stood.cur hR1))
        obtain ⟨q1, q2, q3⟩ := eval_rest a
        generalize hρ : a.eval = ρ
        rw [hρ] at q1 q2 q3 e3 e40
        clear hρ
        have u1 := OpUp_value Try.prog K
        have u2 := OpUp_enter Try.prog K
        go_simp
        exact hK _ _ (Stood.refl _) rfl
      refine StepsOK.cons ?_ ?_
      · -- 15: Go.Op.call { callee := Go.Callee.value (Go.Operand.func 53), args := #[Go.Operan
        intro a w1 hR1 hF hU hsz
        have e41 : a.eval (.tmp 41) = _ := hF 14 _ _ rfl rfl (by kernel_rfl)
        have e40 : a.eval (.tmp 40) = _ := hF 13 _ _ rfl rfl (by kernel_rfl)
        rw [wanted_guard (ops := _) rfl rfl rfl e40, if_pos (by rfl)]
        intro K hK
        clear hF hU hsz
        obtain ⟨q1, q2, q3⟩ := eval_rest a
        generalize hρ : a.eval = ρ
        rw [hρ] at q1 q2 q3 e40 e41
        clear hρ
        have u1 := OpUp_value Try.prog K
        have u2 := OpUp_enter Try.prog K
        go_simp
        refine (KB.out w1 (HL.out.below (Stood.cur hR1)) HLE.out).mono ?_
        rintro e w' ⟨rfl, hb⟩
        exact ⟨_, rfl, hK _ _ hb rfl⟩
      refine StepsOK.cons ?_ ?_
      · -- 16: Go.Op.load 84 (Go.Operand.tmp 3)
        intro a w1 hR1 hF hU hsz
        have e3 : a.eval (.tmp 3) = _ := hU 3 (by kernel_rfl)
        have e40 : a.eval (.tmp 40) = _ := hF 13 _ _ rfl rfl (by kernel_rfl)
        rw [wanted_guard (ops := _) rfl rfl rfl e40, if_pos (by rfl)]
        intro K hK
        clear hF hU hsz
        obtain ⟨c0_, c1_, c2_, c3_⟩ := cells4 (heap_below HBX.out (Stood.cur hR1))
        obtain ⟨q1, q2, q3⟩ := eval_rest a
        generalize hρ : a.eval = ρ
        rw [hρ] at q1 q2 q3 e3 e40
        clear hρ
        have u1 := OpUp_value Try.prog K
        have u2 := OpUp_enter Try.prog K
        go_simp
        exact hK _ _ (Stood.refl _) rfl
      refine StepsOK.cons ?_ ?_
      · -- 17: Go.Op.call { callee := Go.Callee.value (Go.Operand.func 54), args := #[Go.Operan
        intro a w1 hR1 hF hU hsz
        have e43 : a.eval (.tmp 43) = _ := hF 16 _ _ rfl rfl (by kernel_rfl)
        have e40 : a.eval (.tmp 40) = _ := hF 13 _ _ rfl rfl (by kernel_rfl)
        rw [wanted_guard (ops := _) rfl rfl rfl e40, if_pos (by rfl)]
        intro K hK
        clear hF hU hsz
        obtain ⟨q1, q2, q3⟩ := eval_rest a
        generalize hρ : a.eval = ρ
        rw [hρ] at q1 q2 q3 e40 e43
        clear hρ
        have u1 := OpUp_value Try.prog K
        have u2 := OpUp_enter Try.prog K
        go_simp
        refine (KN.out w1).mono ?_
        rintro e w' ⟨rfl, hb⟩
        exact ⟨_, rfl, hK _ _ hb rfl⟩
      refine StepsOK.cons ?_ ?_
      · -- 18: Go.Op.binOp Go.BinOp.eql 3 (Go.Operand.tmp 42) (Go.Operand.tmp 44) 3
        intro a w1 hR1 hF hU hsz
        have e42 : a.eval (.tmp 42) = _ := hF 15 _ _ rfl rfl (by kernel_rfl)
        have e44 : a.eval (.tmp 44) = _ := hF 17 _ _ rfl rfl (by kernel_rfl)
        have e40 : a.eval (.tmp 40) = _ := hF 13 _ _ rfl rfl (by kernel_rfl)
        rw [wanted_guard (ops := _) rfl rfl rfl e40, if_pos (by rfl)]
        intro K hK
        clear hF hU hsz
        obtain ⟨q1, q2, q3⟩ := eval_rest a
        generalize hρ : a.eval = ρ
        rw [hρ] at q1 q2 q3 e40 e42 e44
        clear hρ
        have u1 := OpUp_value Try.prog K
        have u2 := OpUp_enter Try.prog K
        go_simp
        exact hK _ _ (Stood.refl _) rfl
      refine StepsOK.cons ?_ ?_
      · -- 19: Go.Op.pick (Go.Operand.tmp 40) (Go.Operand.tmp 45) (Go.Operand.const (Go.Value.b
        intro a w1 hR1 hF hU hsz
        have e40 : a.eval (.tmp 40) = _ := hF 13 _ _ rfl rfl (by kernel_rfl)
        have e45 : a.eval (.tmp 45) = _ := hF 18 _ _ rfl rfl (by kernel_rfl)
        rw [if_pos (by rfl)]
        intro K hK
        clear hF hU hsz
        obtain ⟨q1, q2, q3⟩ := eval_rest a
        generalize hρ : a.eval = ρ
        rw [hρ] at q1 q2 q3 e40 e45
        clear hρ
        have u1 := OpUp_value Try.prog K
        have u2 := OpUp_enter Try.prog K
        go_simp
        exact hK _ _ (Stood.refl _) rfl
      refine StepsOK.cons ?_ ?_
      · -- 20: Go.Op.move (Go.Operand.tmp 46)
        intro a w1 hR1 hF hU hsz
        have e46 : a.eval (.tmp 46) = _ := hF 19 _ _ rfl rfl (by kernel_rfl)
        rw [if_pos (by rfl)]
        intro K hK
        clear hF hU hsz
        obtain ⟨q1, q2, q3⟩ := eval_rest a
        generalize hρ : a.eval = ρ
        rw [hρ] at q1 q2 q3 e46
        clear hρ
        have u1 := OpUp_value Try.prog K
        have u2 := OpUp_enter Try.prog K
        go_simp
        exact hK _ _ (Stood.refl _) rfl
      refine StepsOK.cons ?_ ?_
      · -- 21: Go.Op.load 33 (Go.Operand.tmp 2)
        intro a w1 hR1 hF hU hsz
        have e2 : a.eval (.tmp 2) = _ := hU 2 (by kernel_rfl)
        have e47 : a.eval (.tmp 47) = _ := hF 20 _ _ rfl rfl (by kernel_rfl)
        rw [wanted_guard (ops := _) rfl rfl rfl e47, if_pos (by rfl)]
        intro K hK
        clear hF hU hsz
        obtain ⟨c0_, c1_, c2_, c3_⟩ := cells4 (heap_below HGX.out (Stood.cur hR1))
        obtain ⟨q1, q2, q3⟩ := eval_rest a
        generalize hρ : a.eval = ρ
        rw [hρ] at q1 q2 q3 e2 e47
        clear hρ
        have u1 := OpUp_value Try.prog K
        have u2 := OpUp_enter Try.prog K
        go_simp
        exact hK _ _ (Stood.refl _) rfl
      refine StepsOK.cons ?_ ?_
      · -- 22: Go.Op.load 84 (Go.Operand.tmp 6)
        intro a w1 hR1 hF hU hsz
        have e6 : a.eval (.tmp 6) = _ := hU 6 (by kernel_rfl)
        have e47 : a.eval (.tmp 47) = _ := hF 20 _ _ rfl rfl (by kernel_rfl)
        rw [wanted_guard (ops := _) rfl rfl rfl e47, if_pos (by rfl)]
        intro K hK
        clear hF hU hsz
        obtain ⟨c0_, c1_, c2_, c3_⟩ := cells4 (heap_below HBY.out (Stood.cur hR1))
        obtain ⟨q1, q2, q3⟩ := eval_rest a
        generalize hρ : a.eval = ρ
        rw [hρ] at q1 q2 q3 e6 e47
        clear hρ
        have u1 := OpUp_value Try.prog K
        have u2 := OpUp_enter Try.prog K
        go_simp
        exact hK _ _ (Stood.refl _) rfl
      refine StepsOK.cons ?_ ?_
      · -- 23: Go.Op.call { callee := Go.Callee.value (Go.Operand.func 50), args := #[Go.Operan
        intro a w1 hR1 hF hU hsz
        have e48 : a.eval (.tmp 48) = _ := hF 21 _ _ rfl rfl (by kernel_rfl)
        have e49 : a.eval (.tmp 49) = _ := hF 22 _ _ rfl rfl (by kernel_rfl)
        have e47 : a.eval (.tmp 47) = _ := hF 20 _ _ rfl rfl (by kernel_rfl)
        rw [wanted_guard (ops := _) rfl rfl rfl e47, if_pos (by rfl)]
        intro K hK
        clear hF hU hsz
        obtain ⟨q1, q2, q3⟩ := eval_rest a
        generalize hρ : a.eval = ρ
        rw [hρ] at q1 q2 q3 e47 e48 e49
        clear hρ
        have u1 := OpUp_value Try.prog K
        have u2 := OpUp_enter Try.prog K
        go_simp
        refine (KG.out w1 B2 d2 (HR2.out.below (Stood.cur hR1)) HLE.out HD2.out.1 HD2.out.2).mono ?_
        rintro e w' ⟨rfl, hb⟩
        exact ⟨_, rfl, hK _ _ hb rfl⟩
      refine StepsOK.cons ?_ ?_
      · -- 24: Go.Op.pick (Go.Operand.tmp 47) (Go.Operand.tmp 50) (Go.Operand.const (Go.Value.b
        intro a w1 hR1 hF hU hsz
        have e47 : a.eval (.tmp 47) = _ := hF 20 _ _ rfl rfl (by kernel_rfl)
        have e50 : a.eval (.tmp 50) = _ := hF 23 _ _ rfl rfl (by kernel_rfl)
        rw [if_pos (by rfl)]
        intro K hK
        clear hF hU hsz
        obtain ⟨q1, q2, q3⟩ := eval_rest a
        generalize hρ : a.eval = ρ
        rw [hρ] at q1 q2 q3 e47 e50
        clear hρ
        have u1 := OpUp_value Try.prog K
        have u2 := OpUp_enter Try.prog K
        go_simp
        exact hK _ _ (Stood.refl _) rfl
      refine StepsOK.cons ?_ ?_
      · -- 25: Go.Op.assign (Go.Operand.tmp 51)
        intro a w1 hR1 hF hU hsz
        have e51 : a.eval (.tmp 51) = _ := hF 24 _ _ rfl rfl (by kernel_rfl)
        rw [if_pos (by rfl)]
        intro K hK
        clear hF hU hsz
        obtain ⟨q1, q2, q3⟩ := eval_rest a
        generalize hρ : a.eval = ρ
        rw [hρ] at q1 q2 q3 e51
        clear hρ
        have u1 := OpUp_value Try.prog K
        have u2 := OpUp_enter Try.prog K
        go_simp
        exact hK _ _ (Stood.refl _) rfl
      exact StepsOK.nil
    case hend =>
      intro vs0 w1 hR1 hH0
      obtain ⟨vs1, rfl, hH1⟩ := hH0.eq_
      obtain ⟨vs2, rfl, hH2⟩ := hH1.eq_
      obtain ⟨vs3, rfl, hH3⟩ := hH2.eq_
      obtain ⟨vs4, rfl, hH4⟩ := hH3.eq_
      obtain ⟨vs5, rfl, hH5⟩ := hH4.eq_
      obtain ⟨vs6, rfl, hH6⟩ := hH5.eq_
      obtain ⟨vs7, rfl, hH7⟩ := hH6.eq_
      obtain ⟨vs8, rfl, hH8⟩ := hH7.eq_
      obtain ⟨v8, vs9, rfl, hv8, hH9⟩ := hH8.cons
      obtain ⟨vs10, rfl, hH10⟩ := hH9.eq_
      obtain ⟨v10, vs11, rfl, hv10, hH11⟩ := hH10.cons
      obtain ⟨vs12, rfl, hH12⟩ := hH11.eq_
      obtain ⟨vs13, rfl, hH13⟩ := hH12.eq_
      obtain ⟨vs14, rfl, hH14⟩ := hH13.eq_
      obtain ⟨vs15, rfl, hH15⟩ := hH14.eq_
      obtain ⟨vs16, rfl, hH16⟩ := hH15.eq_
      obtain ⟨vs17, rfl, hH17⟩ := hH16.eq_
      obtain ⟨vs18, rfl, hH18⟩ := hH17.eq_
      obtain ⟨vs19, rfl, hH19⟩ := hH18.eq_
      obtain ⟨vs20, rfl, hH20⟩ := hH19.eq_
      obtain ⟨vs21, rfl, hH21⟩ := hH20.eq_
      obtain ⟨vs22, rfl, hH22⟩ := hH21.eq_
      obtain ⟨vs23, rfl, hH23⟩ := hH22.eq_
      obtain ⟨vs24, rfl, hH24⟩ := hH23.eq_
      obtain ⟨vs25, rfl, hH25⟩ := hH24.eq_
      obtain ⟨vs26, rfl, hH26⟩ := hH25.eq_
      obtain rfl := hH26.nil
      clear hH0 hH1 hH2 hH3 hH4 hH5 hH6 hH7 hH8 hH9 hH10 hH11 hH12 hH13 hH14 hH15 hH16 hH17 hH18 hH19 hH20 hH21 hH22 hH23 hH24 hH25 hH26
      simp only [putAll, Act.put, List.setIfInBounds_toArray, List.set_cons_zero, List.set_cons_succ]
      have HW := Lib.hid (HW.out.trans ((Stood.cur hR1).mono HW.out.size))
      go_wp2
      go_ret
      exact ⟨rfl, HW.out⟩
end Go.Proofs.Ytgkojedgamglgaa
