/- The walks of geom.Lost and of node.Good with all that it calls. Condition: the runs can be read. -/
import Derived.Test.YtgkojedgamglgaaNodePlain3
import Derived.Test.YtgkojedgamglgaaNodeW2
namespace Go.Proofs.Ytgkojedgamglgaa
open Go.RowKit
set_option linter.unusedVariables false
set_option linter.unusedSimpArgs false
set_option maxRecDepth 100000 in
theorem gLost_any (g : Geo) (hg : g.good = true) (w : World) :
    Calls Try.prog 108 #[g.v] w fun e w' => e = .returned (.tuple #[.int .i64 g.lf, .int .i64 g.n]) ∧ Below w.heap.size w w' := by
  have HG := Lib.hid (fun W => ggood_any g W)
  obtain ⟨j1, j2, j3, j4, j5, j6, j7, j8, j9, j10⟩ := geo_nums hg
  have HN := Lib.hid (fun W => gNode_any g g.n W)
  have hnd : g.nd g.n = g.lf - 1 := by unfold Geo.nd Geo.lf; rw [if_pos ⟨hg, by omega, Int.le_refl _⟩]
  rw [hg] at HG
  rw [hnd] at HN
  have e1 : IntKind.i64.wrap (g.lf - 1 + 1) = g.lf := by rw [IntWalk.i64_in _ (by omega)]; omega
  have e2 : IntKind.i64.wrap g.lf = g.lf := IntWalk.i64_in _ (by omega)
  clear j1 j2 j3 j4 j5 j6 j7 j8 j9 j10
  generalize g.lf = lf at *
  clear hnd hg
  obtain ⟨b, n, c, k⟩ := g
  simp only [Geo.v] at *
  have HW := Lib.hid ((Below.refl w.heap.size w).alloc (Nat.le_refl _) (.cells #[.int .i64 b, .int .i64 n, .int .i64 c, .int .i64 k] 33))
  have HBX := Lib.hid (heap_alloc_new w (.cells #[.int .i64 b, .int .i64 n, .int .i64 c, .int .i64 k] 33))
  go_enter Try.func108, Try.ntmps108
  go_wp2_with fail
  refine (HG.out _).mono ?_
  rintro e w1 ⟨rfl, hb⟩
  have HW := Lib.hid (HW.out.trans (hb.mono HW.out.size))
  have HBX := Lib.hid (heap_below HBX.out hb)
  clear hb
  go_wp2_with fail
  apply wp_region_inv' 14 (Eqs _ :: Eqs _ :: Eqs _ :: Eqs _ :: Eqs _ :: Eqs _ :: Eqs _ :: Eqs _ :: Eqs _ :: []) (by kernel_rfl) (by rfl) (stab_cons (stab_eq _) (stab_cons (stab_eq _) (stab_cons (stab_eq _) (stab_cons (stab_eq _) (stab_cons (stab_eq _) (stab_cons (stab_eq _) (stab_cons (stab_eq _) (stab_cons (stab_eq _) (stab_cons (stab_eq _) stab_nil))))))))) (by kernel_rfl) (by kernel_rfl)
  case hstep =>
    refine StepsOK.cons ?_ ?_
    · -- 0: Go.Op.load 33 (Go.Operand.tmp 1)
      intro a w1 hR1 hF hU hsz
      have e1 : a.eval (.tmp 1) = _ := hU 1 (by kernel_rfl)
      rw [if_pos (by rfl)]
      intro K hK
      clear hF hU hsz
      obtain ⟨c0_, c1_, c2_, c3_⟩ := cells4 (heap_below HBX.out (Stood.cur hR1))
      obtain ⟨q1, q2, q3⟩ := eval_rest a
      generalize hρ : a.eval = ρ
      rw [hρ] at q1 q2 q3 e1
      clear hρ
      have u1 := OpUp_value Try.prog K
      have u2 := OpUp_enter Try.prog K
      go_simp
      exact hK _ _ (Stood.refl _) rfl
    refine StepsOK.cons ?_ ?_
    · -- 1: Go.Op.fieldAddr 33 (Go.Operand.tmp 1) 1
      intro a w1 hR1 hF hU hsz
      have e1 : a.eval (.tmp 1) = _ := hU 1 (by kernel_rfl)
      rw [if_pos (by rfl)]
      intro K hK
      clear hF hU hsz
      obtain ⟨q1, q2, q3⟩ := eval_rest a
      generalize hρ : a.eval = ρ
      rw [hρ] at q1 q2 q3 e1
      clear hρ
      have u1 := OpUp_value Try.prog K
      have u2 := OpUp_enter Try.prog K
      go_simp
      exact hK _ _ (Stood.refl _) rfl
    refine StepsOK.cons ?_ ?_
    · -- 2: Go.Op.load 3 (Go.Operand.tmp 8)
      intro a w1 hR1 hF hU hsz
      have e8 : a.eval (.tmp 8) = _ := hF 1 _ _ rfl rfl (by kernel_rfl)
      rw [if_pos (by rfl)]
      intro K hK
      clear hF hU hsz
      obtain ⟨c0_, c1_, c2_, c3_⟩ := cells4 (heap_below HBX.out (Stood.cur hR1))
      obtain ⟨q1, q2, q3⟩ := eval_rest a
      generalize hρ : a.eval = ρ
      rw [hρ] at q1 q2 q3 e8
      clear hρ
      have u1 := OpUp_value Try.prog K
      have u2 := OpUp_enter Try.prog K
      go_simp
      exact hK _ _ (Stood.refl _) rfl
    refine StepsOK.cons ?_ ?_
    · -- 3: Go.Op.call { callee := Go.Callee.value (Go.Operand.func 118), args := #[Go.Opera
      intro a w1 hR1 hF hU hsz
      have e7 : a.eval (.tmp 7) = _ := hF 0 _ _ rfl rfl (by kernel_rfl)
      have e9 : a.eval (.tmp 9) = _ := hF 2 _ _ rfl rfl (by kernel_rfl)
      rw [if_pos (by rfl)]
      intro K hK
      clear hF hU hsz
      obtain ⟨q1, q2, q3⟩ := eval_rest a
      generalize hρ : a.eval = ρ
      rw [hρ] at q1 q2 q3 e7 e9
      clear hρ
      have u1 := OpUp_value Try.prog K
      have u2 := OpUp_enter Try.prog K
      go_simp
      refine (HN.out w1).mono ?_
      rintro e w' ⟨rfl, hb⟩
      exact ⟨_, rfl, hK _ _ hb rfl⟩
    refine StepsOK.cons ?_ ?_
    · -- 4: Go.Op.binOp Go.BinOp.add 3 (Go.Operand.tmp 10) (Go.Operand.const (Go.Value.int G
      intro a w1 hR1 hF hU hsz
      have e10 : a.eval (.tmp 10) = _ := hF 3 _ _ rfl rfl (by kernel_rfl)
      rw [if_pos (by rfl)]
      intro K hK
      clear hF hU hsz
      obtain ⟨q1, q2, q3⟩ := eval_rest a
      generalize hρ : a.eval = ρ
      rw [hρ] at q1 q2 q3 e10
      clear hρ
      have u1 := OpUp_value Try.prog K
      have u2 := OpUp_enter Try.prog K
      go_simp
      exact hK _ _ (Stood.refl _) rfl
    refine StepsOK.cons ?_ ?_
    · -- 5: Go.Op.fieldAddr 33 (Go.Operand.tmp 1) 1
      intro a w1 hR1 hF hU hsz
      have e1 : a.eval (.tmp 1) = _ := hU 1 (by kernel_rfl)
      rw [if_pos (by rfl)]
      intro K hK
      clear hF hU hsz
      obtain ⟨q1, q2, q3⟩ := eval_rest a
      generalize hρ : a.eval = ρ
      rw [hρ] at q1 q2 q3 e1
      clear hρ
      have u1 := OpUp_value Try.prog K
      have u2 := OpUp_enter Try.prog K
      go_simp
      exact hK _ _ (Stood.refl _) rfl
    refine StepsOK.cons ?_ ?_
    · -- 6: Go.Op.load 3 (Go.Operand.tmp 12)
      intro a w1 hR1 hF hU hsz
      have e12 : a.eval (.tmp 12) = _ := hF 5 _ _ rfl rfl (by kernel_rfl)
      rw [if_pos (by rfl)]
      intro K hK
      clear hF hU hsz
      obtain ⟨c0_, c1_, c2_, c3_⟩ := cells4 (heap_below HBX.out (Stood.cur hR1))
      obtain ⟨q1, q2, q3⟩ := eval_rest a
      generalize hρ : a.eval = ρ
      rw [hρ] at q1 q2 q3 e12
      clear hρ
      have u1 := OpUp_value Try.prog K
      have u2 := OpUp_enter Try.prog K
      go_simp
      exact hK _ _ (Stood.refl _) rfl
    refine StepsOK.cons ?_ ?_
    · -- 7: Go.Op.assign (Go.Operand.tmp 11)
      intro a w1 hR1 hF hU hsz
      have e11 : a.eval (.tmp 11) = _ := hF 4 _ _ rfl rfl (by kernel_rfl)
      rw [if_pos (by rfl)]
      intro K hK
      clear hF hU hsz
      obtain ⟨q1, q2, q3⟩ := eval_rest a
      generalize hρ : a.eval = ρ
      rw [hρ] at q1 q2 q3 e11
      clear hρ
      have u1 := OpUp_value Try.prog K
      have u2 := OpUp_enter Try.prog K
      go_simp
      exact hK _ _ (Stood.refl _) rfl
    refine StepsOK.cons ?_ ?_
    · -- 8: Go.Op.assign (Go.Operand.tmp 13)
      intro a w1 hR1 hF hU hsz
      have e13 : a.eval (.tmp 13) = _ := hF 6 _ _ rfl rfl (by kernel_rfl)
      rw [if_pos (by rfl)]
      intro K hK
      clear hF hU hsz
      obtain ⟨q1, q2, q3⟩ := eval_rest a
      generalize hρ : a.eval = ρ
      rw [hρ] at q1 q2 q3 e13
      clear hρ
      have u1 := OpUp_value Try.prog K
      have u2 := OpUp_enter Try.prog K
      go_simp
      exact hK _ _ (Stood.refl _) rfl
    exact StepsOK.nil
  case hend =>
    intro vs0 w1 hR1 hH0
    obtain ⟨vs1, rfl, hH1⟩ := hH0.eq_
    obtain ⟨vs2, rfl, hH2⟩ := hH1.eq_
    obtain ⟨vs3, rfl, hH3⟩ := hH2.eq_
    obtain ⟨vs4, rfl, hH4⟩ := hH3.eq_
    obtain ⟨vs5, rfl, hH5⟩ := hH4.eq_
    obtain ⟨vs6, rfl, hH6⟩ := hH5.eq_
    obtain ⟨vs7, rfl, hH7⟩ := hH6.eq_
    obtain ⟨vs8, rfl, hH8⟩ := hH7.eq_
    obtain ⟨vs9, rfl, hH9⟩ := hH8.eq_
    obtain rfl := hH9.nil
    clear hH0 hH1 hH2 hH3 hH4 hH5 hH6 hH7 hH8 hH9
    simp only [putAll, Act.put, List.setIfInBounds_toArray, List.set_cons_zero, List.set_cons_succ]
    have HW := Lib.hid (HW.out.trans ((Stood.cur hR1).mono HW.out.size))
    go_wp2
    go_ret2
    exact ⟨rfl, HW.out⟩
theorem take_succ_eqR {α : Type} (xs ys : List α) (k : Nat) (h1 : k < xs.length) (h2 : k < ys.length) (h : xs.take k = ys.take k) (he : xs[k] = ys[k]) : xs.take (k + 1) = ys.take (k + 1) := by
  rw [List.take_succ_eq_append_getElem h1, List.take_succ_eq_append_getElem h2, h, he]
theorem EqualR_any (xs ys : List Rn) (A B : Option Addr) (c d : Nat) (w : World) (hx : RdR w A xs) (hy : RdR w B ys) (hn : xs.length ≤ 1000) :
    Calls Try.prog 109 #[.slice A xs.length c, .slice B ys.length d] w fun e w' => e = .returned (.bool (xs == ys)) ∧ Drawn w w' := by
  by_cases hl : xs.length = ys.length
  · have HX := Lib.hid hx
    have HY := Lib.hid hy
    have HL := Lib.hid hl
    rw [← hl]
    have hnn : ((xs.length : Int) != (xs.length : Int)) = false := by simp
    clear hx hy hl
    go_enter Try.func109, Try.ntmps109
    go_wp2
    go_loopw [13] (fun i wr => ∃ k : Nat, k ≤ xs.length ∧ i = .int .i64 k ∧ Go.RowKit.Hid (xs.take k = ys.take k) ∧ Drawn w wr) (fun i _ => xs.length - (intOf i).toNat)
    case atStart => exact ⟨0, Nat.zero_le _, rfl, Lib.hid rfl, Drawn.refl _⟩
    case round =>
      obtain ⟨k, hk, rfl, ht, hd⟩ := hrel
      have HT := Lib.hid ht.out
      have HD := Lib.hid hd
      have HDB := Lib.hid (hd.below w.heap.size)
      clear ht hd
      have e1 : IntKind.i64.wrap ((k : Int) + 1) = (k : Int) + 1 := IntWalk.i64_in _ (by omega)
      by_cases hlt : k < xs.length
      · obtain ⟨b, off, rfl, hc⟩ := (HX.out.below HDB.out).at_ hlt
        have hlt2 : k < ys.length := by rw [← HL.out]; exact hlt
        obtain ⟨b2, off2, rfl, hc2⟩ := (HY.out.below HDB.out).at_ hlt2
        obtain ⟨h1, h2⟩ := hc k hlt
        obtain ⟨h3, h4⟩ := hc2 k hlt2
        have HTE := Lib.hid (take_succ_eqR xs ys k hlt hlt2 HT.out)
        have HNE := Lib.hid (show xs[k] ≠ ys[k] → (xs == ys) = false from fun he => by
          rw [beq_eq_false_iff_ne]; intro h; exact he (by subst h; rfl))
        clear hc hc2
        generalize xs[k] = u1 at *
        generalize ys[k] = u2 at *
        obtain ⟨z1, v1⟩ := u1
        obtain ⟨z2, v2⟩ := u2
        simp only at h1 h2 h3 h4
        by_cases he : z1 = z2
        · subst he
          by_cases he2 : v1 = v2
          · subst he2
            have HT2 := Lib.hid (HTE.out rfl)
            go_wp2_with fail
            go_quiet (fail)
            go_wp2
            go_roundw
            case rel => exact ⟨k + 1, by omega, by go_num, Lib.hid HT2.out, HD.out.trans (Drawn.some_ _ _)⟩
            case measure => simp [intOf]; omega
          · have HF := Lib.hid (HNE.out (fun e => he2 (by cases e; rfl)))
            have q1 : (v1 == v2) = false := by rw [beq_eq_false_iff_ne]; exact he2
            have q2 : (z1 == z1) = true := by simp
            clear he2 HNE HTE
            go_wp2_with fail
            go_quiet (fail)
            go_wp2
            go_ret
            exact ⟨ret_bool HF.out.symm, HD.out.trans (Drawn.some_ _ _)⟩
        · have HF := Lib.hid (HNE.out (fun e => he (by cases e; rfl)))
          have q1 : (z1 == z2) = false := by rw [beq_eq_false_iff_ne]; exact he
          clear he HNE HTE
          go_wp2_with fail
          go_quiet (fail)
          go_wp2
          go_ret
          exact ⟨ret_bool HF.out.symm, HD.out.trans (Drawn.some_ _ _)⟩
      · have HF := Lib.hid (show (xs == ys) = true by
          have h := HT.out
          have hle := HL.out
          rw [List.take_of_length_le (by omega), List.take_of_length_le (by omega)] at h
          rw [h]; exact beq_self_eq_true _)
        go_wp2
        go_ret
        exact ⟨ret_bool HF.out.symm, HD.out⟩
  · have hne : ((xs.length : Int) != (ys.length : Int)) = true := by rw [bne_iff_ne]; omega
    have HF := Lib.hid (show (xs == ys) = false by
      rw [beq_eq_false_iff_ne]; intro h; exact hl (by rw [h]))
    clear hl hx hy
    go_enter Try.func109, Try.ntmps109
    go_wp2
    go_ret
    exact ⟨ret_bool HF.out.symm, Drawn.refl _⟩
theorem nsized_any (g : Geo) (n : NodeN) (A : Option Addr) (rs : List Rn) (c : Nat) (w : World) :
    Calls Try.prog 89 #[g.v, nodeV n A rs c] w fun e w' => e = .returned (.bool (sizedB g n)) ∧ Below w.heap.size w w' := by
  obtain ⟨gb, gn, gc, gk⟩ := g
  obtain ⟨t, l, s⟩ := n
  unfold nodeV
  simp only [Geo.v]
  have HW := Lib.hid (((Below.refl w.heap.size w).alloc (Nat.le_refl _) (.cells #[.int .i64 gb, .int .i64 gn, .int .i64 gc, .int .i64 gk] 33)).alloc (by simp) (.cells #[.int .i64 t, .int .i64 l, .int .i64 s, .slice A rs.length c] 84))
  by_cases h1 : t = 1
  · subst h1
    have HR := Lib.hid (show inB s 0 4096 = sizedB ⟨gb, gn, gc, gk⟩ ⟨1, l, s⟩ from rfl)
    have KI := Lib.hid (fun W => nin_any s 0 4096 W)
    generalize inB s 0 4096 = q at *
    go_enter Try.func89, Try.ntmps89
    go_wp2_with fail
    refine (KI.out _).mono ?_
    rintro e w1 ⟨rfl, rfl⟩
    go_wp2
    go_ret
    exact ⟨ret_bool HR.out, HW.out⟩
  have k1 : (t == 1) = false := by rw [beq_eq_false_iff_ne]; exact h1
  by_cases h2 : t = 2
  · subst h2
    by_cases hb : gb ≤ 4096
    · skip
      have HR := Lib.hid (show inB s 0 gb = sizedB ⟨gb, gn, gc, gk⟩ ⟨2, l, s⟩ by unfold sizedB; simp [hb])
      have KI := Lib.hid (fun W => nin_any s 0 gb W)
      generalize inB s 0 gb = q at *
      go_enter Try.func89, Try.ntmps89
      go_wp2_with fail
      refine (KI.out _).mono ?_
      rintro e w1 ⟨rfl, rfl⟩
      go_wp2
      go_ret
      exact ⟨ret_bool HR.out, HW.out⟩
    · skip
      have HR := Lib.hid (show inB s 0 4096 = sizedB ⟨gb, gn, gc, gk⟩ ⟨2, l, s⟩ by unfold sizedB; simp [hb])
      have KI := Lib.hid (fun W => nin_any s 0 4096 W)
      generalize inB s 0 4096 = q at *
      go_enter Try.func89, Try.ntmps89
      go_wp2_with fail
      refine (KI.out _).mono ?_
      rintro e w1 ⟨rfl, rfl⟩
      go_wp2
      go_ret
      exact ⟨ret_bool HR.out, HW.out⟩
  have k2 : (t == 2) = false := by rw [beq_eq_false_iff_ne]; exact h2
  have HR := Lib.hid (show inB s 1 400 = sizedB ⟨gb, gn, gc, gk⟩ ⟨t, l, s⟩ by unfold sizedB; rw [if_neg h1, if_neg h2])
  clear h1 h2
  have KI := Lib.hid (fun W => nin_any s 1 400 W)
  generalize inB s 1 400 = q at *
  go_enter Try.func89, Try.ntmps89
  go_wp2_with fail
  refine (KI.out _).mono ?_
  rintro e w1 ⟨rfl, rfl⟩
  go_wp2
  go_ret
  exact ⟨ret_bool HR.out, HW.out⟩
theorem nBlocks_any (n : NodeN) (A : Option Addr) (rs : List Rn) (c : Nat) (w : World) (hl : RdR w A rs) (hn : rs.length ≤ 1000) :
    Calls Try.prog 53 #[nodeV n A rs c] w fun e w' => e = .returned (.int .i64 (sumR rs)) ∧ Below w.heap.size w w' := by
  have HL := Lib.hid hl
  clear hl
  obtain ⟨t, l, s⟩ := n
  unfold nodeV sumR
  simp only
  have HST := Lib.hid (fun k => show sumTo rs (k + 1) = IntKind.i64.wrap (sumTo rs k + (rs.getD k (0, 0)).2) from rfl)
  have HS0 := Lib.hid (show sumTo rs 0 = 0 from rfl)
  generalize sumTo rs = st at *
  have HW := Lib.hid ((Below.refl w.heap.size w).alloc (Nat.le_refl _) (.cells #[.int .i64 t, .int .i64 l, .int .i64 s, .slice A rs.length c] 84))
  go_enter Try.func53, Try.ntmps53
  go_wp2
  generalize w.alloc (.cells #[.int .i64 t, .int .i64 l, .int .i64 s, .slice A rs.length c] 84) = w2 at *
  go_loopw [3, 9] (fun a i wr => ∃ k : Nat, k ≤ rs.length ∧ i = .int .i64 k ∧ a = .int .i64 (st k) ∧ Below w.heap.size w wr) (fun _ i _ => rs.length - (intOf i).toNat)
  case atStart => exact ⟨0, by omega, rfl, by rw [HS0.out], HW.out⟩
  case round =>
    obtain ⟨k, hk, rfl, rfl, hbw⟩ := hrel
    have HB := Lib.hid hbw
    clear hbw
    by_cases hlt : k < rs.length
    · obtain ⟨lb, lo, rfl, hlc⟩ := (HL.out.below HB.out).at_ hlt
      obtain ⟨hk1, hk2⟩ := hlc k hlt
      have hst := HST.out k
      rw [getD_lt hlt] at hst
      clear hlc
      generalize rs[k] = zv at *
      obtain ⟨z, v⟩ := zv
      simp only at hk1 hk2 hst
      have e1 : IntKind.i64.wrap ((k : Int) + 1) = (k : Int) + 1 := IntWalk.i64_in _ (by omega)
      obtain ⟨s2, hs2⟩ : ∃ s2, IntKind.i64.wrap (st k + v) = s2 := ⟨_, rfl⟩
      have HS2 := Lib.hid (show Value.int .i64 s2 = .int .i64 (st (k + 1)) by rw [hst, hs2])
      clear hst
      have HX := Lib.hid (HB.out.alloc HB.out.size (.cells #[.int .i64 z, .int .i64 v] 81))
      go_wp2
      go_roundw
      case rel => exact ⟨k + 1, by omega, by go_num, HS2.out, HX.out⟩
      case measure => simp [intOf]; omega
    · obtain rfl : k = rs.length := by omega
      go_wp2
      go_ret
      exact ⟨rfl, HB.out⟩
theorem nNeeds_any (n : NodeN) (A : Option Addr) (rs : List Rn) (c : Nat) (w : World) (hf : n.Fit) :
    Calls Try.prog 54 #[nodeV n A rs c] w fun e w' => e = .returned (.int .i64 (needsN n)) ∧ Below w.heap.size w w' := by
  obtain ⟨_, _, hf1, hf2⟩ := hf
  obtain ⟨t, l, s⟩ := n
  unfold nodeV needsN
  simp only at *
  have HW := Lib.hid ((Below.refl w.heap.size w).alloc (Nat.le_refl _) (.cells #[.int .i64 t, .int .i64 l, .int .i64 s, .slice A rs.length c] 84))
  by_cases h1 : s < 0
  · rw [if_pos h1]
    go_enter Try.func54, Try.ntmps54
    go_wp2
    go_ret
    exact ⟨rfl, HW.out⟩
  rw [if_neg h1]
  by_cases h2 : t = 2
  · subst h2
    rw [if_pos rfl]
    go_enter Try.func54, Try.ntmps54
    go_wp2
    go_ret
    exact ⟨rfl, HW.out⟩
  rw [if_neg h2]
  have k2 : (t == 2) = false := by rw [beq_eq_false_iff_ne]; exact h2
  have e1 : s.tdiv 64 = s / 64 := Int.tdiv_eq_ediv_of_nonneg (by omega)
  have e2 : IntKind.i64.wrap (s / 64) = s / 64 := IntWalk.i64_in _ (by omega)
  have e3 : s.tmod 64 = s % 64 := Int.tmod_eq_emod_of_nonneg (by omega)
  have e4 : IntKind.i64.wrap (s % 64) = s % 64 := IntWalk.i64_in _ (by omega)
  have e5 : IntKind.i64.wrap (s / 64 + 1) = s / 64 + 1 := IntWalk.i64_in _ (by omega)
  have e6 : IntKind.i64.wrap (s / 64 + s % 64) = s / 64 + s % 64 := IntWalk.i64_in _ (by omega)
  by_cases h3 : t = 1
  · subst h3
    rw [if_pos (.inl rfl)]
    by_cases h5 : s % 64 ≤ 1
    · rw [if_pos h5]
      go_enter Try.func54, Try.ntmps54
      go_wp2
      go_ret
      exact ⟨rfl, HW.out⟩
    · rw [if_neg h5]
      go_enter Try.func54, Try.ntmps54
      go_wp2
      go_ret
      exact ⟨rfl, HW.out⟩
  have k3 : (t == 1) = false := by rw [beq_eq_false_iff_ne]; exact h3
  by_cases h4 : t = 3
  · subst h4
    rw [if_pos (.inr rfl)]
    by_cases h5 : s % 64 ≤ 1
    · rw [if_pos h5]
      go_enter Try.func54, Try.ntmps54
      go_wp2
      go_ret
      exact ⟨rfl, HW.out⟩
    · rw [if_neg h5]
      go_enter Try.func54, Try.ntmps54
      go_wp2
      go_ret
      exact ⟨rfl, HW.out⟩
  have k4 : (t == 3) = false := by rw [beq_eq_false_iff_ne]; exact h4
  rw [if_neg (by omega)]
  clear e1 e2 e3 e4 e5 e6
  go_enter Try.func54, Try.ntmps54
  go_wp2
  go_ret
  exact ⟨rfl, HW.out⟩
end Go.Proofs.Ytgkojedgamglgaa
