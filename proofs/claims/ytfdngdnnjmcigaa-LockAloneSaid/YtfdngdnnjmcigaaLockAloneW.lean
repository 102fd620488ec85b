/- The walk of the statement LockAlone. Conditions: the slice can be read; the numbers are ints. -/
import Derived.Test.YtfdngdnnjmcigaaLkApp
import Derived.BigQuiet
namespace Go.Proofs.Ytfdngdnnjmcigaa
open Go.RowKit Go.Maps
set_option linter.unusedVariables false
set_option linter.unusedSimpArgs false
theorem RdL.turnJ {w0 w w' : World} {x b n : Nat} {T : Int → Sl} {A : Option Addr} {ws : List Wt} (h : RdL w A ws) (hj : LkJ w0 w x b n T) (hg : w.grownBy w' (some b)) : RdL w' A ws := by
  obtain ⟨D, ho, _⟩ := hj.lk.map
  exact h.turn ho hg
def aloneL (ks : List Int) : List Wt := ks.map fun z => (z, true)
theorem aloneL_len (ks : List Int) : (aloneL ks).length = ks.length := by unfold aloneL; rw [List.length_map]
theorem aloneL_rises (ks : List Int) (h : ∀ j, (h : j + 1 < ks.length) → ks[j] < ks[j + 1]) : risesB (aloneL ks) = true := by
  rw [risesB_iff]
  intro k hk
  unfold aloneL at hk ⊢
  simp only [List.getElem_map]
  exact h k (by simpa using hk)
theorem alone_free (T : Int → Sl) (who : Int) (ls : List Wt) (hT : ∀ z, (T z).2.1 = []) (h0 : ls ≠ []) (hr : risesB ls = true) : mayV T who ls = 0 := mayV_ok (by rw [hT, hr]; simpa using h0) (by
  rintro ⟨z, _, _, y, hy, _⟩
  rw [hT] at hy
  cases hy)
theorem alone_busy (T : Int → Sl) (who other : Int) (hw : In64 who) (hne : who ≠ other) (hT : (T other).2.1 = []) (k : Int) (a : Bool) (hk : (k, true) ∈ (T who).2.1) : mayV T other [(k, a)] = 15 := mayV_busy (by rw [hT]; simp [risesB]) ⟨who, hw, hne, (k, true), hk, (k, a), by simp, by simp [apartB]⟩
set_option maxRecDepth 100000 in
set_option maxHeartbeats 8000000 in
theorem LockAlone_walk (who other : Int) (ks : List Int) (X : Option Addr) (xc : Nat) (w : World) (hw0 : -9223372036854775808 ≤ who) (hw1 : who ≤ 9223372036854775807) (ho0 : -9223372036854775808 ≤ other) (ho1 : other ≤ 9223372036854775807)
    (hx : RdF Zv w X ks ∧ ∀ z ∈ ks, -9223372036854775808 ≤ z ∧ z ≤ 9223372036854775807) (hxc : ks.length ≤ xc) (hxm : xc ≤ maxLen) :
    Calls Try.prog 5 #[.int .i64 who, .int .i64 other, .slice X ks.length xc] w fun e w' => e = .returned (.bool true) ∧ Below w.heap.size w w' := by
  have KA := Lib.hid (lkAwake_any w)
  have HX := Lib.hid hx.1
  have HXI := Lib.hid hx.2
  have HWI := Lib.hid (show In64 who from ⟨hw0, hw1⟩)
  have HOI := Lib.hid (show In64 other from ⟨ho0, ho1⟩)
  clear hx hxc hxm hw0 hw1 ho0 ho1
  by_cases q1 : ks.length < 1
  · have d1 : decide ((ks.length : Int) < 1) = true := decide_eq_true (by omega)
    have d1' : decide (ks.length < 1) = true := decide_eq_true q1
    have q0 : ks.length = 0 := by omega
    go_enter Try.func5, Try.ntmps5
    go_wp2_with fail
    refine KA.out.mono ?_
    rintro e w1 ⟨rfl, hb⟩
    go_wp2
    all_goals go_ret
    all_goals exact ⟨rfl, hb⟩
  have d1 : decide ((ks.length : Int) < 1) = false := decide_eq_false (by omega)
  have d1' : decide (ks.length < 1) = false := decide_eq_false q1
  have d1'' : (ks.length = 0) = False := by simp; intro e; rw [e] at q1; simp at q1
  by_cases q2 : 10 < ks.length
  · have d2 : decide ((10 : Int) < (ks.length : Int)) = true := decide_eq_true (by omega)
    have d2' : decide (10 < ks.length) = true := decide_eq_true q2
    clear q1
    go_enter Try.func5, Try.ntmps5
    go_wp2_with fail
    refine KA.out.mono ?_
    rintro e w1 ⟨rfl, hb⟩
    go_wp2
    all_goals go_ret
    all_goals exact ⟨rfl, hb⟩
  have d2 : decide ((10 : Int) < (ks.length : Int)) = false := decide_eq_false (by omega)
  have d2' : decide (10 < ks.length) = false := decide_eq_false q2
  by_cases q3 : who = other
  · have d3 : (who == other) = true := beq_iff_eq.2 q3
    clear q1 q2 q3
    go_enter Try.func5, Try.ntmps5
    go_wp2_with fail
    refine KA.out.mono ?_
    rintro e w1 ⟨rfl, hb⟩
    go_wp2
    all_goals go_ret
    all_goals exact ⟨rfl, hb⟩
  have d3 : (who == other) = false := beq_eq_false_iff_ne.2 q3
  have HNE := Lib.hid q3
  have HL1 := Lib.hid (show 1 ≤ ks.length by omega)
  have HL2 := Lib.hid (show ks.length ≤ 10 by omega)
  clear q1 q2 q3
  go_enter Try.func5, Try.ntmps5
  go_wp2_with fail
  refine KA.out.mono ?_
  rintro e w1 ⟨rfl, hb⟩
  have HW := Lib.hid hb
  have HXW := Lib.hid (HX.out.below hb)
  clear hb KA
  go_wp2
  go_loopw [7, 8] (fun vl i wr => ∃ (k : Nat) (B : Option Addr) (d : Nat), k ≤ ks.length ∧ i = .int .i64 k ∧ vl = .slice B k d ∧ OwnL wr w1.heap.size B (aloneL (ks.take k)) d ∧ (∀ j, (h : j + 1 < ks.length) → j + 1 < k → ks[j] < ks[j + 1]) ∧ Below w1.heap.size w1 wr) (fun _ i _ => ks.length - (intOf i).toNat)
  case atStart => exact ⟨0, none, 0, Nat.zero_le _, rfl, rfl, OwnL.nil_ _ _, fun j _ h => absurd h (by omega), Below.refl _ _⟩
  case round =>
    obtain ⟨k, B, d, hk, rfl, rfl, hown, hris, hbw⟩ := hrel
    have HO := Lib.hid hown
    have HR := Lib.hid hris
    have HB := Lib.hid hbw
    have HTL := Lib.hid (show (aloneL (ks.take k)).length = k by rw [aloneL_len, List.length_take]; omega)
    clear hown hris hbw
    by_cases hlt : k < ks.length
    · obtain ⟨bx, off, rfl, hc⟩ := (HXW.out.below HB.out).at_ hlt
      have hk0 := hc k hlt
      unfold Zv at hk0
      have e1 : IntKind.i64.wrap ((k : Int) + 1) = (k : Int) + 1 := IntWalk.i64_in _ (by have := HL2.out; omega)
      have HTS := Lib.hid (show aloneL (ks.take k) ++ [(ks[k], true)] = aloneL (ks.take (k + 1)) by unfold aloneL; rw [List.take_succ_eq_append_getElem hlt, List.map_append]; rfl)
      cases k with
      | zero =>
          have d9 : decide ((0 : Int) < ((0 : Nat) : Int)) = false := by decide
          have HR2 := Lib.hid (show ∀ j, (h : j + 1 < ks.length) → j + 1 < 0 + 1 → ks[j] < ks[j + 1] from fun j _ h => absurd h (by omega))
          generalize ks[0] = z at *
          go_wp2
          go_quiet (fail)
          have HD9 := Lib.hid (show Below wr.heap.size wr (wr.drewN nq) from (Drawn.some_ _ _).below _)
          generalize wr.drewN nq = w9 at *
          have HB1 := Lib.hid (HB.out.trans (HD9.out.mono HB.out.size))
          have HO1 := Lib.hid (HO.out.below HD9.out)
          clear HB HO
          go_upto_region 11 with fail
          have al := (Below.refl w9.heap.size w9).alloc (Nat.le_refl _) (.cells #[.int .i64 z, .bool true] 28)
          have HO2 := Lib.hid (HO1.out.below al)
          have HB2 := Lib.hid (HB1.out.trans (al.mono HB1.out.size))
          have HRN := Lib.hid (show RdL (w9.alloc (.cells #[.int .i64 z, .bool true] 28)) (some ⟨w9.heap.size, 0, none⟩) [(z, true)] from RdL.new w9 [(z, true)] 28)
          have hk9 := (HD9.out.cell (p := ⟨bx, off + 0, none⟩) (cell_lt hk0)).trans hk0
          try simp only [Nat.add_zero] at hk9
          clear al hk0 HB1 HO1 HD9
          go_wp2_with (first | go_skip | (at_builtin; refine stop_ ?_))
          refine appL (.tmp 45) (.tmp 51) rfl rfl w1.heap.size B (aloneL (ks.take 0)) _ d rfl HTL.out.symm HO2.out _ [(z, true)] 1 1 rfl rfl HRN.out (by have h := HTL.out; have := HL2.out; rw [h]; show _ + 1 ≤ _; omega) HB2.out.size ?_
          intro B2 zs c2 w5 hz hown hg hloc
          have HZ := Lib.hid (show zs = aloneL (ks.take (0 + 1)) by rw [hz, HTS.out])
          have HZL := Lib.hid (show zs.length = 0 + 1 by rw [HZ.out, aloneL_len, List.length_take]; omega)
          have HO5 := Lib.hid hown
          have HB5 := Lib.hid (HB2.out.grown hg HB2.out.size fun q hq => (own_lt HO2.out q hq).1)
          clear hz hown hg hloc HO2 HB2 HRN hk9
          unfold Stop
          rw [HZL.out]
          go_wp2
          go_roundw
          case rel => exact ⟨0 + 1, B2, c2, hlt, by go_num, by go_num, by rw [← HZ.out]; exact HO5.out, HR2.out, HB5.out⟩
          case measure => simp [intOf]; omega
      | succ j =>
          clear e1
          have e1 : IntKind.i64.wrap ((j : Int) + 1 + 1) = (j : Int) + 1 + 1 := IntWalk.i64_in _ (by have := HL2.out; omega)
          have e2 : IntKind.i64.wrap (j : Int) = (j : Int) := IntWalk.i64_in _ (by have := HL2.out; omega)
          have d9 : decide ((0 : Int) < (j : Int) + 1) = true := decide_eq_true (by omega)
          have hjl : j < ks.length := by omega
          have hj0 := hc j hjl
          unfold Zv at hj0
          have HR3 := Lib.hid (show ks[j] < ks[j + 1] → ∀ i, (h : i + 1 < ks.length) → i + 1 < j + 1 + 1 → ks[i] < ks[i + 1] from fun hge i hi h => by
            by_cases e : i = j
            · subst e; exact hge
            · exact HR.out i hi (by omega))
          clear hc
          generalize ks[j] = y at *
          generalize ks[j + 1] = z at *
          by_cases hge : z ≤ y
          · have f1 : decide (z ≤ y) = true := decide_eq_true hge
            clear hge HR3
            go_wp2
            go_quiet (fail)
            go_wp2
            go_ret
            exact ⟨rfl, HW.out.trans ((HB.out.trans ((Drawn.some_ _ _).below _)).mono HW.out.size)⟩
          · have f1 : decide (z ≤ y) = false := decide_eq_false hge
            have HR2 := Lib.hid (HR3.out (by omega))
            clear hge HR3
            go_wp2
            go_quiet (fail)
            have HD9 := Lib.hid (show Below wr.heap.size wr (wr.drewN nq) from (Drawn.some_ _ _).below _)
            generalize wr.drewN nq = w9 at *
            have HB1 := Lib.hid (HB.out.trans (HD9.out.mono HB.out.size))
            have HO1 := Lib.hid (HO.out.below HD9.out)
            clear HB HO
            go_upto_region 11 with fail
            have al := (Below.refl w9.heap.size w9).alloc (Nat.le_refl _) (.cells #[.int .i64 z, .bool true] 28)
            have HO2 := Lib.hid (HO1.out.below al)
            have HB2 := Lib.hid (HB1.out.trans (al.mono HB1.out.size))
            have HRN := Lib.hid (show RdL (w9.alloc (.cells #[.int .i64 z, .bool true] 28)) (some ⟨w9.heap.size, 0, none⟩) [(z, true)] from RdL.new w9 [(z, true)] 28)
            have hk9 := (HD9.out.cell (p := ⟨bx, off + (j + 1), none⟩) (cell_lt hk0)).trans hk0
            clear al hk0 HB1 HO1 HD9
            go_wp2_with (first | go_skip | (at_builtin; refine stop_ ?_))
            refine appL (.tmp 45) (.tmp 51) rfl rfl w1.heap.size B (aloneL (ks.take (j + 1))) _ d rfl HTL.out.symm HO2.out _ [(z, true)] 1 1 rfl rfl HRN.out (by have h := HTL.out; have := HL2.out; rw [h]; show _ + 1 ≤ _; omega) HB2.out.size ?_
            intro B2 zs c2 w5 hz hown hg hloc
            have HZ := Lib.hid (show zs = aloneL (ks.take (j + 1 + 1)) by rw [hz, HTS.out])
            have HZL := Lib.hid (show zs.length = j + 1 + 1 by rw [HZ.out, aloneL_len, List.length_take]; omega)
            have HO5 := Lib.hid hown
            have HB5 := Lib.hid (HB2.out.grown hg HB2.out.size fun q hq => (own_lt HO2.out q hq).1)
            clear hz hown hg hloc HO2 HB2 HRN hk9
            unfold Stop
            rw [HZL.out]
            go_wp2
            go_roundw
            case rel => exact ⟨j + 1 + 1, B2, c2, hlt, by go_num, by go_num, by rw [← HZ.out]; exact HO5.out, HR2.out, HB5.out⟩
            case measure => simp [intOf]; omega
    · obtain rfl : k = ks.length := by omega
      have hal := HO.out.rd
      rw [List.take_length] at hal HTL
      obtain ⟨ls, hls⟩ : ∃ ls, aloneL ks = ls := ⟨_, rfl⟩
      have hl0 : ls ≠ [] := by
        intro e
        have h := HTL.out
        have := HL1.out
        rw [hls, e] at h
        simp at h
        omega
      have hris : risesB ls = true := by rw [← hls]; exact aloneL_rises ks (fun j h => HR.out j h h)
      have hmem : ∀ j, (h : j < ks.length) → (ks[j], true) ∈ ls := fun j h => by
        rw [← hls]; unfold aloneL; exact List.mem_map.2 ⟨ks[j], List.getElem_mem h, rfl⟩
      have HLL := Lib.hid (show ls.length = ks.length by rw [← hls]; exact HTL.out)
      have HL0 := Lib.hid hl0
      have HRI := Lib.hid hris
      have HME := Lib.hid hmem
      rw [hls] at hal
      have HRL := Lib.hid hal
      have HBW := Lib.hid (HW.out.trans (HB.out.mono HW.out.size))
      have KN := Lib.hid (new_any wr)
      clear HO HB HR HTL hal hls hl0 hris hmem HW HXW
      go_wp2_with fail
      refine KN.out.mono ?_
      rintro e w2 ⟨x, b, rfl, hb1, hx1, hl, hb⟩
      have HR2 := Lib.hid (HRL.out.below hb)
      have J2 := Lib.hid (show LkJ w w2 x b 0 (fun _ => nilSl) from ⟨hl, nilT0, HBW.out.trans (hb.mono HBW.out.size), Nat.le_trans HBW.out.size hb1⟩)
      clear hb1 hx1 hl hb KN HBW HRL
      have h3 := alone_free (fun _ => nilSl) who ls (fun _ => rfl) HL0.out HRI.out
      have KT := Lib.hid (take_any (fun _ => nilSl) who ls B d w2 x b 0 J2.out.lk HWI.out HR2.out (by have := HLL.out; have := HL2.out; omega) (by omega))
      rw [HLL.out] at KT
      go_wp2_with fail
      refine KT.out.mono ?_
      rintro e w3 hp
      obtain rfl := hp.1
      have HR3 := Lib.hid (HR2.out.turnJ J2.out hp.2.1)
      obtain ⟨B3, d3, hj3⟩ := J2.out.take0 hp h3
      rw [h3]
      have J3 := Lib.hid hj3
      have HT3 := Lib.hid (show ((upd (fun _ => nilSl) who (B3, ls, d3)) who).2.1 = ls by rw [upd_self])
      have HT3o := Lib.hid (show ((upd (fun _ => nilSl) who (B3, ls, d3)) other).2.1 = [] by rw [upd_ne _ _ (fun e => HNE.out e.symm)]; rfl)
      have HT3a := Lib.hid (show ∀ z, z ≠ who → ((upd (fun _ => nilSl) who (B3, ls, d3)) z).2.1 = [] from fun z hz => by rw [upd_ne _ _ hz]; rfl)
      clear hp hj3 h3 KT J2 HR2
      generalize upd (fun _ => nilSl) who (B3, ls, d3) = T3 at *
      have hlen0 : 0 < ks.length := by have := HL1.out; omega
      have hlenI : (0 : Int) < (ks.length : Int) := by omega
      obtain ⟨bx, off, rfl, hc⟩ := (HX.out.below J3.out.bel).at_ hlen0
      have hk0 := hc 0 hlen0
      unfold Zv at hk0
      simp only [Nat.add_zero] at hk0
      obtain ⟨k0, hk0e⟩ : ∃ k0, ks[0] = k0 := ⟨_, rfl⟩
      rw [hk0e] at hk0
      have HK0 := Lib.hid (show (k0, true) ∈ ls by rw [← hk0e]; exact HME.out 0 hlen0)
      have HK0I := Lib.hid (show In64 k0 by rw [← hk0e]; exact HXI.out _ (List.getElem_mem hlen0))
      obtain ⟨j, hj⟩ : ∃ j, ks.length = j + 1 := ⟨ks.length - 1, by omega⟩
      have hjl : j < ks.length := by omega
      have hk1 := hc j hjl
      unfold Zv at hk1
      obtain ⟨k1, hk1e⟩ : ∃ k1, ks[j] = k1 := ⟨_, rfl⟩
      rw [hk1e] at hk1
      have HK1 := Lib.hid (show (k1, true) ∈ ls by rw [← hk1e]; exact HME.out j hjl)
      have e9 : IntKind.i64.wrap ((ks.length : Int) - 1) = (j : Int) := by
        have h : (ks.length : Int) - 1 = (j : Int) := by omega
        rw [h]
        exact IntWalk.i64_in _ (by have := HL2.out; omega)
      have HK0E := Lib.hid hk0e
      clear hc hk0e hk1e
      have HC0 := Lib.hid hk0
      have HC1 := Lib.hid hk1
      have HJJ := Lib.hid hj
      clear hj
      -- May(other, keys[0])
      have al := (Below.refl w3.heap.size w3).alloc (Nat.le_refl _) (.cells #[.int .i64 k0, .bool false] 28)
      have J4 := Lib.hid (J3.out.below al)
      have HR4 := Lib.hid (HR3.out.below al)
      have HD4 := Lib.hid al
      have R4 := Lib.hid (show RdL (w3.alloc (.cells #[.int .i64 k0, .bool false] 28)) (some ⟨w3.heap.size, 0, none⟩) [(k0, false)] from RdL.new w3 [(k0, false)] 28)
      have KM := Lib.hid (mayF_any T3 other [(k0, false)] (some ⟨w3.heap.size, 0, none⟩) 1 _ x b _ J4.out.lk HOI.out R4.out (by show 1 ≤ 1000000; omega))
      rw [alone_busy T3 who other HWI.out HNE.out HT3o.out k0 false (by rw [HT3.out]; exact HK0.out)] at KM
      clear al
      go_wp2_with fail
      refine KM.out.mono ?_
      rintro e w5 ⟨rfl, hb⟩
      have J5 := Lib.hid (J4.out.below hb)
      have HR5 := Lib.hid (HR4.out.below hb)
      have hk1 := ((HD4.out.trans (hb.mono HD4.out.size)).cell (p := ⟨bx, off + j, none⟩) (cell_lt hk1)).trans hk1
      clear hb KM J4 HR4 HD4 R4 J3 HR3 hk0
      have f15 : ((15 : Int) == 0) = false := by decide
      rw [f15]
      -- May(other, the last key alone)
      have al := (Below.refl w5.heap.size w5).alloc (Nat.le_refl _) (.cells #[.int .i64 k1, .bool true] 28)
      have J6 := Lib.hid (J5.out.below al)
      have HR6 := Lib.hid (HR5.out.below al)
      have R6 := Lib.hid (show RdL (w5.alloc (.cells #[.int .i64 k1, .bool true] 28)) (some ⟨w5.heap.size, 0, none⟩) [(k1, true)] from RdL.new w5 [(k1, true)] 28)
      have KM := Lib.hid (mayF_any T3 other [(k1, true)] (some ⟨w5.heap.size, 0, none⟩) 1 _ x b _ J6.out.lk HOI.out R6.out (by show 1 ≤ 1000000; omega))
      rw [alone_busy T3 who other HWI.out HNE.out HT3o.out k1 true (by rw [HT3.out]; exact HK1.out), f15] at KM
      have hjI : (j : Int) < (ks.length : Int) := by omega
      clear al
      go_wp2_with fail
      refine KM.out.mono ?_
      rintro e w7 ⟨rfl, hb⟩
      have J7 := Lib.hid (J6.out.below hb)
      have HR7 := Lib.hid (HR6.out.below hb)
      clear hb KM J6 HR6 R6 J5 HR5 hk1 f15
      -- Give(who)
      have KG := Lib.hid (give_any T3 who w7 x b _ J7.out.lk HWI.out)
      have hT4 : ∀ z, ((upd T3 who nilSl) z).2.1 = [] := fun z => by
        by_cases e : z = who
        · subst e; rw [upd_self]; rfl
        · rw [upd_ne _ _ e]; exact HT3a.out z e
      go_wp2_with fail
      refine KG.out.mono ?_
      rintro e w8 ⟨rfl, hl, hg⟩
      have HR8 := Lib.hid (HR7.out.turnJ J7.out hg)
      have J8 := Lib.hid (J7.out.give hl hg)
      clear hl hg KG J7 HR7
      generalize upd T3 who nilSl = T4 at *
      have HT4 := Lib.hid hT4
      -- May(other, l)
      have h9 := alone_free T4 other ls hT4 HL0.out HRI.out
      have KM := Lib.hid (mayF_any T4 other ls B d w8 x b _ J8.out.lk HOI.out HR8.out (by have := HLL.out; have := HL2.out; omega))
      rw [h9, HLL.out] at KM
      clear hT4
      go_wp2_with fail
      refine KM.out.mono ?_
      rintro e w9 ⟨rfl, hb⟩
      have J9 := Lib.hid (J8.out.below hb)
      have HR9 := Lib.hid (HR8.out.below hb)
      clear hb KM J8 HR8
      have f00 : ((0 : Int) == 0) = true := by decide
      rw [f00]
      -- Take(other, l)
      have KT := Lib.hid (take_any T4 other ls B d w9 x b _ J9.out.lk HOI.out HR9.out (by have := HLL.out; have := HL2.out; omega) (by omega))
      rw [HLL.out] at KT
      go_wp2_with fail
      refine KT.out.mono ?_
      rintro e wa hp
      obtain rfl := hp.1
      obtain ⟨Ba, da, hja⟩ := J9.out.take0 hp h9
      rw [h9]
      have JA := Lib.hid hja
      have HH := Lib.hid (show ∀ z, HasK (upd T4 other (Ba, ls, da)) k0 z = true ↔ z = other from fun z => by
        unfold HasK
        by_cases e : z = other
        · subst e
          rw [upd_self]
          simp only [iff_true]
          exact List.any_eq_true.2 ⟨(k0, true), HK0.out, by simp⟩
        · rw [upd_ne _ _ e, HT4.out]
          simp [e])
      clear hp hja h9 KT J9 HR9
      generalize upd T4 other (Ba, ls, da) = T5 at *
      have hk0 := ((HX.out.below JA.out.bel).at_ hlen0)
      have hc0 : wa.cell? ⟨bx, off, none⟩ = some (.int .i64 k0) := by
        obtain ⟨bx2, off2, he, hc2⟩ := hk0
        injection he with he
        injection he with h1 h2 _
        subst h1
        subst h2
        have h := hc2 0 hlen0
        unfold Zv at h
        rw [HK0E.out, Nat.add_zero] at h
        exact h
      have KW := Lib.hid (who_any T5 k0 wa x b _ JA.out.lk HK0I.out (by omega))
      unfold WhoPost at KW
      clear hk0
      go_wp2_with fail
      refine KW.out.mono ?_
      rintro e wb ⟨B9, d9, rs, rfl, hr, hs, hm, _, hb⟩
      have HRS := Lib.hid (show rs = [other] from lt_ext hs (by simp) fun z => by
        rw [hm z, HH.out z]
        simp only [List.mem_singleton]
        exact ⟨fun h => h.2, fun h => ⟨by rw [h]; exact HOI.out, h⟩⟩)
      have HRL := Lib.hid (show rs.length = 1 by rw [HRS.out]; rfl)
      have HB9 := Lib.hid (JA.out.bel.trans (hb.mono JA.out.bel.size))
      clear hr hs hm hb KW HRS
      rw [HRL.out]
      go_wp2
      go_ret
      exact ⟨rfl, HB9.out⟩
end Go.Proofs.Ytfdngdnnjmcigaa
