/- The walks of the reference's zero, Blocks, Needs, Apart, IsLost. Condition: the runs can be read. -/
import Derived.Test.YtgkojedgamglgaaNodeW7
import Derived.Test.YtgkojedgamglgaaRefGeo
namespace Go.Proofs.Ytgkojedgamglgaa
open Go.RowKit
set_option linter.unusedVariables false
set_option linter.unusedSimpArgs false
set_option maxRecDepth 100000 in
theorem rnZero_any (n : NodeN) (A : Option Addr) (rs : List Rn) (c : Nat) (w : World) :
    Calls Try.prog 92 #[nodeV n A rs c] w fun e w' => e = .returned (.bool (nfreeB n rs)) ∧ Below w.heap.size w w' := by
  unfold nodeV nfreeB
  obtain ⟨t, l, s⟩ := n
  simp only
  have HW := Lib.hid ((Below.refl w.heap.size w).alloc (Nat.le_refl _) (.cells #[.int .i64 t, .int .i64 l, .int .i64 s, .slice A rs.length c] 93))
  by_cases ht : t = 0
  · skip
    by_cases hl : l = 0
    · skip
      by_cases hs : s = 0
      · skip
        by_cases hr : rs.length = 0
        · skip
          have HR := Lib.hid (show true = (decide (t = 0) && decide (l = 0) && decide (s = 0) && decide (rs.length = 0)) by simp [ht, hl, hs, hr])
          have kt : (t == 0) = true := by simp [ht]
          have kl : (l == 0) = true := by simp [hl]
          have ks : (s == 0) = true := by simp [hs]
          have kr : ((rs.length : Int) == 0) = true := by simp [hr]
          clear ht hl hs hr
          go_enter Try.func92, Try.ntmps92
          go_wp2
          go_ret
          exact ⟨ret_bool HR.out, HW.out⟩
        · skip
          have HR := Lib.hid (show false = (decide (t = 0) && decide (l = 0) && decide (s = 0) && decide (rs.length = 0)) by simp [hr])
          have kt : (t == 0) = true := by simp [ht]
          have kl : (l == 0) = true := by simp [hl]
          have ks : (s == 0) = true := by simp [hs]
          have kr : ((rs.length : Int) == 0) = false := by rw [beq_eq_false_iff_ne]; omega
          clear ht hl hs hr
          go_enter Try.func92, Try.ntmps92
          go_wp2
          go_ret
          exact ⟨ret_bool HR.out, HW.out⟩
      · skip
        have HR := Lib.hid (show false = (decide (t = 0) && decide (l = 0) && decide (s = 0) && decide (rs.length = 0)) by simp [hs])
        have kt : (t == 0) = true := by simp [ht]
        have kl : (l == 0) = true := by simp [hl]
        have ks : (s == 0) = false := by rw [beq_eq_false_iff_ne]; omega
        clear ht hl hs
        go_enter Try.func92, Try.ntmps92
        go_wp2
        go_ret
        exact ⟨ret_bool HR.out, HW.out⟩
    · skip
      have HR := Lib.hid (show false = (decide (t = 0) && decide (l = 0) && decide (s = 0) && decide (rs.length = 0)) by simp [hl])
      have kt : (t == 0) = true := by simp [ht]
      have kl : (l == 0) = false := by rw [beq_eq_false_iff_ne]; omega
      clear ht hl
      go_enter Try.func92, Try.ntmps92
      go_wp2
      go_ret
      exact ⟨ret_bool HR.out, HW.out⟩
  · skip
    have HR := Lib.hid (show false = (decide (t = 0) && decide (l = 0) && decide (s = 0) && decide (rs.length = 0)) by simp [ht])
    have kt : (t == 0) = false := by rw [beq_eq_false_iff_ne]; omega
    clear ht
    go_enter Try.func92, Try.ntmps92
    go_wp2
    go_ret
    exact ⟨ret_bool HR.out, HW.out⟩
theorem rnBlocks_any (n : NodeN) (A : Option Addr) (rs : List Rn) (c : Nat) (w : World) (hl : RdR w A rs) (hn : rs.length ≤ 1000) :
    Calls Try.prog 62 #[nodeV n A rs c] w fun e w' => e = .returned (.int .i64 (sumR rs)) ∧ Below w.heap.size w w' := by
  have HL := Lib.hid hl
  clear hl
  obtain ⟨t, l, s⟩ := n
  unfold nodeV sumR
  simp only
  have HST := Lib.hid (fun k => show sumTo rs (k + 1) = IntKind.i64.wrap (sumTo rs k + (rs.getD k (0, 0)).2) from rfl)
  have HS0 := Lib.hid (show sumTo rs 0 = 0 from rfl)
  generalize sumTo rs = st at *
  have HW := Lib.hid ((Below.refl w.heap.size w).alloc (Nat.le_refl _) (.cells #[.int .i64 t, .int .i64 l, .int .i64 s, .slice A rs.length c] 93))
  have HBX := Lib.hid (heap_alloc_new w (.cells #[.int .i64 t, .int .i64 l, .int .i64 s, .slice A rs.length c] 93))
  have HL := Lib.hid (HL.out.below HW.out)
  go_enter Try.func62, Try.ntmps62
  go_wp2
  generalize w.alloc (.cells #[.int .i64 t, .int .i64 l, .int .i64 s, .slice A rs.length c] 93) = w2 at *
  go_loopw [3, 4] (fun a i wr => ∃ k : Nat, k ≤ rs.length ∧ i = .int .i64 k ∧ a = .int .i64 (st k) ∧ w2 = wr) (fun _ i _ => rs.length - (intOf i).toNat)
  case atStart => exact ⟨0, by omega, rfl, by rw [HS0.out], rfl⟩
  case round =>
    obtain ⟨k, hk, rfl, rfl, rfl⟩ := hrel
    obtain ⟨c0, c1, c2, c3⟩ := cells4 HBX.out
    by_cases hlt : k < rs.length
    · obtain ⟨lb, lo, rfl, hlc⟩ := HL.out.at_ hlt
      obtain ⟨hk1, hk2⟩ := hlc k hlt
      have hst := HST.out k
      rw [getD_lt hlt] at hst
      clear hlc
      generalize rs[k] = zv at *
      obtain ⟨z, v⟩ := zv
      simp only at hk1 hk2 hst
      have e1 : IntKind.i64.wrap ((k : Int) + 1) = (k : Int) + 1 := IntWalk.i64_in _ (by omega)
      obtain ⟨s2, hs2⟩ : ∃ s2, IntKind.i64.wrap (st k + v) = s2 := ⟨_, rfl⟩
      have HS2 := Lib.hid (show Value.int .i64 s2 = .int .i64 (st (k + 1)) by rw [hst, hs2])
      clear hst
      go_wp2
      go_roundw
      case rel => exact ⟨k + 1, by omega, by go_num, HS2.out, trivial⟩
      case measure => simp [intOf]; omega
    · obtain rfl : k = rs.length := by omega
      go_wp2
      go_ret
      exact ⟨rfl, HW.out⟩
theorem needs_up (s : Int) (h : 0 ≤ s) : (s % 64 + 63) / 64 = if s % 64 ≤ 1 then s % 64 else 1 := by
  split <;> omega
theorem rnNeeds_any (n : NodeN) (A : Option Addr) (rs : List Rn) (c : Nat) (w : World) (hf : n.Fit) :
    Calls Try.prog 63 #[nodeV n A rs c] w fun e w' => e = .returned (.int .i64 (needsN n)) ∧ Below w.heap.size w w' := by
  obtain ⟨_, _, hf1, hf2⟩ := hf
  have HN := Lib.hid (show needsN n = (if n.s < 0 then 0 else if n.t = 2 then n.s else if n.t = 1 ∨ n.t = 3 then n.s / 64 + (if n.s % 64 ≤ 1 then n.s % 64 else 1) else 0) from rfl)
  generalize needsN n = nd at *
  obtain ⟨t, l, s⟩ := n
  unfold nodeV
  simp only at *
  have HW := Lib.hid ((Below.refl w.heap.size w).alloc (Nat.le_refl _) (.cells #[.int .i64 t, .int .i64 l, .int .i64 s, .slice A rs.length c] 93))
  have HNM := Lib.hid HN.out
  clear HN
  by_cases h1 : s < 0
  · have HR := Lib.hid (show nd = 0 by rw [HNM.out, if_pos h1])
    clear HNM
    go_enter Try.func63, Try.ntmps63
    go_wp2
    go_ret
    exact ⟨congrArg (fun x => Ending.returned (Value.int .i64 x)) HR.out.symm, HW.out⟩
  by_cases h2 : t = 2
  · have HR := Lib.hid (show nd = s by rw [HNM.out, if_neg h1, if_pos h2])
    subst h2
    clear HNM
    go_enter Try.func63, Try.ntmps63
    go_wp2
    go_ret
    exact ⟨congrArg (fun x => Ending.returned (Value.int .i64 x)) HR.out.symm, HW.out⟩
  have k2 : (t == 2) = false := by rw [beq_eq_false_iff_ne]; exact h2
  have e1 : s.tdiv 64 = s / 64 := Int.tdiv_eq_ediv_of_nonneg (by omega)
  have e2 : IntKind.i64.wrap (s / 64) = s / 64 := IntWalk.i64_in _ (by omega)
  have e3 : s.tmod 64 = s % 64 := Int.tmod_eq_emod_of_nonneg (by omega)
  have e4 : IntKind.i64.wrap (s % 64) = s % 64 := IntWalk.i64_in _ (by omega)
  have e5 : IntKind.i64.wrap (s % 64 + 63) = s % 64 + 63 := IntWalk.i64_in _ (by omega)
  have e6 : (s % 64 + 63).tdiv 64 = (s % 64 + 63) / 64 := Int.tdiv_eq_ediv_of_nonneg (by omega)
  have e7 : IntKind.i64.wrap ((s % 64 + 63) / 64) = (s % 64 + 63) / 64 := IntWalk.i64_in _ (by omega)
  have e8 : IntKind.i64.wrap (s / 64 + (s % 64 + 63) / 64) = s / 64 + (s % 64 + 63) / 64 := IntWalk.i64_in _ (by omega)
  by_cases h1b : t = 1
  · have HR := Lib.hid (show nd = s / 64 + (s % 64 + 63) / 64 by rw [HNM.out, if_neg h1, if_neg h2, if_pos (by omega), needs_up s (by omega)])
    have k1 : (t == 1) = true := by rw [h1b]; rfl
    subst h1b
    clear HNM
    go_enter Try.func63, Try.ntmps63
    go_wp2
    go_ret
    exact ⟨congrArg (fun x => Ending.returned (Value.int .i64 x)) HR.out.symm, HW.out⟩
  have k1 : (t == 1) = false := by rw [beq_eq_false_iff_ne]; exact h1b
  by_cases h3b : t = 3
  · have HR := Lib.hid (show nd = s / 64 + (s % 64 + 63) / 64 by rw [HNM.out, if_neg h1, if_neg h2, if_pos (by omega), needs_up s (by omega)])
    have k3 : (t == 3) = true := by rw [h3b]; rfl
    subst h3b
    clear HNM
    go_enter Try.func63, Try.ntmps63
    go_wp2
    go_ret
    exact ⟨congrArg (fun x => Ending.returned (Value.int .i64 x)) HR.out.symm, HW.out⟩
  have k3 : (t == 3) = false := by rw [beq_eq_false_iff_ne]; exact h3b
  have HR := Lib.hid (show nd = 0 by rw [HNM.out, if_neg h1, if_neg h2, if_neg (by omega)])
  clear HNM e1 e2 e3 e4 e5 e6 e7 e8
  go_enter Try.func63, Try.ntmps63
  go_wp2
  go_ret
  exact ⟨congrArg (fun x => Ending.returned (Value.int .i64 x)) HR.out.symm, HW.out⟩
/-- No two of the first k runs have a block in common. -/
def apTo (rs : List Rn) : Nat → Bool
  | 0 => true
  | k + 1 => apTo rs k && (rs.take k).all (apartQ (rs.getD k (0, 0)))
theorem apTo_bad {rs : List Rn} {k : Nat} (hk : k < rs.length) (h : (rs.take k).all (apartQ rs[k]) = false) : ∀ m, k < m → apTo rs m = false
  | 0, hm => by omega
  | m + 1, hm => by
    unfold apTo
    by_cases e : m = k
    · subst e
      rw [getD_lt hk, h, Bool.and_false]
    · rw [apTo_bad hk h m (by omega), Bool.false_and]
theorem apTo_next {rs : List Rn} {k : Nat} (hk : k < rs.length) (h0 : apTo rs k = true) (h2 : (rs.take k).all (apartQ rs[k]) = true) : apTo rs (k + 1) = true := by
  unfold apTo
  rw [getD_lt hk, h0, h2]
  rfl
def RnSm (rs : List Rn) : Prop := ∀ r ∈ rs, (0 ≤ r.1 ∧ r.1 ≤ 1024) ∧ (0 ≤ r.2 ∧ r.2 ≤ 1024)
set_option maxRecDepth 100000 in
set_option maxHeartbeats 8000000 in
theorem rnApart_any (rs : List Rn) (A : Option Addr) (c : Nat) (w : World) (hl : RdR w A rs) (hs : RnSm rs) (hn : rs.length ≤ 1000) :
    Calls Try.prog 95 #[.slice A rs.length c] w fun e w' => e = .returned (.bool (apTo rs rs.length)) ∧ Drawn w w' := by
  have HL := Lib.hid hl
  have HS := Lib.hid hs
  have HBAD := Lib.hid (fun k (hk : k < rs.length) h => apTo_bad (rs := rs) hk h rs.length hk)
  have HNX := Lib.hid (fun k (hk : k < rs.length) h0 h2 => apTo_next (rs := rs) hk h0 h2)
  have H0 := Lib.hid (show apTo rs 0 = true from rfl)
  clear hl hs
  generalize apTo rs = ap at *
  go_enter Try.func95, Try.ntmps95
  go_wp2
  go_loopw [3] (fun i wr => ∃ k : Nat, k ≤ rs.length ∧ i = .int .i64 k ∧ Go.RowKit.Hid (ap k = true) ∧ Drawn w wr) (fun i _ => rs.length - (intOf i).toNat)
  case atStart => exact ⟨0, Nat.zero_le _, rfl, Lib.hid H0.out, Drawn.refl _⟩
  case round =>
    obtain ⟨k, hk, rfl, hap, hd⟩ := hrel
    have HAP := Lib.hid hap.out
    have HD := Lib.hid hd
    clear hap hd
    have e1 : IntKind.i64.wrap ((k : Int) + 1) = (k : Int) + 1 := IntWalk.i64_in _ (by omega)
    by_cases hlt : k < rs.length
    · have HBADK := Lib.hid (HBAD.out k hlt)
      have HNXK := Lib.hid (HNX.out k hlt HAP.out)
      have HKM := Lib.hid (HS.out rs[k] (List.getElem_mem hlt))
      have HAT := Lib.hid (fun W (h : RdR W A rs) => show ∃ lb lo, A = some ⟨lb, lo, none⟩ ∧ (W.cell? ⟨lb, lo + k * 2, none⟩ = some (.int .i64 rs[k].1) ∧ W.cell? ⟨lb, lo + k * 2 + 1, none⟩ = some (.int .i64 rs[k].2)) by
        obtain ⟨lb, lo, e, hh⟩ := h.at_ hlt
        exact ⟨lb, lo, e, hh k hlt⟩)
      generalize hrk : rs[k] = zv at *
      clear hrk
      obtain ⟨z, v⟩ := zv
      simp only at HAT HKM
      go_wp2
      go_loopw [4] (fun j wi => ∃ m : Nat, m ≤ k ∧ j = .int .i64 m ∧ Go.RowKit.Hid ((rs.take m).all (apartQ (z, v)) = true) ∧ Drawn w wi) (fun j _ => k - (intOf j).toNat)
      case atStart => exact ⟨0, Nat.zero_le _, rfl, Lib.hid rfl, HD.out⟩
      case round =>
        obtain ⟨m, hm2, rfl, hall, hd2⟩ := hrel
        have HALL := Lib.hid hall.out
        have HDI := Lib.hid hd2
        have HDB := Lib.hid (hd2.below w.heap.size)
        clear hall hd2 HD
        have e7 : IntKind.i64.wrap ((m : Int) + 1) = (m : Int) + 1 := IntWalk.i64_in _ (by omega)
        by_cases hlm : m < k
        · have hlm2 : m < rs.length := by omega
          obtain ⟨lb, lo, rfl, hk1, hk2⟩ := HAT.out _ (HL.out.below HDB.out)
          obtain ⟨lb2, lo2, hA2, hlc⟩ := (HL.out.below HDB.out).at_ hlm2
          cases hA2
          obtain ⟨hm3, hm4⟩ := hlc m hlm2
          have hq := HS.out rs[m] (List.getElem_mem hlm2)
          have HTA := Lib.hid (apart_take (z, v) rs m hlm2)
          have HMT := Lib.hid (show rs[m] ∈ rs.take k from List.mem_take_iff_getElem.2 ⟨m, by omega, rfl⟩)
          clear hlc
          generalize hrm : rs[m] = zq at *
          clear hrm
          obtain ⟨z2, v2⟩ := zq
          have hkm := HKM.out
          simp only at hm3 hm4 hq hkm
          have e8 : IntKind.i64.wrap (z2 + v2) = z2 + v2 := IntWalk.i64_in _ (by omega)
          have e9 : IntKind.i64.wrap (z + v) = z + v := IntWalk.i64_in _ (by omega)
          have HAQ := Lib.hid (show apartQ (z, v) (z2, v2) = !(decide (z < z2 + v2) && decide (z2 < z + v)) from rfl)
          clear hq hkm
          by_cases p1 : z < z2 + v2
          · have hd1 : decide (z < z2 + v2) = true := decide_eq_true p1
            by_cases p2 : z2 < z + v
            · have hd3 : decide (z2 < z + v) = true := decide_eq_true p2
              have HR := Lib.hid (show false = ap rs.length by
                rw [HBADK.out]
                rw [List.all_eq_false]
                exact ⟨_, HMT.out, by rw [HAQ.out, hd1, hd3]; simp⟩)
              clear p1 p2 HBADK HNXK HTA HMT
              go_wp2_with fail
              go_quiet (fail)
              go_wp2
              go_ret
              exact ⟨ret_bool HR.out, HDI.out.trans (Drawn.some_ _ _)⟩
            · have hd3 : decide (z2 < z + v) = false := decide_eq_false p2
              have HA2 := Lib.hid (show (rs.take (m + 1)).all (apartQ (z, v)) = true by rw [HTA.out, HALL.out, HAQ.out, hd3]; simp)
              clear p1 p2 HTA HMT
              go_wp2_with fail
              go_quiet (fail)
              go_wp2
              go_roundw
              case rel => exact ⟨m + 1, by omega, by go_num, Lib.hid HA2.out, HDI.out.trans (Drawn.some_ _ _)⟩
              case measure => simp [intOf]; omega
          · have hd1 : decide (z < z2 + v2) = false := decide_eq_false p1
            have HA2 := Lib.hid (show (rs.take (m + 1)).all (apartQ (z, v)) = true by rw [HTA.out, HALL.out, HAQ.out, hd1]; simp)
            clear p1 HTA HMT
            go_wp2_with fail
            go_quiet (fail)
            go_wp2
            go_roundw
            case rel => exact ⟨m + 1, by omega, by go_num, Lib.hid HA2.out, HDI.out.trans (Drawn.some_ _ _)⟩
            case measure => simp [intOf]; omega
        · obtain rfl : m = k := by omega
          have HP2 := Lib.hid (show ap (m + 1) = true from HNXK.out HALL.out)
          go_wp2
          go_roundw
          case rel => exact ⟨m + 1, by omega, by go_num, Lib.hid HP2.out, HDI.out⟩
          case measure => simp [intOf]; omega
    · obtain rfl : k = rs.length := by omega
      go_wp2
      go_ret
      exact ⟨ret_bool HAP.out.symm, HD.out⟩
set_option maxRecDepth 100000 in
theorem rnLost_any (g : Geo) (hg : g.good = true) (rs : List Rn) (A : Option Addr) (c : Nat) (w : World) (hl : RdR w A rs) :
    Calls Try.prog 94 #[g.v, .slice A rs.length c] w fun e w' => e = .returned (.bool (rs == [(g.lf, g.n)])) ∧ Below w.heap.size w w' := by
  have KL := Lib.hid (fun W => refLost_any g W)
  rw [if_pos hg, if_pos hg] at KL
  have elf : g.fr + g.bn + g.n = g.lf := rfl
  rw [elf] at KL
  clear elf hg
  have HL := Lib.hid hl
  clear hl
  generalize g.lf = lf at *
  obtain ⟨gb, gn, gc, gk⟩ := g
  simp only [Geo.v] at *
  have HW := Lib.hid ((Below.refl w.heap.size w).alloc (Nat.le_refl _) (.cells #[.int .i64 gb, .int .i64 gn, .int .i64 gc, .int .i64 gk] 44))
  have HGX := Lib.hid (heap_alloc_new w (.cells #[.int .i64 gb, .int .i64 gn, .int .i64 gc, .int .i64 gk] 44))
  have HL := Lib.hid (HL.out.below HW.out)
  have HRS := Lib.hid (show ∀ b, (rs == [(lf, gn)]) = b → (rs == [(lf, gn)]) = b from fun _ h => h)
  by_cases h1 : rs.length = 1
  rotate_left
  · have HR := Lib.hid (show false = (rs == [(lf, gn)]) by symm; rw [beq_eq_false_iff_ne]; intro e; exact h1 (by rw [e]; rfl))
    have k1 : ((rs.length : Int) == 1) = false := by rw [beq_eq_false_iff_ne]; omega
    clear h1
    go_enter Try.func94, Try.ntmps94
    obtain ⟨i0, i1, i2, i3⟩ := cells4 HGX.out
    go_wp2_with fail
    refine (KL.out _).mono ?_
    rintro e w1 ⟨rfl, hb⟩
    have HW := Lib.hid (HW.out.trans (hb.mono HW.out.size))
    have HL := Lib.hid (HL.out.below hb)
    clear hb i0 i1 i2 i3
    go_wp2
    go_ret
    exact ⟨ret_bool HR.out, HW.out⟩
  have k1 : ((rs.length : Int) == 1) = true := by rw [h1]; rfl
  obtain ⟨⟨z, v⟩, rfl⟩ : ∃ x, rs = [x] := by
    match rs, h1 with
    | [x], _ => exact ⟨x, rfl⟩
  clear h1
  by_cases ez : z = lf
  rotate_left
  · have HR := Lib.hid (show false = ([(z, v)] == [(lf, gn)]) by symm; rw [beq_eq_false_iff_ne]; intro e; injection e with e _; exact ez (by injection e))
    have kz : (z == lf) = false := by rw [beq_eq_false_iff_ne]; exact ez
    clear ez
    go_enter Try.func94, Try.ntmps94
    obtain ⟨i0, i1, i2, i3⟩ := cells4 HGX.out
    go_wp2_with fail
    refine (KL.out _).mono ?_
    rintro e w1 ⟨rfl, hb⟩
    have HW := Lib.hid (HW.out.trans (hb.mono HW.out.size))
    have HL := Lib.hid (HL.out.below hb)
    clear hb i0 i1 i2 i3
    obtain ⟨lb, lo, hA, hlc⟩ := HL.out.at_ (k := 0) (by simp)
    subst hA
    obtain ⟨hk1, hk2⟩ := hlc 0 (by simp)
    simp only [List.getElem_cons_zero, Nat.zero_mul, Nat.add_zero] at hk1 hk2
    clear hlc
    go_wp2
    go_ret
    exact ⟨ret_bool HR.out, HW.out⟩
  have kz : (z == lf) = true := by rw [ez]; exact beq_self_eq_true _
  by_cases ev : v = gn
  rotate_left
  · have HR := Lib.hid (show false = ([(z, v)] == [(lf, gn)]) by symm; rw [beq_eq_false_iff_ne]; intro e; injection e with e _; exact ev (by injection e))
    have kv : (v == gn) = false := by rw [beq_eq_false_iff_ne]; exact ev
    clear ev
    go_enter Try.func94, Try.ntmps94
    obtain ⟨i0, i1, i2, i3⟩ := cells4 HGX.out
    go_wp2_with fail
    refine (KL.out _).mono ?_
    rintro e w1 ⟨rfl, hb⟩
    have HW := Lib.hid (HW.out.trans (hb.mono HW.out.size))
    have HL := Lib.hid (HL.out.below hb)
    clear hb i0 i1 i2 i3
    obtain ⟨lb, lo, hA, hlc⟩ := HL.out.at_ (k := 0) (by simp)
    subst hA
    obtain ⟨hk1, hk2⟩ := hlc 0 (by simp)
    simp only [List.getElem_cons_zero, Nat.zero_mul, Nat.add_zero] at hk1 hk2
    clear hlc
    go_wp2
    go_ret
    exact ⟨ret_bool HR.out, HW.out⟩
  have kv : (v == gn) = true := by rw [ev]; exact beq_self_eq_true _
  have HR := Lib.hid (show true = ([(z, v)] == [(lf, gn)]) by rw [ez, ev]; symm; exact beq_self_eq_true _)
  clear ez ev
  go_enter Try.func94, Try.ntmps94
  obtain ⟨i0, i1, i2, i3⟩ := cells4 HGX.out
  go_wp2_with fail
  refine (KL.out _).mono ?_
  rintro e w1 ⟨rfl, hb⟩
  have HW := Lib.hid (HW.out.trans (hb.mono HW.out.size))
  have HL := Lib.hid (HL.out.below hb)
  clear hb i0 i1 i2 i3
  obtain ⟨lb, lo, hA, hlc⟩ := HL.out.at_ (k := 0) (by simp)
  subst hA
  obtain ⟨hk1, hk2⟩ := hlc 0 (by simp)
  simp only [List.getElem_cons_zero, Nat.zero_mul, Nat.add_zero] at hk1 hk2
  clear hlc
  go_wp2
  go_ret
  exact ⟨ret_bool HR.out, HW.out⟩
set_option maxRecDepth 100000 in
theorem own8_any (g : Geo) (w : World) :
    Calls Try.prog 58 #[g.v] w fun e w' => e = .returned g.v ∧ Below w.heap.size w w' := by
  obtain ⟨b, n, c, k⟩ := g
  simp only [Geo.v]
  have HW := Lib.hid (((Below.refl w.heap.size w).alloc (Nat.le_refl _) (.cells #[.int .i64 b, .int .i64 n, .int .i64 c, .int .i64 k] 33)).alloc (by simp) (.cells #[.int .i64 b, .int .i64 n, .int .i64 c, .int .i64 k] 44))
  go_enter Try.func58, Try.ntmps58
  go_wp2
  refine bodyPost_ret (v := .agg #[.int .i64 b, .int .i64 n, .int .i64 c, .int .i64 k]) ?_ rfl ⟨rfl, HW.out⟩
  unfold results
  rw [show Try.f58.results = #[.cell 2 44] from rfl]
  go_simp
end Go.Proofs.Ytgkojedgamglgaa
