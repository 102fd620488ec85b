/- The walks of node.placed and node.Good. Condition: the runs can be read. -/
import Derived.Test.YtgkojedgamglgaaNodeW5
namespace Go.Proofs.Ytgkojedgamglgaa
open Go.RowKit
set_option linter.unusedVariables false
set_option linter.unusedSimpArgs false
theorem placed_bad {g : Geo} {rs : List Rn} {k : Nat} (hk : k < rs.length) (h : (inDt g rs[k] && (rs.take k).all (apartQ rs[k])) = false) : placedTo g rs rs.length = false := by
  cases hp : placedTo g rs rs.length with
  | false => rfl
  | true =>
    have h2 := placedTo_less (m := k + 1) (by omega) hp
    simp only [placedTo, Bool.and_eq_true] at h2
    rw [getD_lt hk] at h2
    rw [h2.2.1, h2.2.2] at h
    cases h
theorem placed_next {g : Geo} {rs : List Rn} {k : Nat} (hk : k < rs.length) (h0 : placedTo g rs k = true) (h1 : inDt g rs[k] = true) (h2 : (rs.take k).all (apartQ rs[k]) = true) : placedTo g rs (k + 1) = true := by
  simp only [placedTo]
  rw [getD_lt hk, h0, h1, h2]
  rfl
theorem apart_take (r : Rn) (ws : List Rn) (k : Nat) (h : k < ws.length) : (ws.take (k + 1)).all (apartQ r) = ((ws.take k).all (apartQ r) && apartQ r ws[k]) := by
  rw [List.take_succ_eq_append_getElem h, List.all_append]; simp
set_option maxRecDepth 100000 in
set_option maxHeartbeats 8000000 in
theorem nplaced_any (g : Geo) (hg : g.good = true) (n : NodeN) (A : Option Addr) (rs : List Rn) (c : Nat) (w : World) (hl : RdR w A rs) (hf : RnFit rs) (hn : rs.length ≤ 1000) (hc : rs.length ≤ c) (hm : c ≤ maxLen) :
    Calls Try.prog 90 #[g.v, nodeV n A rs c] w fun e w' => e = .returned (.bool (placedB g n rs)) ∧ Below w.heap.size w w' := by
  unfold maxLen at hm
  have HL := Lib.hid hl
  have HF := Lib.hid hf
  clear hl hf
  obtain ⟨j1, j2, j3, j4, j5, j6, j7, j8, j9, j10⟩ := geo_nums hg
  have KL := Lib.hid (fun W => gLost_any g hg W)
  have KD := Lib.hid (fun W => gData_any g W)
  rw [if_pos hg, if_pos hg] at KD
  have HBAD := Lib.hid (fun k hk h => placed_bad (g := g) (rs := rs) (k := k) hk h)
  have HNX := Lib.hid (fun k hk h0 h1 h2 => placed_next (g := g) (rs := rs) (k := k) hk h0 h1 h2)
  have HMEM := Lib.hid (fun k h j hj hl => (inDt_iff g _).1 (placedTo_mem (g := g) (rs := rs) (k := k) h j hj hl))
  have HIN := Lib.hid (fun r => inDt_iff g r)
  have HPB := Lib.hid (show placedB g n rs = (isLost g n rs || placedTo g rs rs.length) from rfl)
  have HPZ := Lib.hid (show placedTo g rs 0 = true from rfl)
  have HIL := Lib.hid (show isLost g n rs = (decide (n.t = 2) && (rs == [(g.lf, g.n)])) from rfl)
  generalize placedB g n rs = pb at *
  generalize isLost g n rs = il at *
  generalize placedTo g rs = pt at *
  generalize inDt g = ind_ at *
  generalize g.df = df at *
  generalize g.dn = dn at *
  generalize g.lf = lf at *
  clear hg
  obtain ⟨gb, gn, gc, gk⟩ := g
  obtain ⟨t, l, s⟩ := n
  unfold nodeV
  simp only [Geo.v] at *
  clear j10
  have HX := Lib.hid ((Below.refl w.heap.size w).alloc (Nat.le_refl _) (.cells #[.int .i64 gb, .int .i64 gn, .int .i64 gc, .int .i64 gk] 33))
  have HW := Lib.hid (HX.out.alloc HX.out.size (.cells #[.int .i64 t, .int .i64 l, .int .i64 s, .slice A rs.length c] 84))
  have HGX := Lib.hid (heap_below (heap_alloc_new w (.cells #[.int .i64 gb, .int .i64 gn, .int .i64 gc, .int .i64 gk] 33)) ((Below.refl _ _).alloc (Nat.le_refl _) (.cells #[.int .i64 t, .int .i64 l, .int .i64 s, .slice A rs.length c] 84)))
  have HBX := Lib.hid (show ((w.alloc (.cells #[.int .i64 gb, .int .i64 gn, .int .i64 gc, .int .i64 gk] 33)).alloc (.cells #[.int .i64 t, .int .i64 l, .int .i64 s, .slice A rs.length c] 84)).heap[w.heap.size + 1]? = some (.cells #[.int .i64 t, .int .i64 l, .int .i64 s, .slice A rs.length c] 84 (0, 0)) by have h := heap_alloc_new (w.alloc (.cells #[.int .i64 gb, .int .i64 gn, .int .i64 gc, .int .i64 gk] 33)) (.cells #[.int .i64 t, .int .i64 l, .int .i64 s, .slice A rs.length c] 84); simpa using h)
  by_cases ht : t = 2
  · have k2 : (t == 2) = true := by rw [ht]; rfl
    have HIL2 := Lib.hid (show il = (rs == [(lf, gn)]) by rw [HIL.out, decide_eq_true ht]; rfl)
    clear ht
    go_enter Try.func90, Try.ntmps90
    go_wp2_with fail
    refine (KL.out _).mono ?_
    rintro e w1 ⟨rfl, hb⟩
    have HW := Lib.hid (HW.out.trans (hb.mono HW.out.size))
    have HGX := Lib.hid (heap_below HGX.out hb)
    have HBX := Lib.hid (heap_below HBX.out hb)
    clear hb
    obtain ⟨i0, i1, i2, i3⟩ := cells4 HGX.out
    obtain ⟨c0, c1, c2, c3⟩ := cells4 HBX.out
    clear i0 i1 i2 i3 c0 c1 c2 c3
    have HRX := Lib.hid (RdR.new1 w1 lf gn 81)
    obtain ⟨c0, c1, c2, c3⟩ := cells4 HBX.out
    have hba : Below w1.heap.size w1 (w1.alloc (.cells #[.int .i64 lf, .int .i64 gn] 81)) := (Below.refl _ _).alloc (Nat.le_refl _) _
    have HW := Lib.hid (HW.out.trans (hba.mono HW.out.size))
    have HGX := Lib.hid (heap_below HGX.out hba)
    have HBX := Lib.hid (heap_below HBX.out hba)
    clear hba
    have KE := Lib.hid (EqualR_any rs [(lf, gn)] A _ c 1 _ (HL.out.below HW.out) HRX.out hn)
    rw [← HIL2.out] at KE
    go_wp2_with fail
    refine KE.out.mono ?_
    rintro e w3 ⟨rfl, hd⟩
    have hb := hd.below (w1.alloc (.cells #[.int .i64 lf, .int .i64 gn] 81)).heap.size
    have HW := Lib.hid (HW.out.trans (hb.mono HW.out.size))
    have HGX := Lib.hid (heap_below HGX.out hb)
    have HBX := Lib.hid (heap_below HBX.out hb)
    clear hb
    clear hd KE HIL2 c0 c1 c2 c3
    obtain ⟨i0, i1, i2, i3⟩ := cells4 HGX.out
    cases il with
    | true =>
      have HR := Lib.hid (show true = pb by rw [HPB.out]; rfl)
      go_wp2
      go_ret
      exact ⟨ret_bool HR.out, HW.out⟩
    | false =>
      have HPB2 := Lib.hid (show pb = pt rs.length by rw [HPB.out]; rfl)
      go_wp2_with fail
      refine (KD.out _).mono ?_
      rintro e w4 ⟨rfl, hb⟩
      clear i0 i1 i2 i3 HRX
      have HW := Lib.hid (HW.out.trans (hb.mono HW.out.size))
      have HBX := Lib.hid (heap_below HBX.out hb)
      obtain ⟨c0, c1, c2, c3⟩ := cells4 HBX.out
      clear hb
      go_wp2
      clear HGX KL KD HX c0 c1 c2 c3
      go_loopw [38] (fun i wr => ∃ k : Nat, k ≤ rs.length ∧ i = .int .i64 k ∧ Go.RowKit.Hid (pt k = true) ∧ wr.heap[w.heap.size + 1]? = some (.cells #[.int .i64 t, .int .i64 l, .int .i64 s, .slice A rs.length c] 84 (0, 0)) ∧ Below w.heap.size w wr) (fun i _ => rs.length - (intOf i).toNat)
      case atStart => exact ⟨0, by omega, rfl, Lib.hid HPZ.out, HBX.out, HW.out⟩
      case round =>
        obtain ⟨k, hk, rfl, hpt, hbx, hbw⟩ := hrel
        have HPT := Lib.hid hpt.out
        have HBX := Lib.hid hbx
        have HB := Lib.hid hbw
        clear hpt hbx hbw
        by_cases hlt : k < rs.length
        · obtain ⟨lb, lo, rfl, hlc⟩ := (HL.out.below HB.out).at_ hlt
          obtain ⟨hk1, hk2⟩ := hlc k hlt
          have HBADK := Lib.hid (HBAD.out k hlt)
          have HNXK := Lib.hid (HNX.out k hlt HPT.out)
          have HMEMK := Lib.hid (HMEM.out k HPT.out)
          obtain ⟨⟨u1, u2⟩, u3, u4⟩ := HF.out rs[k] (List.getElem_mem hlt)
          clear hlc
          generalize hrk : rs[k] = zv at *
          clear hrk
          obtain ⟨z, v⟩ := zv
          simp only at hk1 hk2 u1 u2 u3 u4
          have HINZ := Lib.hid (HIN.out (z, v))
          have e1 : IntKind.i64.wrap ((k : Int) + 1) = (k : Int) + 1 := IntWalk.i64_in _ (by omega)
          by_cases q1 : v < 1
          · skip
            have HR := Lib.hid (show false = pb by
              rw [HPB2.out, HBADK.out]
              have h9 : ind_ (z, v) = false := by rw [Bool.eq_false_iff]; intro h; have := HINZ.out.1 h; omega
              rw [h9]; rfl)
            clear u1 u2 u3 u4
            go_wp2
            go_ret
            exact ⟨ret_bool HR.out, HB.out.alloc HB.out.size _⟩
          by_cases q2 : z < df
          · skip
            have HR := Lib.hid (show false = pb by
              rw [HPB2.out, HBADK.out]
              have h9 : ind_ (z, v) = false := by rw [Bool.eq_false_iff]; intro h; have := HINZ.out.1 h; omega
              rw [h9]; rfl)
            clear u1 u2 u3 u4
            go_wp2
            go_ret
            exact ⟨ret_bool HR.out, HB.out.alloc HB.out.size _⟩
          have e2 : IntKind.i64.wrap (z - df) = z - df := IntWalk.i64_in _ (by omega)
          by_cases q3 : dn ≤ z - df
          · skip
            have HR := Lib.hid (show false = pb by
              rw [HPB2.out, HBADK.out]
              have h9 : ind_ (z, v) = false := by rw [Bool.eq_false_iff]; intro h; have := HINZ.out.1 h; omega
              rw [h9]; rfl)
            clear u1 u2 u3 u4
            go_wp2
            go_ret
            exact ⟨ret_bool HR.out, HB.out.alloc HB.out.size _⟩
          have e3 : IntKind.i64.wrap (dn - (z - df)) = dn - (z - df) := IntWalk.i64_in _ (by omega)
          by_cases q4 : dn - (z - df) < v
          · skip
            have HR := Lib.hid (show false = pb by
              rw [HPB2.out, HBADK.out]
              have h9 : ind_ (z, v) = false := by rw [Bool.eq_false_iff]; intro h; have := HINZ.out.1 h; omega
              rw [h9]; rfl)
            clear u1 u2 u3 u4
            go_wp2
            go_ret
            exact ⟨ret_bool HR.out, HB.out.alloc HB.out.size _⟩
          have HI := Lib.hid (show ind_ (z, v) = true from HINZ.out.2 (by omega))
          have e4 : IntKind.i64.wrap (z + v) = z + v := IntWalk.i64_in _ (by omega)
          have e5 : (k : Int) ≤ (c : Int) := by omega
          have e6 : 0 ≤ (k : Int) := by omega
          have HX1 := Lib.hid (heap_alloc_new wr (.cells #[.int .i64 z, .int .i64 v] 81))
          have HB1 := Lib.hid (HB.out.alloc HB.out.size (.cells #[.int .i64 z, .int .i64 v] 81))
          have HBX1 := Lib.hid (heap_below HBX.out ((Below.refl _ _).alloc (Nat.le_refl _) (.cells #[.int .i64 z, .int .i64 v] 81)))
          obtain ⟨b0, b1, b2, b3⟩ := cells4 HBX1.out
          clear u1 u2 u3 u4
          go_wp2
          clear b0 b1 b2 b3 hk1 hk2
          generalize wr.alloc (.cells #[.int .i64 z, .int .i64 v] 81) = wy at *
          generalize wr.heap.size = pq at *
          go_loopw [76] (fun j wi => ∃ m : Nat, m ≤ k ∧ j = .int .i64 m ∧ Go.RowKit.Hid ((rs.take m).all (apartQ (z, v)) = true) ∧ wi.heap[pq]? = some (.cells #[.int .i64 z, .int .i64 v] 81 (0, 0)) ∧ wi.heap[w.heap.size + 1]? = some (.cells #[.int .i64 t, .int .i64 l, .int .i64 s, .slice (some ⟨lb, lo, none⟩) rs.length c] 84 (0, 0)) ∧ Below w.heap.size w wi) (fun j _ => k - (intOf j).toNat)
          case atStart => exact ⟨0, by omega, rfl, Lib.hid rfl, HX1.out, HBX1.out, HB1.out⟩
          case round =>
            obtain ⟨m, hm2, rfl, hall, hx1, hbx1, hbw⟩ := hrel
            have HALL := Lib.hid hall.out
            have HXI := Lib.hid hx1
            have HBXI := Lib.hid hbx1
            have HBI := Lib.hid hbw
            clear hall hx1 hbx1 hbw HX1 HBX1 HB1 HBX HB
            obtain ⟨a0, a1⟩ := cells2 HXI.out
            have e7 : IntKind.i64.wrap ((m : Int) + 1) = (m : Int) + 1 := IntWalk.i64_in _ (by omega)
            by_cases hlm : m < k
            · have hlm2 : m < rs.length := by omega
              obtain ⟨lb2, lo2, hA2, hlc⟩ := (HL.out.below HBI.out).at_ hlm2
              cases hA2
              obtain ⟨hm3, hm4⟩ := hlc m hlm2
              have hq := HMEMK.out m hlm hlm2
              have HTA := Lib.hid (apart_take (z, v) rs m hlm2)
              have HMT := Lib.hid (show rs[m] ∈ rs.take k from List.mem_take_iff_getElem.2 ⟨m, by omega, rfl⟩)
              clear hlc
              generalize hrm : rs[m] = zq at *
              clear hrm
              obtain ⟨z2, v2⟩ := zq
              simp only at hm3 hm4 hq
              have e8 : IntKind.i64.wrap (z2 + v2) = z2 + v2 := IntWalk.i64_in _ (by omega)
              have HAQ := Lib.hid (show apartQ (z, v) (z2, v2) = !(decide (z < z2 + v2) && decide (z2 < z + v)) from rfl)
              clear hq
              have hba : Below wr.heap.size wr (wr.alloc (.cells #[.int .i64 z2, .int .i64 v2] 81)) := (Below.refl _ _).alloc (Nat.le_refl _) _
              have HXJ := Lib.hid (heap_below HXI.out hba)
              have HBXJ := Lib.hid (heap_below HBXI.out hba)
              have HBJ := Lib.hid (HBI.out.trans (hba.mono HBI.out.size))
              clear hba
              obtain ⟨d0, d1⟩ := cells2 HXJ.out
              by_cases p1 : z < z2 + v2
              · by_cases p2 : z2 < z + v
                · have HR := Lib.hid (show false = pb by
                    rw [HPB2.out, HBADK.out]
                    have h9 : (rs.take k).all (apartQ (z, v)) = false := by
                      rw [List.all_eq_false]
                      exact ⟨_, HMT.out, by rw [HAQ.out, decide_eq_true p1, decide_eq_true p2]; simp⟩
                    rw [h9, Bool.and_false])
                  go_wp2
                  go_ret
                  exact ⟨ret_bool HR.out, HBI.out.alloc HBI.out.size _⟩
                · have HA2 := Lib.hid (show (rs.take (m + 1)).all (apartQ (z, v)) = true by rw [HTA.out, HALL.out, HAQ.out, decide_eq_false p2]; simp)
                  go_wp2
                  go_roundw
                  case rel => exact ⟨m + 1, by omega, by go_num, Lib.hid HA2.out, HXJ.out, HBXJ.out, HBJ.out⟩
                  case measure => simp [intOf]; omega
              · have HA2 := Lib.hid (show (rs.take (m + 1)).all (apartQ (z, v)) = true by rw [HTA.out, HALL.out, HAQ.out, decide_eq_false p1]; simp)
                go_wp2
                go_roundw
                case rel => exact ⟨m + 1, by omega, by go_num, Lib.hid HA2.out, HXJ.out, HBXJ.out, HBJ.out⟩
                case measure => simp [intOf]; omega
            · obtain rfl : m = k := by omega
              have HP2 := Lib.hid (show pt (m + 1) = true from HNXK.out HI.out HALL.out)
              go_wp2
              go_roundw
              case rel => exact ⟨m + 1, by omega, by go_num, Lib.hid HP2.out, HBXI.out, HBI.out⟩
              case measure => simp [intOf]; omega
        · obtain rfl : k = rs.length := by omega
          have HR := Lib.hid (show true = pb by rw [HPB2.out, HPT.out])
          go_wp2
          go_ret
          exact ⟨ret_bool HR.out, HB.out⟩
  have k2 : (t == 2) = false := by rw [beq_eq_false_iff_ne]; exact ht
  have HPB2 := Lib.hid (show pb = pt rs.length by rw [HPB.out, HIL.out, decide_eq_false ht]; rfl)
  clear ht
  go_enter Try.func90, Try.ntmps90
  go_wp2_with fail
  refine (KL.out _).mono ?_
  rintro e w1 ⟨rfl, hb⟩
  have HW := Lib.hid (HW.out.trans (hb.mono HW.out.size))
  have HGX := Lib.hid (heap_below HGX.out hb)
  have HBX := Lib.hid (heap_below HBX.out hb)
  clear hb
  obtain ⟨i0, i1, i2, i3⟩ := cells4 HGX.out
  obtain ⟨c0, c1, c2, c3⟩ := cells4 HBX.out
  go_wp2_with fail
  refine (KD.out _).mono ?_
  rintro e w4 ⟨rfl, hb⟩
  clear i0 i1 i2 i3 c0 c1 c2 c3
  have HW := Lib.hid (HW.out.trans (hb.mono HW.out.size))
  have HBX := Lib.hid (heap_below HBX.out hb)
  obtain ⟨c0, c1, c2, c3⟩ := cells4 HBX.out
  clear hb
  go_wp2
  clear HGX KL KD HX c0 c1 c2 c3
  go_loopw [38] (fun i wr => ∃ k : Nat, k ≤ rs.length ∧ i = .int .i64 k ∧ Go.RowKit.Hid (pt k = true) ∧ wr.heap[w.heap.size + 1]? = some (.cells #[.int .i64 t, .int .i64 l, .int .i64 s, .slice A rs.length c] 84 (0, 0)) ∧ Below w.heap.size w wr) (fun i _ => rs.length - (intOf i).toNat)
  case atStart => exact ⟨0, by omega, rfl, Lib.hid HPZ.out, HBX.out, HW.out⟩
  case round =>
    obtain ⟨k, hk, rfl, hpt, hbx, hbw⟩ := hrel
    have HPT := Lib.hid hpt.out
    have HBX := Lib.hid hbx
    have HB := Lib.hid hbw
    clear hpt hbx hbw
    by_cases hlt : k < rs.length
    · obtain ⟨lb, lo, rfl, hlc⟩ := (HL.out.below HB.out).at_ hlt
      obtain ⟨hk1, hk2⟩ := hlc k hlt
      have HBADK := Lib.hid (HBAD.out k hlt)
      have HNXK := Lib.hid (HNX.out k hlt HPT.out)
      have HMEMK := Lib.hid (HMEM.out k HPT.out)
      obtain ⟨⟨u1, u2⟩, u3, u4⟩ := HF.out rs[k] (List.getElem_mem hlt)
      clear hlc
      generalize hrk : rs[k] = zv at *
      clear hrk
      obtain ⟨z, v⟩ := zv
      simp only at hk1 hk2 u1 u2 u3 u4
      have HINZ := Lib.hid (HIN.out (z, v))
      have e1 : IntKind.i64.wrap ((k : Int) + 1) = (k : Int) + 1 := IntWalk.i64_in _ (by omega)
      by_cases q1 : v < 1
      · skip
        have HR := Lib.hid (show false = pb by
          rw [HPB2.out, HBADK.out]
          have h9 : ind_ (z, v) = false := by rw [Bool.eq_false_iff]; intro h; have := HINZ.out.1 h; omega
          rw [h9]; rfl)
        clear u1 u2 u3 u4
        go_wp2
        go_ret
        exact ⟨ret_bool HR.out, HB.out.alloc HB.out.size _⟩
      by_cases q2 : z < df
      · skip
        have HR := Lib.hid (show false = pb by
          rw [HPB2.out, HBADK.out]
          have h9 : ind_ (z, v) = false := by rw [Bool.eq_false_iff]; intro h; have := HINZ.out.1 h; omega
          rw [h9]; rfl)
        clear u1 u2 u3 u4
        go_wp2
        go_ret
        exact ⟨ret_bool HR.out, HB.out.alloc HB.out.size _⟩
      have e2 : IntKind.i64.wrap (z - df) = z - df := IntWalk.i64_in _ (by omega)
      by_cases q3 : dn ≤ z - df
      · skip
        have HR := Lib.hid (show false = pb by
          rw [HPB2.out, HBADK.out]
          have h9 : ind_ (z, v) = false := by rw [Bool.eq_false_iff]; intro h; have := HINZ.out.1 h; omega
          rw [h9]; rfl)
        clear u1 u2 u3 u4
        go_wp2
        go_ret
        exact ⟨ret_bool HR.out, HB.out.alloc HB.out.size _⟩
      have e3 : IntKind.i64.wrap (dn - (z - df)) = dn - (z - df) := IntWalk.i64_in _ (by omega)
      by_cases q4 : dn - (z - df) < v
      · skip
        have HR := Lib.hid (show false = pb by
          rw [HPB2.out, HBADK.out]
          have h9 : ind_ (z, v) = false := by rw [Bool.eq_false_iff]; intro h; have := HINZ.out.1 h; omega
          rw [h9]; rfl)
        clear u1 u2 u3 u4
        go_wp2
        go_ret
        exact ⟨ret_bool HR.out, HB.out.alloc HB.out.size _⟩
      have HI := Lib.hid (show ind_ (z, v) = true from HINZ.out.2 (by omega))
      have e4 : IntKind.i64.wrap (z + v) = z + v := IntWalk.i64_in _ (by omega)
      have e5 : (k : Int) ≤ (c : Int) := by omega
      have e6 : 0 ≤ (k : Int) := by omega
      have HX1 := Lib.hid (heap_alloc_new wr (.cells #[.int .i64 z, .int .i64 v] 81))
      have HB1 := Lib.hid (HB.out.alloc HB.out.size (.cells #[.int .i64 z, .int .i64 v] 81))
      have HBX1 := Lib.hid (heap_below HBX.out ((Below.refl _ _).alloc (Nat.le_refl _) (.cells #[.int .i64 z, .int .i64 v] 81)))
      obtain ⟨b0, b1, b2, b3⟩ := cells4 HBX1.out
      clear u1 u2 u3 u4
      go_wp2
      clear b0 b1 b2 b3 hk1 hk2
      generalize wr.alloc (.cells #[.int .i64 z, .int .i64 v] 81) = wy at *
      generalize wr.heap.size = pq at *
      go_loopw [76] (fun j wi => ∃ m : Nat, m ≤ k ∧ j = .int .i64 m ∧ Go.RowKit.Hid ((rs.take m).all (apartQ (z, v)) = true) ∧ wi.heap[pq]? = some (.cells #[.int .i64 z, .int .i64 v] 81 (0, 0)) ∧ wi.heap[w.heap.size + 1]? = some (.cells #[.int .i64 t, .int .i64 l, .int .i64 s, .slice (some ⟨lb, lo, none⟩) rs.length c] 84 (0, 0)) ∧ Below w.heap.size w wi) (fun j _ => k - (intOf j).toNat)
      case atStart => exact ⟨0, by omega, rfl, Lib.hid rfl, HX1.out, HBX1.out, HB1.out⟩
      case round =>
        obtain ⟨m, hm2, rfl, hall, hx1, hbx1, hbw⟩ := hrel
        have HALL := Lib.hid hall.out
        have HXI := Lib.hid hx1
        have HBXI := Lib.hid hbx1
        have HBI := Lib.hid hbw
        clear hall hx1 hbx1 hbw HX1 HBX1 HB1 HBX HB
        obtain ⟨a0, a1⟩ := cells2 HXI.out
        have e7 : IntKind.i64.wrap ((m : Int) + 1) = (m : Int) + 1 := IntWalk.i64_in _ (by omega)
        by_cases hlm : m < k
        · have hlm2 : m < rs.length := by omega
          obtain ⟨lb2, lo2, hA2, hlc⟩ := (HL.out.below HBI.out).at_ hlm2
          cases hA2
          obtain ⟨hm3, hm4⟩ := hlc m hlm2
          have hq := HMEMK.out m hlm hlm2
          have HTA := Lib.hid (apart_take (z, v) rs m hlm2)
          have HMT := Lib.hid (show rs[m] ∈ rs.take k from List.mem_take_iff_getElem.2 ⟨m, by omega, rfl⟩)
          clear hlc
          generalize hrm : rs[m] = zq at *
          clear hrm
          obtain ⟨z2, v2⟩ := zq
          simp only at hm3 hm4 hq
          have e8 : IntKind.i64.wrap (z2 + v2) = z2 + v2 := IntWalk.i64_in _ (by omega)
          have HAQ := Lib.hid (show apartQ (z, v) (z2, v2) = !(decide (z < z2 + v2) && decide (z2 < z + v)) from rfl)
          clear hq
          have hba : Below wr.heap.size wr (wr.alloc (.cells #[.int .i64 z2, .int .i64 v2] 81)) := (Below.refl _ _).alloc (Nat.le_refl _) _
          have HXJ := Lib.hid (heap_below HXI.out hba)
          have HBXJ := Lib.hid (heap_below HBXI.out hba)
          have HBJ := Lib.hid (HBI.out.trans (hba.mono HBI.out.size))
          clear hba
          obtain ⟨d0, d1⟩ := cells2 HXJ.out
          by_cases p1 : z < z2 + v2
          · by_cases p2 : z2 < z + v
            · have HR := Lib.hid (show false = pb by
                rw [HPB2.out, HBADK.out]
                have h9 : (rs.take k).all (apartQ (z, v)) = false := by
                  rw [List.all_eq_false]
                  exact ⟨_, HMT.out, by rw [HAQ.out, decide_eq_true p1, decide_eq_true p2]; simp⟩
                rw [h9, Bool.and_false])
              go_wp2
              go_ret
              exact ⟨ret_bool HR.out, HBI.out.alloc HBI.out.size _⟩
            · have HA2 := Lib.hid (show (rs.take (m + 1)).all (apartQ (z, v)) = true by rw [HTA.out, HALL.out, HAQ.out, decide_eq_false p2]; simp)
              go_wp2
              go_roundw
              case rel => exact ⟨m + 1, by omega, by go_num, Lib.hid HA2.out, HXJ.out, HBXJ.out, HBJ.out⟩
              case measure => simp [intOf]; omega
          · have HA2 := Lib.hid (show (rs.take (m + 1)).all (apartQ (z, v)) = true by rw [HTA.out, HALL.out, HAQ.out, decide_eq_false p1]; simp)
            go_wp2
            go_roundw
            case rel => exact ⟨m + 1, by omega, by go_num, Lib.hid HA2.out, HXJ.out, HBXJ.out, HBJ.out⟩
            case measure => simp [intOf]; omega
        · obtain rfl : m = k := by omega
          have HP2 := Lib.hid (show pt (m + 1) = true from HNXK.out HI.out HALL.out)
          go_wp2
          go_roundw
          case rel => exact ⟨m + 1, by omega, by go_num, Lib.hid HP2.out, HBXI.out, HBI.out⟩
          case measure => simp [intOf]; omega
    · obtain rfl : k = rs.length := by omega
      have HR := Lib.hid (show true = pb by rw [HPB2.out, HPT.out])
      go_wp2
      go_ret
      exact ⟨ret_bool HR.out, HB.out⟩
end Go.Proofs.Ytgkojedgamglgaa
