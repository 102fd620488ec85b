/- The walk of the reference's PutNode. Condition: the runs can be read. -/
import Derived.Test.YtgkojedgamglgaaNodePlain5
import Derived.Test.YtgkojedgamglgaaSealRefWalks
namespace Go.Proofs.Ytgkojedgamglgaa
open Go.RowKit
set_option linter.unusedVariables false
set_option linter.unusedSimpArgs false
theorem badR_iff (r : Rn) : badR r = true ↔ r.1 < 0 ∨ 2147483648 < r.1 ∨ r.2 < 1 ∨ 2147483648 < r.2 := by
  unfold badR inB
  simp
  omega
theorem fits_nums {n : NodeN} {rs : List Rn} (h : fitsB n rs = true) : (0 ≤ n.t ∧ n.t ≤ 3) ∧ (0 ≤ n.l ∧ n.l ≤ 16777215) ∧ (0 ≤ n.s ∧ n.s ≤ 1099511627776) ∧ rs.length ≤ 4 := by
  by_cases ht : n.t = 0
  · obtain ⟨rfl, rfl⟩ := free_of_fits h ht
    simp
  · obtain ⟨h1, h2, h3, h4, _⟩ := fits_parts h ht
    omega
theorem fits_form {n : NodeN} {rs : List Rn} (ht : n.t ≠ 0) (h1 : 0 ≤ n.t ∧ n.t ≤ 3) (h2 : 0 ≤ n.l ∧ n.l ≤ 16777215) (h3 : 0 ≤ n.s ∧ n.s ≤ 1099511627776) (h4 : rs.length ≤ 4) : fitsB n rs = !(rs.any badR) := by
  unfold fitsB inB
  rw [if_neg ht]
  have e1 : decide (1 ≤ n.t) = true := decide_eq_true (by omega)
  simp [e1, h1, h2, h3, h4]
theorem nodeW_none {n : NodeN} {rs : List Rn} (h : ¬ fitsB n rs = true) : nodeW n rs = [] := by unfold nodeW; rw [if_neg h]
theorem nodeK_set7 (n : NodeN) (rs : List Rn) (k : Nat) (hk : k < rs.length) (h4 : rs.length ≤ 4) : (nodeK n rs k).set (2 + k) (runW rs[k]) = nodeK n rs (k + 1) := by
  have h := nodeK_set n rs k hk h4
  have hl := nodeK_len n rs k (by omega) h4
  rw [List.set_append_left _ _ (by rw [hl]; omega)] at h
  exact List.append_inj_left' h rfl
set_option maxRecDepth 100000 in
set_option maxHeartbeats 8000000 in
theorem rnPut_any (n : NodeN) (A : Option Addr) (rs : List Rn) (c : Nat) (w : World) (hl : RdR w A rs) :
    Calls Try.prog 60 #[nodeV n A rs c] w fun e w' => (∃ B d, e = .returned (.slice B (nodeW n rs).length d) ∧ OwnU w' w.heap.size B (nodeW n rs) d) ∧ Below w.heap.size w w' := by
  have KZ := Lib.hid (fun W => rnZero_any n A rs c W)
  have HL := Lib.hid hl
  clear hl
  have HNO := Lib.hid (fun (h : ¬ fitsB n rs = true) => nodeW_none h)
  have HNU := Lib.hid (fun (h : fitsB n rs = true) => fits_nums h)
  have hmk := fun (W : World) => show (Instr.makeSlice 28 (.int .i64 8) (.int .i64 8)).run Try.prog W = .ok (.slice (some ⟨W.heap.size, 0, none⟩) 8 8) (W.alloc (.cells (Array.replicate 8 (U 0#64)) 22)) from make_U 8 (by omega) W
  obtain ⟨t, l, s⟩ := n
  by_cases p0 : t < 0
  · have HN := Lib.hid (HNO.out (fun h => by have := HNU.out h; simp only at this; omega))
    clear HNO HNU KZ hmk
    generalize nodeW ⟨t, l, s⟩ rs = nw at *
    unfold nodeV at *
    simp only at *
    have HW := Lib.hid ((Below.refl w.heap.size w).alloc (Nat.le_refl _) (.cells #[.int .i64 t, .int .i64 l, .int .i64 s, .slice A rs.length c] 93))
    have HBX := Lib.hid (heap_alloc_new w (.cells #[.int .i64 t, .int .i64 l, .int .i64 s, .slice A rs.length c] 93))
    obtain ⟨c0, c1, c2, c3⟩ := cells4 HBX.out
    go_enter Try.func60, Try.ntmps60
    go_wp2
    go_ret
    exact ⟨⟨none, 0, by rw [HN.out]; rfl, by rw [HN.out]; exact OwnU.nil_ _ _⟩, HW.out⟩
  by_cases p1 : 3 < t
  · have HN := Lib.hid (HNO.out (fun h => by have := HNU.out h; simp only at this; omega))
    clear HNO HNU KZ hmk
    generalize nodeW ⟨t, l, s⟩ rs = nw at *
    unfold nodeV at *
    simp only at *
    have HW := Lib.hid ((Below.refl w.heap.size w).alloc (Nat.le_refl _) (.cells #[.int .i64 t, .int .i64 l, .int .i64 s, .slice A rs.length c] 93))
    have HBX := Lib.hid (heap_alloc_new w (.cells #[.int .i64 t, .int .i64 l, .int .i64 s, .slice A rs.length c] 93))
    obtain ⟨c0, c1, c2, c3⟩ := cells4 HBX.out
    go_enter Try.func60, Try.ntmps60
    go_wp2
    go_ret
    exact ⟨⟨none, 0, by rw [HN.out]; rfl, by rw [HN.out]; exact OwnU.nil_ _ _⟩, HW.out⟩
  by_cases p2 : l < 0
  · have HN := Lib.hid (HNO.out (fun h => by have := HNU.out h; simp only at this; omega))
    clear HNO HNU KZ hmk
    generalize nodeW ⟨t, l, s⟩ rs = nw at *
    unfold nodeV at *
    simp only at *
    have HW := Lib.hid ((Below.refl w.heap.size w).alloc (Nat.le_refl _) (.cells #[.int .i64 t, .int .i64 l, .int .i64 s, .slice A rs.length c] 93))
    have HBX := Lib.hid (heap_alloc_new w (.cells #[.int .i64 t, .int .i64 l, .int .i64 s, .slice A rs.length c] 93))
    obtain ⟨c0, c1, c2, c3⟩ := cells4 HBX.out
    go_enter Try.func60, Try.ntmps60
    go_wp2
    go_ret
    exact ⟨⟨none, 0, by rw [HN.out]; rfl, by rw [HN.out]; exact OwnU.nil_ _ _⟩, HW.out⟩
  by_cases p3 : 16777216 ≤ l
  · have HN := Lib.hid (HNO.out (fun h => by have := HNU.out h; simp only at this; omega))
    clear HNO HNU KZ hmk
    generalize nodeW ⟨t, l, s⟩ rs = nw at *
    unfold nodeV at *
    simp only at *
    have HW := Lib.hid ((Below.refl w.heap.size w).alloc (Nat.le_refl _) (.cells #[.int .i64 t, .int .i64 l, .int .i64 s, .slice A rs.length c] 93))
    have HBX := Lib.hid (heap_alloc_new w (.cells #[.int .i64 t, .int .i64 l, .int .i64 s, .slice A rs.length c] 93))
    obtain ⟨c0, c1, c2, c3⟩ := cells4 HBX.out
    go_enter Try.func60, Try.ntmps60
    go_wp2
    go_ret
    exact ⟨⟨none, 0, by rw [HN.out]; rfl, by rw [HN.out]; exact OwnU.nil_ _ _⟩, HW.out⟩
  by_cases p4 : s < 0
  · have HN := Lib.hid (HNO.out (fun h => by have := HNU.out h; simp only at this; omega))
    clear HNO HNU KZ hmk
    generalize nodeW ⟨t, l, s⟩ rs = nw at *
    unfold nodeV at *
    simp only at *
    have HW := Lib.hid ((Below.refl w.heap.size w).alloc (Nat.le_refl _) (.cells #[.int .i64 t, .int .i64 l, .int .i64 s, .slice A rs.length c] 93))
    have HBX := Lib.hid (heap_alloc_new w (.cells #[.int .i64 t, .int .i64 l, .int .i64 s, .slice A rs.length c] 93))
    obtain ⟨c0, c1, c2, c3⟩ := cells4 HBX.out
    go_enter Try.func60, Try.ntmps60
    go_wp2
    go_ret
    exact ⟨⟨none, 0, by rw [HN.out]; rfl, by rw [HN.out]; exact OwnU.nil_ _ _⟩, HW.out⟩
  by_cases p5 : 1099511627776 < s
  · have HN := Lib.hid (HNO.out (fun h => by have := HNU.out h; simp only at this; omega))
    clear HNO HNU KZ hmk
    generalize nodeW ⟨t, l, s⟩ rs = nw at *
    unfold nodeV at *
    simp only at *
    have HW := Lib.hid ((Below.refl w.heap.size w).alloc (Nat.le_refl _) (.cells #[.int .i64 t, .int .i64 l, .int .i64 s, .slice A rs.length c] 93))
    have HBX := Lib.hid (heap_alloc_new w (.cells #[.int .i64 t, .int .i64 l, .int .i64 s, .slice A rs.length c] 93))
    obtain ⟨c0, c1, c2, c3⟩ := cells4 HBX.out
    go_enter Try.func60, Try.ntmps60
    go_wp2
    go_ret
    exact ⟨⟨none, 0, by rw [HN.out]; rfl, by rw [HN.out]; exact OwnU.nil_ _ _⟩, HW.out⟩
  by_cases p6 : 4 < (rs.length : Int)
  · have HN := Lib.hid (HNO.out (fun h => by have := HNU.out h; simp only at this; omega))
    clear HNO HNU KZ hmk
    generalize nodeW ⟨t, l, s⟩ rs = nw at *
    unfold nodeV at *
    simp only at *
    have HW := Lib.hid ((Below.refl w.heap.size w).alloc (Nat.le_refl _) (.cells #[.int .i64 t, .int .i64 l, .int .i64 s, .slice A rs.length c] 93))
    have HBX := Lib.hid (heap_alloc_new w (.cells #[.int .i64 t, .int .i64 l, .int .i64 s, .slice A rs.length c] 93))
    obtain ⟨c0, c1, c2, c3⟩ := cells4 HBX.out
    go_enter Try.func60, Try.ntmps60
    go_wp2
    go_ret
    exact ⟨⟨none, 0, by rw [HN.out]; rfl, by rw [HN.out]; exact OwnU.nil_ _ _⟩, HW.out⟩
  by_cases ht : t = 0
  · subst ht
    have HF := Lib.hid (show fitsB ⟨0, l, s⟩ rs = nfreeB ⟨0, l, s⟩ rs from by unfold fitsB; rw [if_pos rfl])
    have HV := Lib.hid (fun (h : fitsB ⟨0, l, s⟩ rs = true) => show nodeW ⟨0, l, s⟩ rs = List.replicate 8 0#64 by unfold nodeW; rw [if_pos h, if_pos rfl])
    generalize nodeW ⟨0, l, s⟩ rs = nw at *
    generalize fitsB ⟨0, l, s⟩ rs = fb at *
    generalize nfreeB ⟨0, l, s⟩ rs = fr at *
    clear HNU
    unfold nodeV at *
    simp only at *
    have HW := Lib.hid ((Below.refl w.heap.size w).alloc (Nat.le_refl _) (.cells #[.int .i64 0, .int .i64 l, .int .i64 s, .slice A rs.length c] 93))
    have HBX := Lib.hid (heap_alloc_new w (.cells #[.int .i64 0, .int .i64 l, .int .i64 s, .slice A rs.length c] 93))
    obtain ⟨c0, c1, c2, c3⟩ := cells4 HBX.out
    go_enter Try.func60, Try.ntmps60
    go_wp2_with fail
    refine (KZ.out _).mono ?_
    rintro e w1 ⟨rfl, hb⟩
    have HW := Lib.hid (HW.out.trans (hb.mono HW.out.size))
    have HBX := Lib.hid (heap_below HBX.out hb)
    clear hb
    clear c0 c1 c2 c3
    obtain ⟨c0, c1, c2, c3⟩ := cells4 HBX.out
    cases fr with
    | false =>
      have HN := Lib.hid (HNO.out (by rw [HF.out]; decide))
      clear HNO HV HF hmk
      go_wp2
      go_ret
      exact ⟨⟨none, 0, by rw [HN.out]; rfl, by rw [HN.out]; exact OwnU.nil_ _ _⟩, HW.out⟩
    | true =>
      have HN := Lib.hid (HV.out HF.out)
      clear HNO HV HF
      have HO := Lib.hid (OwnU.rep w1 w.heap.size 8 HW.out.size (by unfold maxLen; omega))
      have hba : Below w1.heap.size w1 (w1.alloc (.cells (Array.replicate 8 (U 0#64)) 22)) := (Below.refl _ _).alloc (Nat.le_refl _) _
      have HW := Lib.hid (HW.out.trans (hba.mono HW.out.size))
      clear hba
      go_wp2
      go_ret
      exact ⟨⟨_, 8, by rw [HN.out]; rfl, by rw [HN.out]; exact HO.out⟩, HW.out⟩
  have h4 : rs.length ≤ 4 := by omega
  have HF := Lib.hid (fits_form (n := ⟨t, l, s⟩) (rs := rs) ht (by simp only; omega) (by simp only; omega) (by simp only; omega) h4)
  have HNB := Lib.hid (fun (h : rs.any badR = true) => HNO.out (by rw [HF.out, h]; decide))
  have HV := Lib.hid (fun (h : rs.any badR = false) => show nodeW ⟨t, l, s⟩ rs = nodeB ⟨t, l, s⟩ rs ++ [sealOf (nodeB ⟨t, l, s⟩ rs)] by unfold nodeW; rw [HF.out, h, if_pos (by decide), if_neg ht])
  have HK0 := Lib.hid (show nodeK ⟨t, l, s⟩ rs 0 = [BitVec.ofInt 64 t ||| BitVec.ofInt 64 l <<< 8, BitVec.ofInt 64 s, 0#64, 0#64, 0#64, 0#64, 0#64] from rfl)
  have HKS := Lib.hid (fun k (hk : k < rs.length) => nodeK_set7 ⟨t, l, s⟩ rs k hk h4)
  have HKL := Lib.hid (fun k (hk : k ≤ rs.length) => nodeK_len ⟨t, l, s⟩ rs k hk h4)
  have HKB := Lib.hid (show nodeK ⟨t, l, s⟩ rs rs.length = nodeB ⟨t, l, s⟩ rs from rfl)
  generalize nodeW ⟨t, l, s⟩ rs = nw at *
  generalize nodeK ⟨t, l, s⟩ rs = nk at *
  generalize nodeB ⟨t, l, s⟩ rs = nb at *
  clear HNO HNU HF KZ hmk
  have ht0 : (t == 0) = false := by rw [beq_eq_false_iff_ne]; exact ht
  unfold nodeV at *
  simp only at *
  have HW := Lib.hid ((Below.refl w.heap.size w).alloc (Nat.le_refl _) (.cells #[.int .i64 t, .int .i64 l, .int .i64 s, .slice A rs.length c] 93))
  have HBX := Lib.hid (heap_alloc_new w (.cells #[.int .i64 t, .int .i64 l, .int .i64 s, .slice A rs.length c] 93))
  obtain ⟨c0, c1, c2, c3⟩ := cells4 HBX.out
  have hU5 : Value.int .u64 0 = U 0#64 := U_lit _ (by omega) (by omega)
  have HO := Lib.hid (show OwnU ((w.alloc (.cells #[.int .i64 t, .int .i64 l, .int .i64 s, .slice A rs.length c] 93)).alloc (.cells #[U (BitVec.ofInt 64 t ||| BitVec.ofInt 64 l <<< 8), U (BitVec.ofInt 64 s), U 0#64, U 0#64, U 0#64, U 0#64, U 0#64] 22)) (w.heap.size + 1) (some ⟨w.heap.size + 1, 0, none⟩) (nk 0) 7 by
    rw [HK0.out]
    have h := OwnU.lit (w.alloc (.cells #[.int .i64 t, .int .i64 l, .int .i64 s, .slice A rs.length c] 93)) (w.heap.size + 1) [BitVec.ofInt 64 t ||| BitVec.ofInt 64 l <<< 8, BitVec.ofInt 64 s, 0#64, 0#64, 0#64, 0#64, 0#64] (by simp) (by unfold maxLen; simp)
    rw [World.size_alloc] at h
    exact h)
  have hbl : Below (w.alloc (.cells #[.int .i64 t, .int .i64 l, .int .i64 s, .slice A rs.length c] 93)).heap.size (w.alloc (.cells #[.int .i64 t, .int .i64 l, .int .i64 s, .slice A rs.length c] 93)) ((w.alloc (.cells #[.int .i64 t, .int .i64 l, .int .i64 s, .slice A rs.length c] 93)).alloc (.cells #[U (BitVec.ofInt 64 t ||| BitVec.ofInt 64 l <<< 8), U (BitVec.ofInt 64 s), U 0#64, U 0#64, U 0#64, U 0#64, U 0#64] 22)) := (Below.refl _ _).alloc (Nat.le_refl _) _
  have HBX := Lib.hid (heap_below HBX.out hbl)
  have HW := Lib.hid (HW.out.trans (hbl.mono HW.out.size))
  clear hbl
  go_enter Try.func60, Try.ntmps60
  go_wp2
  generalize ((w.alloc (.cells #[.int .i64 t, .int .i64 l, .int .i64 s, .slice A rs.length c] 93)).alloc (.cells #[U (BitVec.ofInt 64 t ||| BitVec.ofInt 64 l <<< 8), U (BitVec.ofInt 64 s), U 0#64, U 0#64, U 0#64, U 0#64, U 0#64] 22)) = w2 at *
  clear hU5 c0 c1 c2 c3 p0 p1 p2 p3 p4 p5 p6 ht
  go_loopw [4] (fun i wr => ∃ k : Nat, k ≤ rs.length ∧ i = .int .i64 k ∧ Go.RowKit.Hid ((rs.take k).any badR = false) ∧ OwnU wr (w.heap.size + 1) (some ⟨w.heap.size + 1, 0, none⟩) (nk k) 7 ∧ wr.heap[w.heap.size]? = some (.cells #[.int .i64 t, .int .i64 l, .int .i64 s, .slice A rs.length c] 93 (0, 0)) ∧ Below w.heap.size w wr) (fun i _ => rs.length - (intOf i).toNat)
  case atStart => exact ⟨0, Nat.zero_le _, rfl, Lib.hid rfl, HO.out, HBX.out, HW.out⟩
  case round =>
    obtain ⟨k, hk, rfl, hno, hown, hbx, hbw⟩ := hrel
    have HNO := Lib.hid hno.out
    clear HO HW HBX
    have HO := Lib.hid hown
    have HBX := Lib.hid hbx
    have HB := Lib.hid hbw
    clear hown hbw hno hbx
    obtain ⟨c0, c1, c2, c3⟩ := cells4 HBX.out
    have hkl := HKL.out k hk
    by_cases hlt : k < rs.length
    · obtain ⟨lb, lo, rfl, hlc⟩ := (HL.out.below HB.out).at_ hlt
      obtain ⟨hk1, hk2⟩ := hlc k hlt
      have HS := Lib.hid (HKS.out k hlt)
      have HR := Lib.hid (show runW rs[k] = BitVec.ofInt 64 rs[k].1 ||| BitVec.ofInt 64 rs[k].2 <<< 32 from rfl)
      have HT := Lib.hid (any_take_badR rs k hlt)
      have HANY := Lib.hid (fun (h : badR rs[k] = true) => HNB.out (List.any_eq_true.2 ⟨rs[k], List.getElem_mem hlt, h⟩))
      clear hlc
      generalize runW rs[k] = rw_ at *
      generalize rs[k] = zv at *
      obtain ⟨z, v⟩ := zv
      have HBR := Lib.hid (badR_iff (z, v))
      simp only at hk1 hk2 HR HBR
      generalize badR (z, v) = bz at *
      have hre : U (BitVec.ofInt 64 z ||| BitVec.ofInt 64 v <<< 32) = U rw_ := by rw [HR.out]
      have e1 : IntKind.i64.wrap ((k : Int) + 1) = (k : Int) + 1 := IntWalk.i64_in _ (by omega)
      have e2 : IntKind.i64.wrap (2 + (k : Int)) = 2 + (k : Int) := IntWalk.i64_in _ (by omega)
      have e3 : (2 + (k : Int)).toNat = 2 + k := by omega
      have e4 : 0 ≤ 2 + (k : Int) := by omega
      have e5 : 2 + (k : Int) < 7 := by omega
      have hg2 := HO.out.lt (w.heap.size + 1) rfl
      have hne : ¬ w.heap.size + 1 = wr.heap.size := by omega
      have hwlt : w.heap.size < wr.heap.size := heap_lt HBX.out
      have HX1 := Lib.hid (heap_alloc_new wr (.cells #[.int .i64 z, .int .i64 v] 135))
      obtain ⟨x0, x1⟩ := cells2 HX1.out
      by_cases q0 : z < 0
      · skip
        have HN := Lib.hid (HANY.out (HBR.out.2 (by omega)))
        clear HS HR HT HANY HBR hre e2 e3 e4 e5
        go_wp2
        go_ret
        exact ⟨⟨none, 0, by rw [HN.out]; rfl, by rw [HN.out]; exact OwnU.nil_ _ _⟩, HB.out.alloc HB.out.size _⟩
      by_cases q1 : 2147483648 < z
      · skip
        have HN := Lib.hid (HANY.out (HBR.out.2 (by omega)))
        clear HS HR HT HANY HBR hre e2 e3 e4 e5
        go_wp2
        go_ret
        exact ⟨⟨none, 0, by rw [HN.out]; rfl, by rw [HN.out]; exact OwnU.nil_ _ _⟩, HB.out.alloc HB.out.size _⟩
      by_cases q2 : v < 1
      · skip
        have HN := Lib.hid (HANY.out (HBR.out.2 (by omega)))
        clear HS HR HT HANY HBR hre e2 e3 e4 e5
        go_wp2
        go_ret
        exact ⟨⟨none, 0, by rw [HN.out]; rfl, by rw [HN.out]; exact OwnU.nil_ _ _⟩, HB.out.alloc HB.out.size _⟩
      by_cases q3 : 2147483648 < v
      · skip
        have HN := Lib.hid (HANY.out (HBR.out.2 (by omega)))
        clear HS HR HT HANY HBR hre e2 e3 e4 e5
        go_wp2
        go_ret
        exact ⟨⟨none, 0, by rw [HN.out]; rfl, by rw [HN.out]; exact OwnU.nil_ _ _⟩, HB.out.alloc HB.out.size _⟩
      have HNO2 := Lib.hid (show (rs.take (k + 1)).any badR = false by
        rw [HT.out, HNO.out]
        cases hb : bz with
        | false => rfl
        | true => have := HBR.out.1 hb; omega)
      obtain ⟨cq, cz⟩ : ∃ q, wr.cell? ⟨w.heap.size + 1, 2 + k, none⟩ = some (U q) := ⟨_, HO.out.cellAt (2 + k) (by rw [hkl]; omega)⟩
      have fz := HO.out.frozenAt (2 + k)
      have HO1 := Lib.hid (HO.out.stored (2 + k) rw_)
      have HB1 := Lib.hid (HB.out.setCell (p := ⟨w.heap.size + 1, 2 + k, none⟩) (by simp) (U rw_))
      have HBX1 := Lib.hid ((Below.heap_setCell wr ⟨w.heap.size + 1, 2 + k, none⟩ (U rw_) w.heap.size (by simp)).trans HBX.out)
      have HX := Lib.hid ((Below.refl (wr.setCell ⟨w.heap.size + 1, 2 + k, none⟩ (U rw_)).heap.size (wr.setCell ⟨w.heap.size + 1, 2 + k, none⟩ (U rw_))).alloc (Nat.le_refl _) (.cells #[.int .i64 z, .int .i64 v] 135))
      have HO2 := Lib.hid (HO1.out.below HX.out)
      have HB2 := Lib.hid (HB1.out.trans (HX.out.mono HB1.out.size))
      have HBX2 := Lib.hid (heap_below HBX1.out HX.out)
      rw [HS.out] at HO2
      clear hkl HT HANY HBR
      go_wp2
      go_roundw
      case rel => exact ⟨k + 1, by omega, by go_num, Lib.hid HNO2.out, HO2.out, HBX2.out, HB2.out⟩
      case measure => simp [intOf]; omega
    · obtain rfl : k = rs.length := by omega
      rw [List.take_length] at HNO
      have HWV := Lib.hid (HV.out HNO.out)
      rw [HKB.out] at HO hkl
      have HLN := Lib.hid hkl
      have KO := Lib.hid (show Calls Try.prog 78 #[.slice (some ⟨w.heap.size + 1, 0, none⟩) 7 7] wr (fun e w' => e = .returned (U (sealOf nb)) ∧ Drawn wr w') by
        have h := refOf_any nb (some ⟨w.heap.size + 1, 0, none⟩) 7 wr HO.out.rd (by rw [hkl]; unfold maxLen; omega)
        rw [hkl] at h
        exact h)
      clear hkl hlt hk
      have hwlt : w.heap.size < wr.heap.size := heap_lt HBX.out
      go_wp2_with fail
      refine KO.out.mono ?_
      rintro e w3 ⟨rfl, hd⟩
      have HB := Lib.hid (HB.out.trans ((hd.below _).mono HB.out.size))
      have hw3 := (hd.below wr.heap.size).size
      have HO := Lib.hid (HO.out.below (hd.below _))
      clear hd KO c0 c1 c2 c3
      go_wp2_with (first | go_skip | (at_builtin; refine stop_ ?_))
      have hba : Below w3.heap.size w3 (w3.alloc (.cells #[U (sealOf nb)] 22)) := (Below.refl _ _).alloc (Nat.le_refl _) _
      refine appU (.tmp 108) (.tmp 111) rfl rfl (w.heap.size + 1) (some ⟨w.heap.size + 1, 0, none⟩) nb _ 7 rfl HLN.out.symm (HO.out.below hba) (some ⟨w3.heap.size, 0, none⟩) [sealOf nb] 1 1 rfl rfl (RdU.new1 _ _ _) (by rw [HLN.out]; simp) (by simp; omega) ?_
      intro B ys d w4 hys hown hg4 _
      have HB4 := Lib.hid ((HB.out.alloc HB.out.size (.cells #[U (sealOf nb)] 22)).grown hg4 (by have := HB.out.size; simp; omega) (fun j hj => Nat.le_trans (Nat.le_succ _) ((HO.out.below hba).lt j hj).1))
      obtain rfl : ys = nb ++ [sealOf nb] := hys
      have HO4 := Lib.hid (show OwnU w4 w.heap.size B (nb ++ [sealOf nb]) d from Go.Joins.ownsRow_le hown (Nat.le_succ _))
      clear hown hg4 hba
      unfold Stop
      go_wp2
      go_ret
      exact ⟨⟨B, d, by rw [HWV.out, List.length_append]; rfl, by rw [HWV.out]; exact HO4.out⟩, HB4.out⟩
end Go.Proofs.Ytgkojedgamglgaa
