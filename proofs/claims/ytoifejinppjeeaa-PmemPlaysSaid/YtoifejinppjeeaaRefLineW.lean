/- The walks of the reference's line: Open, Load, Store. Conditions: those of RefAt. -/
import Derived.Test.YtoifejinppjeeaaLineMore
import Derived.Test.YtoifejinppjeeaaRefLine
namespace Go.Proofs.Ytoifejinppjeeaa
open Go.RowKit
set_option linter.unusedVariables false
set_option linter.unusedSimpArgs false
theorem rOpen_any (y : Nat) (ss : List (BitVec 64)) (rs : List Rs) (S O : Option Addr) (sc oc : Nat) (w : World) (h : RefAt w y ss rs S sc O oc) :
    Calls Try.prog 90 #[.pointer (some ⟨y, 0, none⟩)] w fun e w' => e = .returned (.int .i64 rs.length) ∧ w = w' := by
  have hc1 := h.c1
  clear h
  go_enter Try.func90, Try.ntmps90
  go_wp2
  go_ret
  exact ⟨rfl, rfl⟩
set_option maxRecDepth 100000 in
set_option maxHeartbeats 4000000 in
theorem rLoad_any (y : Nat) (ss : List (BitVec 64)) (os : List St) (n : Nat) (S O : Option Addr) (sc oc : Nat) (z : Int) (w : World) (h : RefAt w y ss (mk os n) S sc O oc) (hn : os.length ≤ 1000) :
    Calls Try.prog 92 #[.pointer (some ⟨y, 0, none⟩), .int .i64 z] w fun e w' => e = .returned (U (newest ss os z)) ∧ w = w' := by
  by_cases hz : z < 0
  · have hd : newest ss os z = 0#64 := by unfold newest; rw [if_neg (by omega)]
    rw [hd]
    go_enter Try.func92, Try.ntmps92
    go_wp2
    go_ret
    exact ⟨rfl, rfl⟩
  by_cases hz8 : 7 < z
  · have hd : newest ss os z = 0#64 := by unfold newest; rw [if_neg (by omega)]
    rw [hd]
    go_enter Try.func92, Try.ntmps92
    go_wp2
    go_ret
    exact ⟨rfl, rfl⟩
  obtain ⟨m, rfl⟩ := Int.eq_ofNat_of_zero_le (show 0 ≤ z by omega)
  have hm8 : m < 8 := by omega
  have HD := Lib.hid (show newest ss os (m : Int) = ldV (ss.getD m 0#64) (m : Int) os by unfold newest; rw [if_pos (by omega)]; rfl)
  have hc0 := h.c0
  have hc1 := h.c1
  rw [mk_len] at hc1
  have HRD := Lib.hid h.opn
  obtain ⟨sb, so, rfl, hsc⟩ : ∃ sb so, S = some ⟨sb, so, none⟩ ∧ ∀ k, (hk : k < ss.length) → w.cell? ⟨sb, so + k, none⟩ = some (U ss[k]) := by
    rcases h.sure with h0 | h0
    · have := h.len; rw [h0] at this; cases this
    · exact h0
  have hcm := hsc m (by rw [h.len]; exact hm8)
  have hg : ss.getD m 0#64 = ss[m]'(by rw [h.len]; exact hm8) := by simp [h.len, hm8]
  rw [← hg] at hcm
  clear h hg hsc
  generalize ss.getD m 0#64 = v0 at *
  go_enter Try.func92, Try.ntmps92
  go_wp2
  go_loopw [5, 6] (fun v i wr => ∃ k : Nat, k ≤ os.length ∧ i = .int .i64 k ∧ v = U (ldV v0 m (os.take k)) ∧ w = wr) (fun _ i _ => os.length - (intOf i).toNat)
  case atStart => exact ⟨0, Nat.zero_le _, rfl, rfl, rfl⟩
  case round =>
    clear hcm hc0
    obtain ⟨k, hk, rfl, rfl, rfl⟩ := hrel
    by_cases hlt : k < os.length
    · obtain ⟨lb, lo, rfl, hlc⟩ := HRD.out.at_ (show k < (mk os n).length by rw [mk_len]; exact hlt)
      obtain ⟨hk1, hk2, _⟩ := hlc k (by rw [mk_len]; exact hlt)
      rw [mk_get os n k hlt] at hk1 hk2
      have HT := Lib.hid (ldV_take v0 m os k hlt)
      have e0 : IntKind.i64.wrap ((k : Int) + 1) = (k : Int) + 1 := IntWalk.i64_in _ (by omega)
      clear hlc
      generalize os[k] = zv at *
      obtain ⟨u, v⟩ := zv
      simp only at hk1 hk2 HT
      by_cases hy : u = (m : Int)
      · subst hy
        go_wp2
        go_roundw
        case rel => exact ⟨k + 1, by omega, by go_num, by rw [HT.out, if_pos rfl], trivial⟩
        case measure => simp [intOf]; omega
      · have hb : (u == (m : Int)) = false := by simpa using hy
        go_wp2
        go_roundw
        case rel => exact ⟨k + 1, by omega, by go_num, by rw [HT.out, if_neg hy], trivial⟩
        case measure => simp [intOf]; omega
    · obtain rfl : k = os.length := by omega
      go_wp2
      go_ret
      refine ⟨?_, rfl⟩
      rw [HD.out, List.take_length]
      exact rfl
theorem OwnR.empty (w : World) (base : Nat) (hb : base ≤ w.heap.size) : OwnR (w.alloc (.cells #[] 152)) base (some ⟨w.heap.size, 0, none⟩) [] 0 :=
  World.ownsRow_lit (e := 152) (size := 3) (base := base) w #[] 0 hb (by unfold maxLen; omega) rfl
theorem fr_set {w w1 : World} {y i : Nat} {v : Value} (hb : Below w.heap.size w w1) : Fr w (w1.setCell ⟨y, i, none⟩ v) y none :=
  ⟨hb.os, hb.tape, hb.output, by have := hb.size; simpa [World.setCell] using this, fun k hk h1 _ => by
    rw [Below.heap_setCell _ _ _ _ (by simpa using h1), hb.block k hk]⟩
set_option maxRecDepth 100000 in
set_option maxHeartbeats 4000000 in
theorem rStore_any (y : Nat) (ss : List (BitVec 64)) (rs : List Rs) (S O : Option Addr) (sc oc : Nat) (z : Int) (v : BitVec 64) (w : World) (h : RefAt w y ss rs S sc O oc) (hn : rs.length ≤ 1000) :
    Calls Try.prog 87 #[.pointer (some ⟨y, 0, none⟩), .int .i64 z, U v] w fun e w' => e = .returned (.bool (decide (0 ≤ z ∧ z < 8))) ∧
      (∃ O' oc', RefAt w' y ss (if 0 ≤ z ∧ z < 8 then rs ++ [(z, v, false)] else rs) S sc O' oc' ∧ ∀ k, blk O' = some k → blk O = some k ∨ w.heap.size ≤ k) ∧ Fr w w' y none := by
  have HA := Lib.hid h
  have hc1 := h.c1
  clear h
  by_cases hz : z < 0
  · have hd : decide (0 ≤ z ∧ z < 8) = false := decide_eq_false (by omega)
    have hi : ¬ (0 ≤ z ∧ z < 8) := by omega
    rw [hd]
    simp only [if_neg hi]
    clear hi hd
    go_enter Try.func87, Try.ntmps87
    go_wp2
    go_ret
    refine ⟨rfl, ?_, ⟨rfl, rfl, rfl, Nat.le_refl _, fun _ _ _ _ => rfl⟩⟩
    first | exact ⟨O, oc, HA.out, fun k hk => .inl hk⟩ | exact ⟨O, ⟨oc, HA.out⟩, fun k hk => .inl hk⟩
  by_cases hz8 : 7 < z
  · have hd : decide (0 ≤ z ∧ z < 8) = false := decide_eq_false (by omega)
    have hi : ¬ (0 ≤ z ∧ z < 8) := by omega
    rw [hd]
    simp only [if_neg hi]
    clear hi hd
    go_enter Try.func87, Try.ntmps87
    go_wp2
    go_ret
    refine ⟨rfl, ?_, ⟨rfl, rfl, rfl, Nat.le_refl _, fun _ _ _ _ => rfl⟩⟩
    first | exact ⟨O, oc, HA.out, fun k hk => .inl hk⟩ | exact ⟨O, ⟨oc, HA.out⟩, fun k hk => .inl hk⟩
  have hd : decide (0 ≤ z ∧ z < 8) = true := decide_eq_true (by omega)
  have hi : (0 ≤ z ∧ z < 8) := by omega
  rw [hd]
  simp only [if_pos hi]
  clear hi hd
  have hyl := HA.out.lt
  have hcx : (w.alloc (.cells #[] 152)).cell? ⟨y, 1, none⟩ = some (.slice O rs.length oc) :=
    (HA.out.below ((Below.refl _ _).alloc (Nat.le_refl _) _)).c1
  go_enter Try.func87, Try.ntmps87
  go_wp2_with (first | go_skip | (at_builtin; refine stop_ ?_))
  have hb1 : Below w.heap.size w (w.alloc (.cells #[] 152)) := (Below.refl _ _).alloc (Nat.le_refl _) _
  refine appR (.tmp 14) (.tmp 18) rfl rfl w.heap.size (some ⟨w.heap.size, 0, none⟩) [] 0 0 rfl rfl (OwnR.empty w _ (Nat.le_refl _)) O rs _ oc rfl rfl (HA.out.opn.below hb1) (by simp; omega) (by simp) ?_
  intro A2 us c2 w2 hus hown2 hg2 hnew
  obtain rfl : us = rs := by simpa using hus
  have HB2 := Lib.hid (hb1.grown hg2 (by simp) (fun k hk => by cases hk; exact Nat.le_refl _))
  have HO2 := Lib.hid hown2
  clear hus hown2 hg2 hnew hb1 hc1 hcx
  unfold Stop
  go_wp2_with (first | go_skip | (at_builtin; refine stop_ ?_))
  have hrd : RdR (w2.alloc (.cells #[.int .i64 z, U v, .bool false] 152)) (some ⟨w2.heap.size, 0, none⟩) [(z, v, false)] := by
    refine .inr ⟨w2.heap.size, 0, rfl, fun k hk => ?_⟩
    obtain rfl : k = 0 := by simpa using hk
    exact ⟨Lib.cell_of_heap (heap_alloc_new w2 _) 0, Lib.cell_of_heap (heap_alloc_new w2 _) 1, Lib.cell_of_heap (heap_alloc_new w2 _) 2⟩
  refine appR (.tmp 19) (.tmp 23) rfl rfl w.heap.size A2 us _ c2 rfl rfl (HO2.out.below ((Below.refl _ _).alloc (Nat.le_refl _) _)) (some ⟨w2.heap.size, 0, none⟩) [(z, v, false)] 1 1 rfl rfl hrd (by simp; omega) (by have := HB2.out.size; simp; omega) ?_
  intro A3 vs c3 w3 hvs hown3 hg3 hnew3
  have HB3 := Lib.hid ((HB2.out.alloc HB2.out.size (.cells #[.int .i64 z, U v, .bool false] 152)).grown hg3 (by have := HB2.out.size; simp; omega) (fun k hk => (HO2.out.lt k hk).1))
  have hR3 := HA.out.below HB3.out
  have hc1 := hR3.c1
  have hf1 := hR3.fz 1
  have hlt3 := hown3.lt
  have HN := Lib.hid (hR3.setOpen hown3.rd (fun e => by have := (hlt3 y e).1; omega) hown3.cap (fun q hq => (hlt3 q hq).2))
  have HV := Lib.hid hvs
  have HL := Lib.hid (show ∀ k, blk A3 = some k → w.heap.size ≤ k from fun k hk => (hlt3 k hk).1)
  have HF := Lib.hid (fr_set (y := y) (i := 1) (v := .slice A3 vs.length c3) HB3.out)
  clear hvs hown3 hg3 hnew3 hR3 hlt3 hrd HB3 HB2 HO2
  unfold Stop
  go_wp2
  go_ret
  exact ⟨rfl, ⟨A3, c3, by rw [← HV.out]; exact HN.out, fun k hk => .inr (HL.out k hk)⟩, HF.out⟩
end Go.Proofs.Ytoifejinppjeeaa
