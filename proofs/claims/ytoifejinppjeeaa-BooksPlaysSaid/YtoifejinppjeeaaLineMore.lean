/- The walks of package line: New of any words, Load. Conditions: those of LineAt; the words can be read. -/
import Derived.Test.YtoifejinppjeeaaLineWalks2
namespace Go.Proofs.Ytoifejinppjeeaa
open Go.RowKit
set_option linter.unusedVariables false
set_option linter.unusedSimpArgs false
/-- The first k of the words, and zeros behind them. -/
def f8 (xs : List (BitVec 64)) (k : Nat) : List (BitVec 64) := xs.take k ++ z8.drop k
theorem f8_len (xs : List (BitVec 64)) (k : Nat) (h : k ≤ 8) (h2 : k ≤ xs.length) : (f8 xs k).length = 8 := by
  unfold f8 z8
  rw [List.length_append, List.length_take, List.length_drop, List.length_replicate]
  omega
theorem f8_zero (xs : List (BitVec 64)) : f8 xs 0 = z8 := by unfold f8; simp
theorem f8_set (xs : List (BitVec 64)) (k : Nat) (h : k < 8) (h2 : k < xs.length) : (f8 xs k).set k xs[k] = f8 xs (k + 1) := by
  have hz : z8.drop k = (0#64 : BitVec 64) :: z8.drop (k + 1) := by
    have : k < z8.length := by unfold z8; simpa using h
    rw [List.drop_eq_getElem_cons this]
    congr 1
    exact List.getElem_replicate _
  unfold f8
  rw [List.set_append_right (h := by simp; omega), List.length_take, Nat.min_eq_left (by omega), Nat.sub_self, hz, List.set_cons_zero, List.take_add_one, List.getElem?_eq_getElem h2, List.append_assoc]
  rfl
/-- The zeros of a line. -/
abbrev zC : Array Value := #[.int .u64 0, .int .u64 0, .int .u64 0, .int .u64 0, .int .u64 0, .int .u64 0, .int .u64 0, .int .u64 0, .slice none 0 0, .int .i64 0]
theorem zC_eq : zC.toList = z8.map U ++ [Value.slice none 0 0, Value.int .i64 0] := by
  unfold zC
  rw [show (Value.int .u64 0) = U 0#64 from U_lit 0 (by omega) (by omega)]
  rfl
set_option maxRecDepth 100000 in
theorem newCopy (w : World) (ty : TypeId) (A : Option Addr) (xs : List (BitVec 64)) (c : Nat) (hr : RdU w A xs) :
    ∃ w', (Builtin.copy_ #[44, 44] ty #[.slice (some ⟨w.heap.size, 0, none⟩) 8 8, .slice A xs.length c]).run Try.prog (w.alloc (.cells zC 143)) = .ok (goInt ((min xs.length 8 : Nat) : Int)) w' ∧
      LineAt w' w.heap.size (f8 xs (min xs.length 8)) [] none 0 0 ∧ Below w.heap.size w w' := by
  have hB0 : Below w.heap.size w (w.alloc (.cells zC 143)) := (Below.refl _ _).alloc (Nat.le_refl _) _
  have hsz : (Try.prog.info? 22).map (·.size) = some 1 := by kernel_rfl
  have hh := heap_alloc_new w (.cells zC 143)
  by_cases h0 : min xs.length 8 = 0
  · refine ⟨_, ?_, ?_, hB0⟩
    · rw [h0]
      exact run_copy_none (P := Try.prog) _ 44 44 ty 22 _ _ 8 8 xs.length c Try.underlying44 hsz h0
    · rw [h0, f8_zero]
      refine ⟨?_, rfl, OwnS.nil_ _ _⟩
      rw [hh]
      congr 2
  · have hr1 : RdU (w.alloc (.cells zC 143)) A xs := hr.below hB0
    rcases hr1 with h1 | ⟨b, off, rfl, hc⟩
    · rw [h1] at h0; exact absurd rfl h0
    have hl : ((xs.take 8).map U).length = min xs.length 8 := by rw [List.length_map, List.length_take, Nat.min_comm]
    have hrun := run_copy_row (P := Try.prog) (w.alloc (.cells zC 143)) 44 44 ty 22 w.heap.size 0 8 8 ⟨b, off, none⟩ xs.length c zC 143 ((xs.take 8).map U) Try.underlying44 hsz hh hl
      (fun j v hj => by
        have hjl : j < ((xs.take 8).map U).length := by
          rcases Nat.lt_or_ge j ((xs.take 8).map U).length with h | h
          · exact h
          · rw [List.getElem?_eq_none h] at hj; cases hj
        rw [Addr.add_lit, hc j (by rw [hl] at hjl; omega), ← hj, List.getElem?_eq_getElem hjl]
        simp) (by rw [hl]; show 0 + min xs.length 8 ≤ 10; omega) (fun u hu => by
        rw [List.mem_map] at hu
        obtain ⟨v, _, rfl⟩ := hu
        exact oneCell_U v)
    rw [hl] at hrun
    refine ⟨_, hrun, ⟨?_, f8_len _ _ (Nat.min_le_right _ _) (Nat.min_le_left _ _), OwnS.nil_ _ _⟩, ?_⟩
    · rw [setRow_heap (w.alloc (.cells zC 143)) w.heap.size zC _ 143 _ hh]
      congr 2
      rw [zC_eq, Nat.zero_add, List.take_zero, List.nil_append]
      have hz : (z8.map U).length = 8 := by rw [List.length_map]; rfl
      rw [List.drop_append_of_le_length (by rw [hz]; omega)]
      have e : xs.take 8 = xs.take (min xs.length 8) := by
        rcases Nat.le_total xs.length 8 with h | h
        · rw [Nat.min_eq_left h, List.take_length, List.take_of_length_le h]
        · rw [Nat.min_eq_right h]
      unfold f8
      rw [List.map_append, ← e, List.map_drop, List.append_assoc]
      rfl
    · have hg : (w.alloc (.cells zC 143)).grownBy ((w.alloc (.cells zC 143)).setRow w.heap.size (zC.toList.take 0 ++ (xs.take 8).map U ++ zC.toList.drop (0 + min xs.length 8)).toArray) (some w.heap.size) :=
        ⟨rfl, rfl, rfl, by simp [World.setRow], fun j _ hj => setRow_other _ w.heap.size j _ (fun e => hj (by rw [e]))⟩
      exact hB0.grown hg (by simp) (fun k hk => by cases hk; exact Nat.le_refl _)
theorem lNew2_any (A : Option Addr) (xs : List (BitVec 64)) (c : Nat) (w : World) (hr : RdU w A xs) :
    Calls Try.prog 84 #[.slice A xs.length c] w fun e w' => e = .returned (.pointer (some ⟨w.heap.size, 0, none⟩)) ∧ LineAt w' w.heap.size (f8 xs (min xs.length 8)) [] none 0 0 ∧ Below w.heap.size w w' := by
  obtain ⟨w', hcp, hN, hB⟩ := newCopy w 3 A xs c hr
  have HN := Lib.hid hN
  have HB := Lib.hid hB
  clear hN hB hr
  go_enter Try.func84, Try.ntmps84
  go_wp2
  go_ret
  exact ⟨rfl, HN.out, HB.out⟩
/-- The newest of what was stored at z. -/
def ldV (v0 : BitVec 64) (z : Int) (os : List St) : BitVec 64 := os.foldl (fun v s => if s.1 = z then s.2 else v) v0
theorem ldV_take (v0 : BitVec 64) (z : Int) (os : List St) (k : Nat) (h : k < os.length) : ldV v0 z (os.take (k + 1)) = if os[k].1 = z then os[k].2 else ldV v0 z (os.take k) := by
  unfold ldV
  rw [List.take_add_one, List.getElem?_eq_getElem h, List.foldl_append]
  rfl
def newest (ss : List (BitVec 64)) (os : List St) (z : Int) : BitVec 64 := if 0 ≤ z ∧ z < 8 then ldV (ss.getD z.toNat 0#64) z os else 0#64
set_option maxRecDepth 100000 in
set_option maxHeartbeats 4000000 in
theorem lLoad_any (x : Nat) (ss : List (BitVec 64)) (os : List St) (B : Option Addr) (d : Nat) (fl : Int) (z : Int) (w : World) (h : LineAt w x ss os B d fl) (hn : os.length ≤ 1000) :
    Calls Try.prog 79 #[.pointer (some ⟨x, 0, none⟩), .int .i64 z] w fun e w' => e = .returned (U (newest ss os z)) ∧ Below w.heap.size w w' := by
  by_cases hz : z < 0
  · have hd : newest ss os z = 0#64 := by unfold newest; rw [if_neg (by omega)]
    rw [hd]
    go_enter Try.func79, Try.ntmps79
    go_wp2
    go_ret
    exact ⟨rfl, Below.refl _ _⟩
  by_cases hz8 : 8 ≤ z
  · have hd : newest ss os z = 0#64 := by unfold newest; rw [if_neg (by omega)]
    rw [hd]
    go_enter Try.func79, Try.ntmps79
    go_wp2
    go_ret
    exact ⟨rfl, Below.refl _ _⟩
  obtain ⟨m, rfl⟩ := Int.eq_ofNat_of_zero_le (show 0 ≤ z by omega)
  have hm8 : m < 8 := by omega
  have HD := Lib.hid (show newest ss os (m : Int) = ldV (ss.getD m 0#64) (m : Int) os by unfold newest; rw [if_pos (by omega)]; rfl)
  have hc8 := h.c8
  have hcm := h.cs m (by rw [h.len]; exact hm8)
  have hg : ss.getD m 0#64 = ss[m]'(by rw [h.len]; exact hm8) := by simp [h.len, hm8]
  rw [← hg] at hcm
  have HA := Lib.hid h
  clear h hg
  generalize ss.getD m 0#64 = v0 at *
  go_enter Try.func79, Try.ntmps79
  go_wp2
  go_loopw [5, 25] (fun v i wr => ∃ k : Nat, k ≤ os.length ∧ i = .int .i64 k ∧ v = U (ldV v0 m (os.take k)) ∧ Below w.heap.size w wr) (fun _ i _ => os.length - (intOf i).toNat)
  case atStart => exact ⟨0, Nat.zero_le _, rfl, rfl, Below.refl _ _⟩
  case round =>
    clear hc8 hcm
    obtain ⟨k, hk, rfl, rfl, hb⟩ := hrel
    have HB := Lib.hid hb
    clear hb
    by_cases hlt : k < os.length
    · obtain ⟨lb, lo, rfl, hlc⟩ := (HA.out.below HB.out).own.rd.at_ hlt
      obtain ⟨hk1, hk2⟩ := hlc k hlt
      have HT := Lib.hid (ldV_take v0 m os k hlt)
      have e0 : IntKind.i64.wrap ((k : Int) + 1) = (k : Int) + 1 := IntWalk.i64_in _ (by omega)
      clear hlc
      generalize os[k] = zv at *
      obtain ⟨y, v⟩ := zv
      simp only at hk1 hk2 HT
      have HB2 := Lib.hid (HB.out.alloc (by have := HB.out.size; omega) (.cells #[.int .i64 y, U v] 145))
      by_cases hy : y = (m : Int)
      · subst hy
        go_wp2
        go_roundw
        case rel => exact ⟨k + 1, by omega, by go_num, by rw [HT.out, if_pos rfl], HB2.out⟩
        case measure => simp [intOf]; omega
      · have hb : (y == (m : Int)) = false := by simpa using hy
        go_wp2
        go_roundw
        case rel => exact ⟨k + 1, by omega, by go_num, by rw [HT.out, if_neg hy], HB2.out⟩
        case measure => simp [intOf]; omega
    · obtain rfl : k = os.length := by omega
      go_wp2
      go_ret
      refine ⟨?_, HB.out⟩
      rw [HD.out, List.take_length]
      exact rfl
end Go.Proofs.Ytoifejinppjeeaa
