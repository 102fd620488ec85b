/- Chapter 6's reference: Name, at chapter 16's program. -/
import Derived.Test.YtfdngdnnjmcigaaDoorPathRef2
import Derived.Test.YtfdngdnnjmcigaaDoorPathPlain
namespace Go.Proofs.YtfdngdnnjmcigaaDoor
open Go.RowKit
set_option linter.unusedVariables false
set_option linter.unusedSimpArgs false
def okTo (s : ByteArray) (k : Nat) : Bool := (s.data.toList.take k).all fun y => (y != 0) && (y != 47)
theorem okTo_succ (s : ByteArray) (k : Nat) (h : k < s.size) : okTo s (k + 1) = (okTo s k && ((s[k] != 0) && (s[k] != 47))) := by
  unfold okTo
  have hk : k < s.data.toList.length := h
  rw [List.take_succ_eq_append_getElem hk, List.all_append]
  simp
  rfl
theorem okTo_false (s : ByteArray) (k : Nat) (hk : k ≤ s.size) (h : okTo s k = false) : okTo s s.size = false := by
  cases h2 : okTo s s.size with
  | false => rfl
  | true =>
    unfold okTo at h h2
    rw [List.all_eq_true] at h2
    rw [List.all_eq_false] at h
    obtain ⟨x, hx, hn⟩ := h
    exact absurd (h2 x (by
      rw [List.take_of_length_le (show s.data.toList.length ≤ s.size from Nat.le_refl _)]
      exact List.mem_of_mem_take hx)) hn
theorem ret_bool {a b : Bool} (h : a = b) : Ending.returned (Value.bool a) = Ending.returned (Value.bool b) := by rw [h]
theorem named_ok (s : ByteArray) : nameOk s = (okTo s s.size && (decide (1 ≤ s.size) && decide (s.size ≤ 40) && !(s.toList == [46]) && !(s.toList == [46, 46]))) := by
  rw [Bool.and_comm]
  have h1 : okTo s s.size = (!(decide (0 ≤ Lib.indexByte s.data.toList 47)) && !(decide (0 ≤ Lib.indexByte s.data.toList 0))) := by
    unfold okTo
    rw [List.take_of_length_le (show s.data.toList.length ≤ s.size from Nat.le_refl _)]
    rw [Bool.eq_iff_iff, List.all_eq_true]
    simp only [Bool.and_eq_true, Bool.not_eq_true', decide_eq_false_iff_not, indexByte_mem, bne_iff_ne, ne_eq]
    exact ⟨fun h => ⟨fun hm => (h _ hm).2 rfl, fun hm => (h _ hm).1 rfl⟩, fun h x hx => ⟨fun e => h.2 (e ▸ hx), fun e => h.1 (e ▸ hx)⟩⟩
  have h2 : (!(s.toList == [])) = decide (1 ≤ s.size) := by
    rw [ByteArray.toList_eq]
    have h3 : s.data.toList.length = s.size := by rw [Array.length_toList]; rfl
    cases hq : s.data.toList with
    | nil => rw [hq] at h3; simp at h3; rw [← h3]; rfl
    | cons a b => rw [hq] at h3; simp at h3; rw [← h3]; simp
  have h4 : decide ((s.size : Int) ≤ 40) = decide (s.size ≤ 40) := decide_eq_decide.2 (by omega)
  unfold nameOk
  rw [h1, h2, h4]
  simp only [Bool.and_assoc]
theorem u8_slash (y : UInt8) : (((y.toNat : Int)) == 47) = (y == 47) := by
  by_cases h : y = 47
  · subst h; rfl
  · have h2 : (y == 47) = false := by rw [beq_eq_false_iff_ne]; exact h
    rw [h2, beq_eq_false_iff_ne]
    intro e
    exact h (UInt8.toNat_inj.1 (by
      have : (47 : UInt8).toNat = 47 := rfl
      rw [this]; omega))
set_option maxRecDepth 100000 in
theorem refName_any (s : ByteArray) (hs : s.size ≤ maxLen) (w : World) :
    Calls Tryd.prog 17 #[.string s] w fun e w' => e = .returned (.bool (nameOk s)) ∧ w = w' := by
  unfold maxLen at hs
  have HN := Lib.hid (named_ok s)
  have HST := Lib.hid (fun k h => okTo_succ s k h)
  have HF := Lib.hid (fun k hk h => okTo_false s k hk h)
  have H0 := Lib.hid (show okTo s 0 = true from rfl)
  generalize nameOk s = nb at *
  generalize okTo s = ok at *
  go_enter Tryd.func17, Tryd.ntmps17
  go_wp2
  go_loopw [3] (fun i wr => ∃ k : Nat, k ≤ s.size ∧ i = .int .i64 k ∧ Go.RowKit.Hid (ok k = true) ∧ w = wr) (fun i _ => s.size - (intOf i).toNat)
  case atStart => exact ⟨0, Nat.zero_le _, rfl, Lib.hid H0.out, rfl⟩
  case round =>
    obtain ⟨k, hk, rfl, hok, rfl⟩ := hrel
    have HOK := Lib.hid hok.out
    clear hok
    by_cases hlt : k < s.size
    · have e1 : IntKind.i64.wrap ((k : Int) + 1) = (k : Int) + 1 := IntWalk.i64_in _ (by omega)
      have HS := Lib.hid (HST.out k hlt)
      have HFK := Lib.hid (HF.out (k + 1) hlt)
      generalize hy : s[k] = y at *
      have z0 := u8_zero y
      have z1 := u8_slash y
      cases h0 : y == 0 with
      | true =>
        have HR := Lib.hid (show false = nb by rw [HN.out, HFK.out (by rw [HS.out, HOK.out, bne, h0]; rfl)]; rfl)
        rw [h0] at z0
        clear HS HN HFK HF HST z1 h0
        go_wp2
        go_ret
        exact ⟨ret_bool HR.out, rfl⟩
      | false =>
        rw [h0] at z0
        cases h1 : y == 47 with
        | true =>
          have HR := Lib.hid (show false = nb by rw [HN.out, HFK.out (by rw [HS.out, HOK.out, bne, bne, h0, h1]; rfl)]; rfl)
          rw [h1] at z1
          clear HS HN HFK HF HST h0 h1
          go_wp2
          go_ret
          exact ⟨ret_bool HR.out, rfl⟩
        | false =>
          have HO2 := Lib.hid (show ok (k + 1) = true by rw [HS.out, HOK.out, bne, bne, h0, h1]; rfl)
          rw [h1] at z1
          clear HS HFK h0 h1
          go_wp2
          go_roundw
          case rel => exact ⟨k + 1, by omega, by go_num, Lib.hid HO2.out, trivial⟩
          case measure => simp [intOf]; omega
    · obtain rfl : k = s.size := by omega
      have HN := Lib.hid (show nb = (decide (1 ≤ s.size) && decide (s.size ≤ 40) && !(s.toList == [46]) && !(s.toList == [46, 46])) by rw [HN.out, HOK.out]; rfl)
      clear HST HF HOK H0
      by_cases h1 : 1 ≤ s.size
      rotate_left
      · skip
        have HR := Lib.hid (show false = nb by rw [HN.out]; simp [h1])
        have q1 : ¬ 1 ≤ (s.size : Int) := by omega
        clear h1 HN
        go_wp2
        go_ret
        exact ⟨ret_bool HR.out, rfl⟩
      have q1 : 1 ≤ (s.size : Int) := by omega
      by_cases h2 : s.size ≤ 40
      rotate_left
      · skip
        have HR := Lib.hid (show false = nb by rw [HN.out]; simp [h2])
        have q2 : ¬ (s.size : Int) ≤ 40 := by omega
        clear h1 h2 HN
        go_wp2
        go_ret
        exact ⟨ret_bool HR.out, rfl⟩
      have q2 : (s.size : Int) ≤ 40 := by omega
      cases h3 : s.toList == [46] with
      | true =>
        have HR := Lib.hid (show false = nb by rw [HN.out]; simp [h3])
        clear h1 h2 HN
        go_wp2
        go_ret
        exact ⟨ret_bool HR.out, rfl⟩
      | false =>
        have HR := Lib.hid (show (!(s.toList == [46, 46])) = nb by rw [HN.out, decide_eq_true h1, decide_eq_true h2, h3]; rfl)
        clear h1 h2 HN
        go_wp2
        go_ret
        exact ⟨ret_bool HR.out, rfl⟩
end Go.Proofs.YtfdngdnnjmcigaaDoor
