/- The reference of chapter 16: Join, bad; of chapter 6: Name. -/
import Derived.Test.YtfdngdnnjmcigaaDoorPath4
namespace Go.Proofs.YtfdngdnnjmcigaaDoor
open Go.RowKit
set_option linter.unusedVariables false
set_option linter.unusedSimpArgs false
theorem joinB_take (l : List ByteArray) (k : Nat) (x : ByteArray) (h : l[k]? = some x) : joinB (l.take (k + 1)) = joinB (l.take k) ++ (⟨#[47]⟩ : ByteArray) ++ x := by
  unfold joinB
  rw [joinC_take l k x h]
  apply ByteArray.ext
  rw [ByteArray.data_append, ByteArray.data_append]
  apply Array.ext'
  simp
theorem joinB_take_size (l : List ByteArray) (k : Nat) : (joinB (l.take k)).size ≤ (joinC l).length := by
  have h := joinC_take_len l k
  have : (joinB (l.take k)).size = (joinC (l.take k)).length := by show (joinC (l.take k)).toArray.size = _; simp
  omega
set_option maxHeartbeats 2000000 in
set_option maxRecDepth 100000 in
theorem rJoin_any (A : Option Addr) (l : List ByteArray) (c : Nat) (w : World) (hr : RdS w A l) (hl : l.length < 4611686018427387904) (hT : (joinC l).length ≤ 140737488355328) :
    Calls Tryd.prog 18 #[.slice A l.length c] w fun e w' => e = .returned (.string (joinB l)) ∧ w' = w := by
  have HR := Lib.hid hr
  have HT := Lib.hid hT
  clear hr hT
  go_enter Tryd.func18, Tryd.ntmps18
  go_wp2
  go_loopw [3, 4] (fun v i wr => ∃ k : Nat, k ≤ l.length ∧ i = .int .i64 k ∧ v = .string (joinB (l.take k)) ∧ wr = w) (fun _ i _ => l.length - (intOf i).toNat)
  case atStart => exact ⟨0, Nat.zero_le _, rfl, rfl, rfl⟩
  case round =>
    obtain ⟨k, hk, rfl, rfl, rfl⟩ := hrel
    by_cases hlt : k < l.length
    · obtain ⟨b, off, rfl, _, hcq⟩ := HR.out.at_ hlt
      have HN := Lib.hid (joinB_take l k l[k] (List.getElem?_eq_getElem hlt))
      have hz := joinB_take_size l (k + 1)
      rw [HN.out, ByteArray.size_append, ByteArray.size_append] at hz
      have hz2 := HT.out
      have hs4 : (⟨#[47]⟩ : ByteArray).size = 1 := rfl
      generalize l[k] = x at *
      generalize joinB (l.take k) = jb at *
      have e1 : IntKind.i64.wrap ((k : Int) + 1) = (k : Int) + 1 := IntWalk.i64_in _ (by omega)
      have hq1 : jb.size + (⟨#[47]⟩ : ByteArray).size ≤ 140737488355328 := by omega
      have hq2 : (jb ++ (⟨#[47]⟩ : ByteArray)).size + x.size ≤ 140737488355328 := by rw [ByteArray.size_append]; omega
      go_wp2
      go_roundw
      case rel => exact ⟨k + 1, by omega, by go_num, by rw [HN.out], by first | rfl | trivial⟩
      case measure => simp [intOf]; omega
    · obtain rfl : k = l.length := by omega
      rw [List.take_length]
      go_wp2
      go_ret
      exact ⟨rfl, by first | rfl | trivial⟩
end Go.Proofs.YtfdngdnnjmcigaaDoor
