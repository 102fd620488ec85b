/- Bytes turned into a string. No condition. -/
import Derived.Test.YtgkojedgamglgaaGen
import Derived.Laws.BytesArg
import Derived.Laws.BytesString
namespace Go.Proofs.Ytgkojedgamglgaa
open Go.RowKit
set_option linter.unusedVariables false

/-- The string of these bytes. -/
def strY (xs : List (BitVec 8)) : ByteArray := strOfNums (xs.map fun b => (b.toNat : Int))
theorem run_str {P : Program} (w : World) (src dst e : TypeId) (hs : P.underlying src = some (.slice e)) (he : P.underlying e = some (.int .u8)) (hd : P.underlying dst = some .string)
    (A : Option Addr) (xs : List (BitVec 8)) (c : Nat) (hr : RdF Y w A xs) : (convert src dst (.slice A xs.length c)).run P w = .ok (.string (strY xs)) w := by
  rcases A with _ | ad
  · have hx : xs = [] := by
      rcases hr with h | ⟨b, off, h, _⟩
      · exact h
      · cases h
    subst hx
    rw [run_convert_bytes_nil (P := P) w src e hs he _ c dst hd]
    rfl
  · by_cases h0 : xs = []
    · subst h0
      rw [run_convert_bytes_string w src dst e _ _ c hs he hd]
      have := run_bytesToString (P := P) w ad 0 c [] (by simp [loadCells, loadCellsFrom])
      rw [show ([] : List (BitVec 8)).length = 0 from rfl, this]
      rfl
    · obtain ⟨b, off, hA, hc⟩ := hr.at_ (k := 0) (by
        rcases Nat.eq_zero_or_pos xs.length with h | h
        · exact absurd (List.eq_nil_of_length_eq_zero h) h0
        · exact h)
      injection hA with hA
      subst hA
      exact run_convert_bytes_arg (P := P) w src e hs he b off xs.length c (xs.map fun b => (b.toNat : Int)) (by simp) (fun i hi => by
        rw [hc i hi]
        simp [hi, Y]) dst hd
end Go.Proofs.Ytgkojedgamglgaa
