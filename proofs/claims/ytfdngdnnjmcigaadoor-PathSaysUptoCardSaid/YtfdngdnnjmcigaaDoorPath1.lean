/- Package path: Name, Join. Condition: what is joined takes at most 2^47 bytes. -/
import Derived.Test.YtfdngdnnjmcigaaDoorPathB
namespace Go.Proofs.YtfdngdnnjmcigaaDoor
open Go.RowKit
set_option linter.unusedVariables false
set_option linter.unusedSimpArgs false
/-- A slice of strings, readable. -/
def RdS (w : World) (A : Option Addr) (l : List ByteArray) : Prop :=
  l = [] ∨ ∃ b o, A = some ⟨b, o, none⟩ ∧ b < w.heap.size ∧ ∀ j x, l[j]? = some x → w.cell? ⟨b, o + j, none⟩ = some (.string x)
theorem RdS.below {w w' : World} {A : Option Addr} {l : List ByteArray} (h : RdS w A l) (hb : Below w.heap.size w w') : RdS w' A l := by
  rcases h with h | ⟨b, o, rfl, hlt, hc⟩
  · exact .inl h
  · exact .inr ⟨b, o, rfl, Nat.lt_of_lt_of_le hlt hb.size, fun j x hj => (hb.cell (p := ⟨b, o + j, none⟩) hlt).trans (hc j x hj)⟩
def joinC (l : List ByteArray) : List UInt8 := l.flatMap fun x => 47 :: x.data.toList
def joinB (l : List ByteArray) : ByteArray := ⟨(joinC l).toArray⟩
theorem joinC_take (l : List ByteArray) (k : Nat) (x : ByteArray) (h : l[k]? = some x) : joinC (l.take (k + 1)) = joinC (l.take k) ++ (47 :: x.data.toList) := by
  rw [List.take_add_one, h]
  unfold joinC
  rw [List.flatMap_append]
  simp
theorem joinC_take_len (l : List ByteArray) (k : Nat) : (joinC (l.take k)).length ≤ (joinC l).length := by
  have e : joinC l = joinC (l.take k) ++ joinC (l.drop k) := by unfold joinC; rw [← List.flatMap_append, List.take_append_drop]
  rw [e, List.length_append]; omega
set_option maxHeartbeats 2000000 in
set_option maxRecDepth 100000 in
theorem pJoin_any (A : Option Addr) (l : List ByteArray) (c : Nat) (w : World) (hr : RdS w A l) (hl : l.length < 4611686018427387904) (hT : (joinC l).length ≤ 140737488355328) :
    Calls Tryd.prog 11 #[.slice A l.length c] w fun e w' => e = .returned (.string (joinB l)) ∧ Below w.heap.size w w' := by
  have HR := Lib.hid hr
  have HT := Lib.hid hT
  have HB0 := Lib.hid (show Lib.IsBuilder 41 5 w.heap.size w.heap.size (Lib.byteCells (joinC (l.take 0))) (w.alloc (.cells #[.pointer none, .slice none 0 0] 41)) from
    .inl ⟨Nat.le_refl _, .slice none 0 0, by have h := heap_alloc_new w (.cells #[.pointer none, .slice none 0 0] 41); simpa using h, World.ownsRow_nil _ _ _ _, by simp [Value.ownBlock]⟩)
  have HBW := Lib.hid (show Below w.heap.size w (w.alloc (.cells #[.pointer none, .slice none 0 0] 41)) from (Below.refl w.heap.size w).alloc (Nat.le_refl _) _)
  clear hr hT
  go_enter Tryd.func11, Tryd.ntmps11
  go_wp2
  generalize w.alloc (.cells #[.pointer none, .slice none 0 0] 41) = w1 at *
  go_loopw [8] (fun i wr => ∃ k : Nat, k ≤ l.length ∧ i = .int .i64 k ∧ Lib.IsBuilder 41 5 w.heap.size w.heap.size (Lib.byteCells (joinC (l.take k))) wr ∧ Below w.heap.size w wr) (fun i _ => l.length - (intOf i).toNat)
  case atStart => exact ⟨0, Nat.zero_le _, rfl, HB0.out, HBW.out⟩
  case round =>
    obtain ⟨k, hk, rfl, hib, hbw⟩ := hrel
    have HI := Lib.hid hib
    have HB := Lib.hid hbw
    clear hib hbw HB0 HBW
    by_cases hlt : k < l.length
    · obtain ⟨b, off, hA, hbl, hcs⟩ : ∃ b o, A = some ⟨b, o, none⟩ ∧ b < w.heap.size ∧ ∀ j x, l[j]? = some x → w.cell? ⟨b, o + j, none⟩ = some (.string x) := by
        rcases HR.out with h | h
        · rw [h] at hlt; simp at hlt
        · exact h
      subst hA
      obtain ⟨x, hx⟩ : ∃ x, l[k]? = some x := ⟨l[k], List.getElem?_eq_getElem hlt⟩
      have hcq := (HB.out.cell (p := ⟨b, off + k, none⟩) hbl).trans (hcs k x hx)
      have HN1 := Lib.hid (joinC_take l k x hx)
      have HLK := Lib.hid (show (Lib.byteCells (joinC (l.take k))).length + ((⟨#[47]⟩ : ByteArray) ++ x).size ≤ 140737488355328 by
        have h1 := joinC_take_len l (k + 1)
        have h2 := HT.out
        rw [HN1.out, List.length_append, List.length_cons] at h1
        have h5 : x.data.toList.length = x.size := by rw [Array.length_toList]; rfl
        rw [Lib.byteCells_length, ByteArray.size_append]
        have h3 : x.data.size = x.size := rfl
        have h4 : (⟨#[47]⟩ : ByteArray).size = 1 := rfl
        omega)
      have KW := Lib.hid (bWrite_any w.heap.size w.heap.size (Lib.byteCells (joinC (l.take k))) ((⟨#[47]⟩ : ByteArray) ++ x) wr HI.out HLK.out HB.out.size)
      have e1 : IntKind.i64.wrap ((k : Int) + 1) = (k : Int) + 1 := IntWalk.i64_in _ (by omega)
      have hs4 : (⟨#[47]⟩ : ByteArray).size = 1 := rfl
      have hs5 : x.size ≤ 140737488355328 := by have h2 := HLK.out; rw [ByteArray.size_append] at h2; omega
      clear hcs hx HLK
      go_wp2_with fail
      refine KW.out.mono ?_
      rintro e w2 ⟨rfl, hat, hb2⟩
      have HI2 := Lib.hid (show Lib.IsBuilder 41 5 w.heap.size w.heap.size (Lib.byteCells (joinC (l.take (k + 1)))) w2 from .inr (by
        rw [HN1.out]
        have e : Lib.byteCells (joinC (l.take k) ++ 47 :: x.data.toList) = Lib.byteCells (joinC (l.take k)) ++ Lib.strCells ((⟨#[47]⟩ : ByteArray) ++ x) := by
          unfold Lib.byteCells
          rw [List.map_append]
          congr 1
        rw [e]; exact hat))
      have HB2 := Lib.hid (HB.out.trans hb2)
      clear hat hb2 KW HI HB
      go_wp2
      go_roundw
      case rel => exact ⟨k + 1, by omega, by go_num, HI2.out, HB2.out⟩
      case measure => simp [intOf]; omega
    · obtain rfl : k = l.length := by omega
      have KS := Lib.hid (bString_any w.heap.size w.heap.size _ wr HI.out HB.out.size)
      rw [List.take_length] at KS
      clear HI
      go_wp2_with fail
      refine KS.out.mono ?_
      rintro e w2 ⟨rfl, hb2⟩
      have HB2 := Lib.hid (HB.out.trans hb2)
      clear hb2 HB
      go_wp2
      go_ret
      exact ⟨rfl, HB2.out⟩
def nameOk (s : ByteArray) : Bool := !(s.toList == []) && (decide ((s.size : Int) ≤ 40) && (!(s.toList == [46]) && (!(s.toList == [46, 46]) && (!(decide (0 ≤ Lib.indexByte s.data.toList 47)) && !(decide (0 ≤ Lib.indexByte s.data.toList 0))))))
set_option maxHeartbeats 1000000 in
set_option maxRecDepth 100000 in
theorem pName_any (s : ByteArray) (w : World) :
    Calls Tryd.prog 12 #[.string s] w fun e w' => e = .returned (.bool (nameOk s)) ∧ w' = w := by
  go_enter Tryd.func12, Tryd.ntmps12
  go_wp2_with (go_at_call 23; refine (pHas_any _ _ _).mono ?_; rintro e w' ⟨rfl, rfl⟩)
  all_goals go_ret
  all_goals refine ⟨?_, rfl⟩
  all_goals first | (simp_all [nameOk, Bool.and_assoc]; done) | (simp_all [nameOk, Bool.and_assoc]; intro h; omega)
end Go.Proofs.YtfdngdnnjmcigaaDoor
