/- append([]byte(s), make([]byte, 40 - len(s))...): forty bytes, whatever the capacity. Condition: the name has at most forty bytes. -/
import Derived.Test.YtgkojedgamglgaaSlotPlain3
import Derived.Test.YtgkojedgamglgaaSlotBuilder
import Derived.Test.YtgkojedgamglgaaGen
import Derived.Lib.AppendZerosOnto
import Derived.Laws.IdiomCopy
import Derived.Laws.IdiomStrings
namespace Go.Proofs.Ytgkojedgamglgaa
open Go.RowKit
set_option linter.unusedVariables false
set_option linter.unusedSimpArgs false
theorem zeros_one (z : Value) (m : Nat) : (Builtin.zeroCells #[z] m).toList = List.replicate m z := by
  apply List.ext_getElem
  · simp [Builtin.zeroCells]
  · intro i h1 h2
    simp [Builtin.zeroCells, Nat.mod_one]
theorem below_setCells {B : Nat} {w0 : World} (g : Nat) (hg : B ≤ g) : ∀ (vs : List Value) (o : Nat) (w : World), Below B w0 w → Below B w0 (w.setCells g o vs)
  | [], _, _, h => h
  | v :: vs, o, w, h => below_setCells g hg vs (o + 1) _ (h.setCell (p := ⟨g, o, none⟩) hg v)
theorem bytesRow_at (s : ByteArray) (cap j : Nat) (hc : s.size ≤ cap) (hj : j < cap) : (bytesRow s cap)[j]? = some (if h : j < s.size then .int .u8 (s[j].toNat : Int) else .int .u8 0) := by
  unfold bytesRow
  by_cases h : j < s.size
  · rw [dif_pos h, Array.getElem?_append_left (by simpa using h)]
    have h2 : j < s.data.size := h
    rw [Array.getElem?_map, Array.getElem?_eq_getElem h2]
    rfl
  · rw [dif_neg h]
    have h2 : ¬ j < s.data.size := h
    have hsz : s.data.size = s.size := rfl
    rw [Array.getElem?_append_right (by simp; omega)]
    simp [Array.getElem?_replicate]
    omega
theorem chB_Y (s : ByteArray) (j : Nat) (h : j < s.size) : Value.int .u8 (s[j].toNat : Int) = Y (chB s j) := by
  have e : chB s j = s[j].toBitVec := by
    unfold chB
    rw [Array.getElem?_eq_getElem (show j < s.data.size from h)]
    rfl
  rw [e]
  rfl
set_option maxHeartbeats 2000000 in
theorem pad_run (W : World) (q cap : Nat) (s : ByteArray) (fz : Nat × Nat) (hs : s.size ≤ 40) (hcap : s.size ≤ cap) (hfz : cap ≤ fz.1)
    (hrow : W.heap[q]? = some (.cells (bytesRow s cap) 5 fz)) (m : Nat) (hm : s.size + m = 40) :
    ∃ B d W', (Builtin.append_ #[142, 3] 142 #[.slice (some ⟨q, 0, none⟩) s.size cap, .int .i64 (m : Int)]).run Try.prog W = .ok (.slice B 40 d) W' ∧ RdF Y W' B (padB s) ∧ Below q W W' := by
  obtain ⟨i0, hi, hz0, hz1, hz2⟩ := info_parts layExtra.infoByte
  have hi' : Try.prog.info? 5 = some i0 := hi
  have ht : Try.prog.underlying 142 = some (.slice 5) := Try.underlying142
  have htn : Try.prog.underlying 3 = some (.int .i64) := Try.underlying3
  have hpl := padB_len s hs
  have hql : q < W.heap.size := (Array.getElem?_eq_some_iff.1 hrow).1
  have hcell : ∀ j, j < cap → W.cell? ⟨q, j, none⟩ = some (if h : j < s.size then .int .u8 (s[j].toNat : Int) else .int .u8 0) := fun j hj => by
    have : W.cell? ⟨q, j, none⟩ = (bytesRow s cap)[j]? := by simp [World.cell?, hrow]
    rw [this, bytesRow_at s cap j hcap hj]
  have hpY : ∀ k (h : k < (padB s).length), Y (padB s)[k] = if h : k < s.size then .int .u8 (s[k].toNat : Int) else .int .u8 0 := fun k h => by
    have e := padB_get s k (by omega)
    rw [List.getD_eq_getElem?_getD, List.getElem?_eq_getElem h] at e
    simp only [Option.getD_some] at e
    rw [e]
    by_cases hk : k < s.size
    · rw [if_pos hk, dif_pos hk, chB_Y s k hk]
    · rw [if_neg hk, dif_neg hk]; rfl
  have hw : IntKind.i64.wrap (m : Int) = m := by rw [IntKind.wrap_i64]; omega
  have hneg : ¬ ((m : Int) < 0) := by omega
  have h48i : ¬ (281474976710656 < (m : Int) * (i0.bytes : Int)) := by rw [hz2]; omega
  by_cases hn : 40 ≤ cap
  · -- there is room: the zeros go in where they stand
    have hn' : s.size + m ≤ cap := by omega
    have hst := run_storeCells_cells (P := Try.prog) q s.size (List.replicate m (Value.int .u8 0)) 0 W
      (fun j hj => by rw [List.length_replicate] at hj; rw [Nat.add_zero, hcell _ (by omega)]; rfl)
      (fun j hj => by
        rw [List.length_replicate] at hj
        simp only [World.frozen?, hrow, Bool.and_eq_false_iff, decide_eq_false_iff_not]
        left
        omega)
      (fun v hv => by rw [List.eq_of_mem_replicate hv]; rfl)
    refine ⟨some ⟨q, 0, none⟩, cap, W.setCells q s.size (List.replicate m (Value.int .u8 0)), ?_, ?_, below_setCells q (Nat.le_refl _) _ _ _ (Below.refl _ _)⟩
    · by_cases hm0 : m = 0
      · subst hm0
        have h40 : s.size = 40 := by omega
        have hw0 : IntKind.i64.wrap 0 = 0 := rfl
        have hcc : 40 ≤ cap := hn
        simp [Builtin.append_, run_underlying ht, run_underlying htn, sizeOf, typeInfo, zeroValue, hi', hz0, hz1, hz2, asInt, asIntOf, hw0, storeCells, h40, hcc, World.setCells]
      · have hns : ¬ (m * i0.size = 0) := by rw [hz1]; omega
        have hzl : (Builtin.zeroCells (Value.int .u8 0).cells m).toList = List.replicate m (Value.int .u8 0) := zeros_one _ _
        have hadd : (⟨q, 0, none⟩ : Addr).add (s.size * 1) = ⟨q, s.size, none⟩ := by unfold Addr.add; split <;> simp_all
        have hadd2 : (⟨q, 0, none⟩ : Addr).add s.size = ⟨q, s.size, none⟩ := by unfold Addr.add; split <;> simp_all
        rw [Nat.add_zero] at hst
        have h48m : ¬ (281474976710656 < (m : Int)) := by omega
        have hcc : 40 ≤ cap := hn
        simp [Builtin.append_, run_underlying ht, run_underlying htn, sizeOf, typeInfo, zeroValue, hi', hz0, hz1, hz2, asInt, asIntOf, hw, hn', hneg, hm0, h48i, h48m, hcc, hzl, hadd, hadd2, hst, hm]
    · right
      refine ⟨q, 0, rfl, fun k hk => ?_⟩
      rw [hpY k hk]
      rw [hpl] at hk
      rw [Nat.zero_add]
      by_cases hks : k < s.size
      · rw [World.cell?_setCells_out _ _ _ _ _ (fun _ _ => .inl hks), hcell k (by omega)]
      · obtain ⟨j, rfl⟩ : ∃ j, k = s.size + j := ⟨k - s.size, by omega⟩
        rw [World.cell?_setCells_in q _ _ _ (fun j hj => by rw [List.length_replicate] at hj; rw [hcell _ (by omega)]; rfl) j (by rw [List.length_replicate]; omega), dif_neg hks]
        simp
  · -- a new row
    have hold : (Builtin.firstCells i0.size s.size (.slice (some ⟨q, 0, none⟩) s.size cap)).run Try.prog W.drew = .ok ((s.data.toList.map fun b => Value.int .u8 (b.toNat : Int)).toArray) W.drew := by
      rw [hz1]
      refine run_firstCells_some (P := Try.prog) (w := W.drew) 1 s.size ⟨q, 0, none⟩ s.size cap _ (by rw [List.length_map, Nat.mul_one]; rfl) (fun j v hj => ?_)
      have hj2 : j < s.size := by
        have := (List.getElem?_eq_some_iff.1 hj).1
        rw [List.length_map] at this
        exact this
      have h := hcell j (by omega)
      rw [dif_pos hj2] at h
      have e : (⟨q, 0, none⟩ : Addr).add j = ⟨q, j, none⟩ := by unfold Addr.add; split <;> simp_all
      rw [e]
      show W.cell? ⟨q, j, none⟩ = some v
      rw [h]
      have hj3 : j < s.data.toList.length := hj2
      rw [List.getElem?_map, List.getElem?_eq_getElem hj3] at hj
      exact hj
    have hg := Lib.run_append_grow_zeros (P := Try.prog) W 142 3 142 5 i0 (.int .u8 0) .i64 .i64 ht htn hi' hz0 (some ⟨q, 0, none⟩) s.size cap _ hold m (by omega) (by rw [hz1]; omega) (by omega) (by omega) (by rw [hz2]; omega)
      (by rw [hz2, hm, Nat.mul_one]; have := nextslicecap_le (need := 40) (old := cap) (by omega); omega)
    rw [hm] at hg
    refine ⟨_, _, _, hg, ?_, ((Below.refl q W).drew).alloc (Nat.le_of_lt hql) _⟩
    right
    refine ⟨W.heap.size, 0, rfl, fun k hk => ?_⟩
    rw [hpY k hk]
    rw [hpl] at hk
    rw [Nat.zero_add]
    have hz : (Builtin.zeroCells (Value.int .u8 0).cells m).toList = List.replicate m (Value.int .u8 0) := zeros_one _ _
    have hh : (W.drew.alloc (.cells ((s.data.toList.map fun b => Value.int .u8 (b.toNat : Int)).toArray ++ Builtin.zeroCells (Value.int .u8 0).cells m ++ Builtin.zeroCells (Value.int .u8 0).cells (grownCap W 40 cap 5 - 40)) 5)).heap[W.heap.size]? = some (.cells ((s.data.toList.map fun b => Value.int .u8 (b.toNat : Int)).toArray ++ Builtin.zeroCells (Value.int .u8 0).cells m ++ Builtin.zeroCells (Value.int .u8 0).cells (grownCap W 40 cap 5 - 40)) 5 (0, 0)) := by
      show (W.heap.push _)[W.heap.size]? = _
      simp
    rw [Lib.cell_of_heap hh k]
    have hsl : s.data.toList.length = s.size := rfl
    rw [← Array.getElem?_toList, Array.toList_append, Array.toList_append, hz, List.append_assoc]
    by_cases hks : k < s.size
    · rw [dif_pos hks, List.getElem?_append_left (by simpa using hks), List.getElem?_map, List.getElem?_eq_getElem (by rw [hsl]; exact hks)]
      rfl
    · rw [dif_neg hks, List.getElem?_append_right (by simp; omega), List.getElem?_append_left (by simp; omega), List.getElem?_replicate, if_pos (by simp; omega)]
end Go.Proofs.Ytgkojedgamglgaa
