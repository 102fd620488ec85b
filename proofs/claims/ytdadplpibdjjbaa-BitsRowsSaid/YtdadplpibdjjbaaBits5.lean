/- Chapter 11: the walks of slices.Clone of words, of Set, of the reference's SetBits and of same. Condition: the slices can be read. -/
import Derived.Test.YtdadplpibdjjbaaBits4
import Derived.StillTailTactics
import Derived.Lib.Builder
import Derived.Lib.SmallJoins
import Derived.RangeFuncBox
namespace Go.Proofs.Ytdadplpibdjjbaa
open Go.RowKit
set_option linter.unusedVariables false
set_option linter.unusedSimpArgs false
theorem CloneU_any (xs : List (BitVec 64)) (A : Option Addr) (c : Nat) (w : World) (hr : RdU w A xs) (hn : xs.length ≤ 8000) :
    Calls Try.prog 69 #[.slice A xs.length c] w fun e w' => (∃ B d, e = .returned (.slice B xs.length d) ∧ OwnU w' w.heap.size B xs d) ∧ Below w.heap.size w w' := by
  rcases A with _ | ad
  · have hx : xs = [] := by
      rcases hr with h | ⟨b, off, h, _⟩
      · exact h
      · cases h
    subst hx
    have h0 := fun (W : World) => Lib.run_eql_slice_nil (P := Try.prog) W 28 25 none 0 c 0 0 Try.underlying28
    go_enter Try.func69, Try.ntmps69
    go_wp2
    go_ret
    exact ⟨⟨none, 0, rfl, OwnU.nil_ _ _⟩, Below.refl _ _⟩
  · have h0 := fun (W : World) => Lib.run_eql_slice_nil (P := Try.prog) W 28 25 (some ad) xs.length c 0 0 Try.underlying28
    have HR := Lib.hid hr
    clear hr
    go_enter Try.func69, Try.ntmps69
    go_wp2_with (first | go_skip | (at_builtin; refine stop_ ?_))
    have ho1 := OwnU.lit w w.heap.size [] (Nat.le_refl _) (by decide)
    have hb1 : Below w.heap.size w (w.alloc (.cells #[] 25)) := (Below.refl _ _).alloc (Nat.le_refl _) _
    refine appU (.tmp 5) (.tmp 6) rfl rfl w.heap.size (some ⟨w.heap.size, 0, none⟩) [] 0 0 rfl rfl ho1 (some ad) xs _ c rfl rfl (HR.out.below hb1) (by simp; omega) (by simp) ?_
    intro B ys d w2 hys hown hg _
    obtain rfl : xs = ys := by simpa using hys.symm
    have HB := Lib.hid (below_app hb1 ho1 hg (by simp) (Nat.le_refl _))
    have HO := Lib.hid hown
    clear hys hg hown hb1 ho1 h0
    unfold Stop
    go_wp2
    go_ret
    exact ⟨⟨B, d, rfl, HO.out⟩, HB.out⟩
theorem ofInt_two_pow : ∀ j : Nat, j < 64 → BitVec.ofInt 64 (2 ^ j) = 1#64 <<< j := by decide +kernel
theorem grownBy_setCell1 (W : World) (b : Nat) (v : Value) : W.grownBy (W.setCell ⟨b, 0, none⟩ v) (some b) := grownBy_setCell' W b v
theorem setCell_drew (w : World) (p : Addr) (v : Value) : w.drew.setCell p v = (w.setCell p v).drew := by
  unfold World.setCell
  dsimp only [World.drew]
set_option maxRecDepth 100000 in
theorem Set_any (xs : List (BitVec 64)) (c : Nat) (A : Option Addr) (yes : Bool) (l : List Int) (L : Option Addr) (lc : Nat) (w : World) (hr : RdU w A xs) (hn : xs.length ≤ 1000)
    (hl : RdF (Value.int .i64) w L l) (hll : l.length ≤ 1000) (hlb : ∀ x ∈ l, -9223372036854775808 ≤ x ∧ x ≤ 9223372036854775807) :
    Calls Try.prog 53 #[.agg #[.slice A xs.length c], .bool yes, .slice L l.length lc] w fun r w' => (∃ B d, r = .returned (.agg #[.slice B xs.length d]) ∧ OwnU w' w.heap.size B (setB yes xs l) d) ∧ Below w.heap.size w w' := by
  have HR := Lib.hid hr
  have HL := Lib.hid hl
  have HLB := Lib.hid hlb
  clear hr hl hlb
  go_enter Try.func53, Try.ntmps53
  go_wp2_with fail
  have HW := Lib.hid (((Below.refl w.heap.size w).alloc (Nat.le_refl _) (.cells #[.slice A xs.length c] 53)).alloc (by simp) (.cells #[.slice none 0 0] 53))
  refine (CloneU_any xs A c _ (HR.out.below HW.out) (by omega)).mono ?_
  rintro e w2 ⟨⟨B, d, rfl, hown⟩, hb⟩
  have HO2 := Lib.hid (show OwnU w2 (w.heap.size + 2) B xs d by simpa using hown)
  have HBL := Lib.hid (fun k (h : blk B = some k) => (hown.lt k h).2)
  have HSZ := Lib.hid (show w.heap.size + 2 ≤ w2.heap.size by have := hb.size; simpa using this)
  have H3 := Lib.hid (show w2.heap[w.heap.size]? = some (.cells #[.slice A xs.length c] 53 (0, 0)) by
    rw [hb.block _ (by simp; omega), Lib.alloc_old _ _ _ (by simp), heap_alloc_new])
  have H6 := Lib.hid (show w2.heap[w.heap.size + 1]? = some (.cells #[.slice none 0 0] 53 (0, 0)) by
    rw [hb.block _ (by simp), show w.heap.size + 1 = (w.alloc (.cells #[.slice A xs.length c] 53)).heap.size by simp, heap_alloc_new])
  have HW2 := Lib.hid (HW.out.trans (hb.mono HW.out.size))
  clear hown hb HW
  have HX := Lib.hid ((Below.refl w2.heap.size w2).alloc (Nat.le_refl _) (.cells #[.slice B xs.length d] 53))
  have HO3 := Lib.hid (HO2.out.below HX.out)
  have H33 := Lib.hid ((HX.out.block w.heap.size (by have := HSZ.out; omega)).trans H3.out)
  have H36 := Lib.hid ((HX.out.block (w.heap.size + 1) (by have := HSZ.out; omega)).trans H6.out)
  have H37 := Lib.hid (heap_alloc_new w2 (.cells #[.slice B xs.length d] 53))
  have HW3 := Lib.hid (HW2.out.trans (HX.out.mono HW2.out.size))
  clear HW2 HX HO2 H3 H6
  go_wp2
  generalize w2.alloc (.cells #[.slice B xs.length d] 53) = w3 at *
  generalize hb7 : w2.heap.size = b7 at *
  clear hb7
  go_loopw [16] (fun i wr => ∃ k : Nat, k ≤ l.length ∧ i = .int .i64 k ∧ OwnU wr (w.heap.size + 2) B (setB yes xs (l.take k)) d ∧ Below w.heap.size w wr ∧ wr.heap[w.heap.size]? = some (.cells #[.slice A xs.length c] 53 (0, 0)) ∧
    wr.heap[w.heap.size + 1]? = some (.cells #[.slice none 0 0] 53 (0, 0)) ∧ wr.heap[b7]? = some (.cells #[.slice B xs.length d] 53 (0, 0))) (fun i _ => l.length - (intOf i).toNat)
  case atStart => exact ⟨0, Nat.zero_le _, rfl, HO3.out, HW3.out, H33.out, H36.out, H37.out⟩
  case round =>
    clear HO3 HW3 H33 H36 H37
    obtain ⟨k, hk, rfl, hown, hbw, h3, h6, h7⟩ := hrel
    have HO := Lib.hid hown
    have HBW := Lib.hid hbw
    have H3 := Lib.hid h3
    have H6 := Lib.hid h6
    have H7 := Lib.hid h7
    clear hown hbw h3 h6 h7
    have hc3 : wr.cell? ⟨w.heap.size, 0, none⟩ = some (.slice A xs.length c) := Lib.cell_of_heap H3.out 0
    by_cases hlt : k < l.length
    · obtain ⟨lb, lo, rfl, hlc⟩ := (HL.out.below HBW.out).at_ hlt
      have hk1 := hlc k hlt
      have hbd := HLB.out l[k] (List.getElem_mem _)
      have HT := Lib.hid (setB_take yes xs l k hlt)
      clear hlc
      generalize l[k] = z at *
      have hzl := setB_len yes (l.take k) xs
      generalize setB yes xs (l.take k) = zs at *
      have e0 : IntKind.i64.wrap ((k : Int) + 1) = (k : Int) + 1 := IntWalk.i64_in _ (by omega)
      go_wp2_with fail
      refine (there_any _ _ _ _ _ hn hbd.1 hbd.2).mono ?_
      rintro e w4 ⟨rfl, hb⟩
      have HO := Lib.hid (HO.out.below hb)
      have HBW := Lib.hid (HBW.out.trans (hb.mono HBW.out.size))
      have H3' := Lib.hid ((hb.block _ (Array.getElem?_eq_some_iff.1 H3.out).1).trans H3.out)
      have H6' := Lib.hid ((hb.block _ (Array.getElem?_eq_some_iff.1 H6.out).1).trans H6.out)
      have H7' := Lib.hid ((hb.block _ (Array.getElem?_eq_some_iff.1 H7.out).1).trans H7.out)
      clear hb H3 H6 H7 hc3
      by_cases hin : 0 ≤ z ∧ z < 64 * (xs.length : Int)
      · rw [decide_eq_true hin]
        obtain ⟨m, rfl⟩ := Int.eq_ofNat_of_zero_le hin.1
        have hmz : m / 64 < zs.length := by omega
        have hmx : m / 64 < xs.length := by omega
        obtain ⟨g, rfl, hgb, hgl⟩ := HO.out.form (by omega)
        have hg7 := HBL.out g rfl
        have hcell := HO.out.cellAt (m / 64) hmz
        have hfz := HO.out.frozenAt (m / 64)
        have hc7 : w4.cell? ⟨b7, 0, none⟩ = some (.slice (some ⟨g, 0, none⟩) xs.length d) := Lib.cell_of_heap H7'.out 0
        have e1 : ((m : Nat) : Int).tdiv 64 = ((m / 64 : Nat) : Int) := by rw [Int.tdiv_eq_ediv_of_nonneg (by omega)]; omega
        have e2 : IntKind.i64.wrap ((m / 64 : Nat) : Int) = ((m / 64 : Nat) : Int) := IntWalk.i64_in _ (by omega)
        have e3 : ((m : Nat) : Int).tmod 64 = ((m % 64 : Nat) : Int) := by rw [Int.tmod_eq_emod_of_nonneg (by omega)]; omega
        have e4 : IntKind.i64.wrap ((m % 64 : Nat) : Int) = ((m % 64 : Nat) : Int) := IntWalk.i64_in _ (by omega)
        have e5 : 0 ≤ (m : Int) % 64 := by omega
        have e6 : IntKind.i64.wrap ((m : Int) / 64) = (m : Int) / 64 := IntWalk.i64_in _ (by omega)
        have e7 : IntKind.i64.wrap ((m : Int) % 64) = (m : Int) % 64 := IntWalk.i64_in _ (by omega)
        have e8 : (m : Int) / 64 < (xs.length : Int) := by omega
        have e9 : 0 ≤ (m : Int) / 64 := by omega
        have e10 : ((m : Int) / 64).toNat = m / 64 := by omega
        obtain ⟨M, hM⟩ : ∃ M, M = 1#64 <<< (m % 64) := ⟨_, rfl⟩
        have hM0 : BitVec.ofInt 64 (2 ^ ((m : Int) % 64).toNat) = M := by
          rw [show ((m : Int) % 64).toNat = m % 64 by omega, ofInt_two_pow _ (Nat.mod_lt _ (by omega)), hM]
        have HT2 := Lib.hid (show setB yes xs (l.take (k + 1)) = zs.set (m / 64) (if yes = true then (zs[m / 64] &&& ~~~M) ||| M else zs[m / 64] &&& ~~~M) by
          rw [HT.out]
          unfold setOne
          rw [if_pos (by rw [hzl]; exact hin)]
          simp only [Int.toNat_natCast]
          rw [List.getD_eq_getElem?_getD, List.getElem?_eq_getElem hmz, hM]
          rfl)
        clear hM HT
        go_wp2
        go_still_tail 11, (by kernel_rfl)
        change wpList _ _ _ _ _ w4.drew
        have HD := Lib.hid ((Below.refl w4.heap.size w4).drew)
        have HO5 := Lib.hid ((HO.out.below HD.out).stored (m / 64) (zs[m / 64] &&& ~~~M))
        have HB5 := Lib.hid ((HBW.out.trans (HD.out.mono HBW.out.size)).setCell (p := ⟨g, m / 64, none⟩) (show w.heap.size ≤ g by omega) (U (zs[m / 64] &&& ~~~M)))
        have H35 := Lib.hid ((Below.heap_setCell w4.drew ⟨g, m / 64, none⟩ (U (zs[m / 64] &&& ~~~M)) w.heap.size (show w.heap.size ≠ g by omega)).trans H3'.out)
        have H65 := Lib.hid ((Below.heap_setCell w4.drew ⟨g, m / 64, none⟩ (U (zs[m / 64] &&& ~~~M)) (w.heap.size + 1) (show w.heap.size + 1 ≠ g by omega)).trans H6'.out)
        have H75 := Lib.hid ((Below.heap_setCell w4.drew ⟨g, m / 64, none⟩ (U (zs[m / 64] &&& ~~~M)) b7 (show b7 ≠ g by omega)).trans H7'.out)
        cases yes with
        | false =>
          go_wp2
          go_roundw
          case rel => exact ⟨k + 1, by omega, by go_num, by rw [HT2.out]; exact HO5.out, HB5.out, H35.out, H65.out, H75.out⟩
          case measure => simp [intOf]; omega
        | true =>
          generalize hV : zs[m / 64] &&& ~~~M = V at *
          have hlen5 : (zs.set (m / 64) V).length = zs.length := List.length_set
          have hcell5 := HO5.out.cellAt (m / 64) (by rw [hlen5]; exact hmz)
          rw [List.getElem_set_self] at hcell5
          have hfz5 := HO5.out.frozenAt (m / 64)
          have hc75 : (w4.drew.setCell ⟨g, m / 64, none⟩ (U V)).cell? ⟨b7, 0, none⟩ = some (.slice (some ⟨g, 0, none⟩) xs.length d) := Lib.cell_of_heap H75.out 0
          have hw5 : w4.drew.setCell ⟨g, m / 64, none⟩ (U V) = (w4.setCell ⟨g, m / 64, none⟩ (U V)).drew := setCell_drew _ _ _
          rw [hw5] at HO5 HB5 H35 H65 H75 hcell5 hfz5 hc75
          clear hw5
          go_wp2
          generalize (w4.setCell ⟨g, m / 64, none⟩ (U V)).drew = w5 at *
          go_still_tail 11, (by kernel_rfl)
          change wpList _ _ _ _ _ w5.drew
          have HD5 := Lib.hid ((Below.refl w5.heap.size w5).drew)
          have HO6 := Lib.hid ((HO5.out.below HD5.out).stored (m / 64) (V ||| M))
          have HB6 := Lib.hid ((HB5.out.trans (HD5.out.mono HB5.out.size)).setCell (p := ⟨g, m / 64, none⟩) (show w.heap.size ≤ g by omega) (U (V ||| M)))
          have H36 := Lib.hid ((Below.heap_setCell w5.drew ⟨g, m / 64, none⟩ (U (V ||| M)) w.heap.size (show w.heap.size ≠ g by omega)).trans H35.out)
          have H66 := Lib.hid ((Below.heap_setCell w5.drew ⟨g, m / 64, none⟩ (U (V ||| M)) (w.heap.size + 1) (show w.heap.size + 1 ≠ g by omega)).trans H65.out)
          have H76 := Lib.hid ((Below.heap_setCell w5.drew ⟨g, m / 64, none⟩ (U (V ||| M)) b7 (show b7 ≠ g by omega)).trans H75.out)
          go_wp2
          go_roundw
          case rel =>
            simp only [← setCell_drew]
            exact ⟨k + 1, by omega, by go_num, by rw [HT2.out, if_pos trivial]; have h := HO6.out; rw [List.set_set] at h; exact h, HB6.out, H36.out, H66.out, H76.out⟩
          case measure => simp [intOf]; omega
      · rw [decide_eq_false hin]
        have HT2 := Lib.hid (show setB yes xs (l.take (k + 1)) = zs by rw [HT.out]; unfold setOne; rw [if_neg (by rw [hzl]; exact hin)])
        go_wp2
        go_roundw
        case rel => exact ⟨k + 1, by omega, by go_num, by rw [HT2.out]; exact HO.out, HBW.out, H3'.out, H6'.out, H7'.out⟩
        case measure => simp [intOf]; omega
    · obtain rfl : k = l.length := by omega
      have hc7 : wr.cell? ⟨b7, 0, none⟩ = some (.slice B xs.length d) := Lib.cell_of_heap H7.out 0
      have hc6 : wr.cell? ⟨w.heap.size + 1, 0, none⟩ = some (.slice none 0 0) := Lib.cell_of_heap H6.out 0
      have hf6 : wr.frozen? ⟨w.heap.size + 1, 0, none⟩ = false := Lib.frozen_of_heap H6.out 0
      have HB8 := Lib.hid (HBW.out.setCell (p := ⟨w.heap.size + 1, 0, none⟩) (show w.heap.size ≤ w.heap.size + 1 by omega) (.slice B xs.length d))
      have h68 : (wr.setCell ⟨w.heap.size + 1, 0, none⟩ (.slice B xs.length d)).cell? ⟨w.heap.size + 1, 0, none⟩ = some (.slice B xs.length d) := Lib.cell_of_heap (Go.Joins.block_setCell (i := 0) H6.out (.slice B xs.length d)) 0
      rw [List.take_length] at HO
      go_wp2
      refine bodyPost_ret (v := .agg #[.slice B xs.length d]) ?_ rfl ⟨⟨B, d, rfl, ?_⟩, HB8.out⟩
      · unfold results
        rw [show Try.f53.results = #[.cell 6 53] from rfl]
        go_simp
      · exact own_kept (Go.Joins.ownsRow_le HO.out (by omega)) (grownBy_setCell1 wr (w.heap.size + 1) (.slice B xs.length d)) (by
          cases hB : blk B with
          | none => exact .inl rfl
          | some q => exact .inr (fun e => by cases e; have := (HO.out.lt _ hB).1; omega))
end Go.Proofs.Ytdadplpibdjjbaa
