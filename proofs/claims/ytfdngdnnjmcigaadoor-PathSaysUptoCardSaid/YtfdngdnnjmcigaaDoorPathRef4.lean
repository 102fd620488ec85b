/- The reference of chapter 16: cut. No condition but a text's length. -/
import Derived.Test.YtfdngdnnjmcigaaDoorPathPlain4
import Derived.Test.YtfdngdnnjmcigaaDoorPathRef3
import Derived.Test.YtfdngdnnjmcigaaDoorDotTwo
import Derived.StillTailTactics
namespace Go.Proofs.YtfdngdnnjmcigaaDoor
open Go.RowKit
set_option linter.unusedVariables false
set_option linter.unusedSimpArgs false
theorem cutB_len (l : List UInt8) : 0 < (cutB l).length ∧ (cutB l).length ≤ l.length + 1 := by
  have key : ∀ (l : List UInt8) (acc : List ByteArray), 0 < acc.length → 0 < (l.foldl stepB acc).length ∧ (l.foldl stepB acc).length ≤ l.length + acc.length := by
    intro l
    induction l with
    | nil => intro acc h; exact ⟨h, by simp⟩
    | cons b l ih =>
      intro acc h
      rw [List.foldl_cons]
      have h1 : 0 < (stepB acc b).length ∧ (stepB acc b).length ≤ acc.length + 1 := by
        unfold stepB
        split
        · simp
        · simp <;> omega
      have := ih _ h1.1
      rw [List.length_cons]
      omega
  exact key l [⟨#[]⟩] (by simp)
theorem stepB_set (acc : List ByteArray) (h : 0 < acc.length) (b : UInt8) (hb : b ≠ 47) : stepB acc b = acc.set (acc.length - 1) (acc[acc.length - 1] ++ ⟨#[b]⟩) := by
  unfold stepB
  rw [if_neg hb]
  have hne : acc ≠ [] := fun e => by rw [e] at h; simp at h
  have e1 : acc.getLast? = some acc[acc.length - 1] := by rw [List.getLast?_eq_getElem?, List.getElem?_eq_getElem]
  rw [e1]
  apply List.ext_getElem
  · simp; omega
  · intro i h1 h2
    simp only [List.length_set] at h2
    rw [List.getElem_set]
    by_cases hi : acc.length - 1 = i
    · subst hi
      rw [if_pos rfl, List.getElem_append_right (by simp)]
      simp
    · rw [if_neg hi, List.getElem_append_left (by simp; omega), List.getElem_dropLast]
theorem extract_one (s : ByteArray) (k : Nat) (h : k < s.size) : s.extract k (k + 1) = ⟨#[s[k]]⟩ := by
  apply ByteArray.ext
  rw [ByteArray.data_extract]
  apply Array.ext
  · simp; have : s.data.size = s.size := rfl; omega
  · intro i h1 h2
    simp at h2
    subst h2
    simp
    rfl
theorem last_size (l : List UInt8) : ∀ x ∈ cutB l, x.size ≤ l.length := by
  have key : ∀ (l : List UInt8) (acc : List ByteArray) (n : Nat), (∀ x ∈ acc, x.size ≤ n) → ∀ x ∈ l.foldl stepB acc, x.size ≤ n + l.length := by
    intro l
    induction l with
    | nil => intro acc n h x hx; exact h x hx
    | cons b l ih =>
      intro acc n h x hx
      rw [List.foldl_cons] at hx
      have := ih (stepB acc b) (n + 1) (fun y hy => by
        unfold stepB at hy
        split at hy
        · rcases List.mem_append.1 hy with hy | hy
          · have := h y hy; omega
          · rw [List.mem_singleton.1 hy]; exact Nat.zero_le _
        · rcases List.mem_append.1 hy with hy | hy
          · have := h y ((List.dropLast_sublist _).subset hy); omega
          · rw [List.mem_singleton.1 hy, ByteArray.size_append]
            have h1 : (acc.getLast?.getD ⟨#[]⟩).size ≤ n := by
              cases hl : acc.getLast? with
              | none => exact Nat.zero_le _
              | some z => exact h z (List.mem_of_getLast? hl)
            have h2 : (⟨#[b]⟩ : ByteArray).size = 1 := rfl
            omega) x hx
      rw [List.length_cons]
      omega
  intro x hx
  have := key l [⟨#[]⟩] 0 (by intro x hx; rw [List.mem_singleton.1 hx]; exact Nat.le_refl _) x hx
  omega
set_option maxHeartbeats 4000000 in
set_option maxRecDepth 100000 in
theorem rCut_any (s : ByteArray) (hs : s.size ≤ 1000) (w : World) :
    Calls Tryd.prog 25 #[.string s] w fun e w' => ∃ v, e = .returned v ∧ OwnS w' w.heap.size v (pieces s 47) ∧ Below w.heap.size w w' := by
  have H0 := Lib.hid (show OwnS (w.alloc (.cells #[.string ⟨#[]⟩] 9)) w.heap.size (.slice (some ⟨w.heap.size, 0, none⟩) 1 1) (cutB (s.data.toList.take 0)) from
    OwnF.lit (f := Value.string) (e := 9) w w.heap.size [⟨#[]⟩] (Nat.le_refl _) (by decide))
  have HB0 := Lib.hid (show Below w.heap.size w (w.alloc (.cells #[.string ⟨#[]⟩] 9)) from (Below.refl _ _).alloc (Nat.le_refl _) _)
  have HST := Lib.hid (fun k h => cutB_take s k h)
  have HLN := Lib.hid (fun k => cutB_len (s.data.toList.take k))
  have HSZ := Lib.hid (fun k => last_size (s.data.toList.take k))
  have HEND := Lib.hid (show cutB (s.data.toList.take s.size) = pieces s 47 by
    rw [List.take_of_length_le (show s.data.toList.length ≤ s.size from Nat.le_refl _)]; exact cutB_pieces s)
  go_enter Tryd.func25, Tryd.ntmps25
  go_wp2
  go_loopw [3, 4] (fun v i wr => ∃ k : Nat, k ≤ s.size ∧ i = .int .i64 k ∧ OwnS wr w.heap.size v (cutB (s.data.toList.take k)) ∧ Below w.heap.size w wr) (fun _ i _ => s.size - (intOf i).toNat)
  case atStart => exact ⟨0, Nat.zero_le _, rfl, H0.out, HB0.out⟩
  case round =>
    obtain ⟨k, hk, rfl, hown, hbw⟩ := hrel
    obtain ⟨A, c, rfl, hrd, hnc, hAb⟩ := OwnS.form hown
    have HO := Lib.hid hown
    have HB := Lib.hid hbw
    have HRD := Lib.hid hrd
    obtain ⟨hl0, hl1⟩ := HLN.out k
    have hl2 : (cutB (s.data.toList.take k)).length ≤ 1001 := by rw [List.length_take] at hl1; omega
    clear hown hbw hrd H0 HB0 hl1
    by_cases hlt : k < s.size
    · have HS := Lib.hid (HST.out k hlt)
      have e1 : IntKind.i64.wrap ((k : Int) + 1) = (k : Int) + 1 := IntWalk.i64_in _ (by omega)
      have hx1 := extract_one s k hlt
      have HZ := Lib.hid (HSZ.out k)
      generalize hy : s[k] = y at *
      have z1 := u8_slash y
      generalize cutB (s.data.toList.take k) = zs at *
      cases h1 : y == 47 with
      | true =>
        rw [h1] at z1
        have hy47 : y = 47 := beq_iff_eq.1 h1
        have HS := Lib.hid (show cutB (s.data.toList.take (k + 1)) = zs ++ [⟨#[]⟩] by rw [HS.out]; unfold stepB; rw [if_pos hy47])
        clear hy47 h1
        have hbb : Below wr.heap.size wr (wr.alloc (.cells #[.string ⟨#[]⟩] 9)) := (Below.refl _ _).alloc (Nat.le_refl _) _
        have HT1 := Lib.hid (own_below HO.out hbb)
        have HBA := Lib.hid (HB.out.alloc HB.out.size (.cells #[.string ⟨#[]⟩] 9))
        have hza : w.heap.size ≤ (wr.alloc (.cells #[.string ⟨#[]⟩] 9)).heap.size := by rw [World.size_alloc]; have := HB.out.size; omega
        have HRN := Lib.hid (show RdF Value.string (wr.alloc (.cells #[.string ⟨#[]⟩] 9)) (some ⟨wr.heap.size, 0, none⟩) [⟨#[]⟩] from RdF.new1 wr _ _)
        clear hbb HO
        go_wp2_with (first | go_skip | (at_builtin; refine stop_ ?_))
        refine appF (f := Value.string) (fun _ => rfl) 24 9 (.string ByteArray.empty) 16 rfl (by decide) (by decide) Tryd.underlying24 infoS (.tmp 16) (.tmp 17) rfl rfl w.heap.size A zs _ c rfl rfl HT1.out (some ⟨wr.heap.size, 0, none⟩) [⟨#[]⟩] 1 1 rfl rfl HRN.out (by simp; omega) hza ?_
        intro A2 us c2 w3 hus hown hg hloc
        have HO2 := Lib.hid (show OwnS w3 w.heap.size (.slice A2 us.length c2) (cutB (s.data.toList.take (k + 1))) by rw [HS.out, ← hus]; exact hown)
        have HB2 := Lib.hid (HBA.out.grown hg hza fun q hq => (own_lt HT1.out q hq).1)
        clear hown hloc hg HT1 HBA HRN hza hus
        unfold Stop
        go_wp2
        go_roundw
        case rel => exact ⟨k + 1, by omega, by go_num, HO2.out, HB2.out⟩
        case measure => simp [intOf]; omega
      | false =>
        rw [h1] at z1
        have hy47 : y ≠ 47 := fun e => by rw [e] at h1; cases h1
        have hlast : zs.length - 1 < zs.length := by omega
        have HS := Lib.hid (show cutB (s.data.toList.take (k + 1)) = zs.set (zs.length - 1) (zs[zs.length - 1] ++ ⟨#[y]⟩) by rw [HS.out]; exact stepB_set zs hl0 y hy47)
        have HZL := Lib.hid (HZ.out zs[zs.length - 1] (List.getElem_mem hlast))
        obtain ⟨g, hA, hgb, hgl⟩ := own_form HO.out hl0
        subst hA
        have hcq : wr.cell? ⟨g, zs.length - 1, none⟩ = some (.string zs[zs.length - 1]) := OwnF.cellAt (f := Value.string) (e := 9) HO.out _ hlast
        have hfz : wr.frozen? ⟨g, zs.length - 1, none⟩ = false := OwnF.frozenAt (f := Value.string) (e := 9) HO.out _
        have hmz : (zs[zs.length - 1]).size + (⟨#[y]⟩ : ByteArray).size ≤ 140737488355328 := by
          have h := HZL.out
          rw [List.length_take] at h
          show _ + 1 ≤ _
          omega
        have HLE := Lib.hid (show zs.length ≤ c from hnc)
        generalize hzq : zs[zs.length - 1] = q at *
        clear hzq hy47 h1 HZ HZL
        obtain ⟨n, hn⟩ : ∃ n, zs.length = n + 1 := ⟨zs.length - 1, by omega⟩
        have HNL := Lib.hid hn
        rw [hn, Nat.add_sub_cancel] at HS hcq hfz
        have e2 : IntKind.i64.wrap (n : Int) = (n : Int) := IntWalk.i64_in _ (by omega)
        have e3 : (n : Int) < (n : Int) + 1 := by omega
        have hmz2 : q.size + 1 ≤ 140737488355328 := hmz
        have hmz3 : ¬ 9223372036854775807 < q.size + 1 := by omega
        have e4 : (0 : Int) ≤ (n : Int) := by omega
        have e5 : k + 1 ≤ s.size := hlt
        have e6 : (k : Int) + 1 ≤ s.size := by omega
        have e7 : (k : Int) ≤ (k : Int) + 1 := by omega
        have e8 : ((k : Int) + 1).toNat = k + 1 := by omega
        rw [hn]
        clear hn hl0 hlast hnc hAb
        have HO := Lib.hid (show OwnS wr w.heap.size (.slice (some ⟨g, 0, none⟩) zs.length c) zs from HO.out)
        go_wp2
        go_still_tail 16, (by kernel_rfl)
        change wpList _ _ _ _ _ wr.drew
        have hbd : Below wr.heap.size wr wr.drew := (Below.refl wr.heap.size wr).drew
        have HO2 := Lib.hid (OwnF.stored (f := Value.string) (e := 9) (own_below HO.out hbd) n (q ++ ⟨#[y]⟩))
        rw [← HS.out] at HO2
        have HB2 := Lib.hid ((HB.out.trans (hbd.mono HB.out.size)).setCell (p := ⟨g, n, none⟩) (show w.heap.size ≤ g by omega) (.string (q ++ ⟨#[y]⟩)))
        have HNE := Lib.hid (show n + 1 = (cutB (s.data.toList.take (k + 1))).length by rw [HS.out, List.length_set]; exact HNL.out.symm)
        clear hbd
        have hcq := (show wr.drew.frozen? ⟨g, n, none⟩ = false from hfz)
        go_wp2
        go_roundw
        case rel => exact ⟨k + 1, by omega, by go_num, by rw [HNE.out]; exact HO2.out, HB2.out⟩
        case measure => simp [intOf]; omega
    · obtain rfl : k = s.size := by omega
      rw [HEND.out] at *
      go_wp2
      go_ret
      exact ⟨_, rfl, HO.out, HB.out⟩
end Go.Proofs.YtfdngdnnjmcigaaDoor
