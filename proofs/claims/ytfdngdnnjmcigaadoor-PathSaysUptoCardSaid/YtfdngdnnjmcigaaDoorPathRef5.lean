/- The reference of chapter 16: Split. No condition. -/
import Derived.Test.YtfdngdnnjmcigaaDoorPathRef4
namespace Go.Proofs.YtfdngdnnjmcigaaDoor
open Go.RowKit
set_option linter.unusedVariables false
set_option linter.unusedSimpArgs false
theorem cutC_noslash : ∀ (l : List UInt8), ∀ x ∈ cutC l, (47 : UInt8) ∉ x
  | [], x, h => by simp [cutC] at h; subst h; simp
  | b :: l, x, h => by
    have ih := cutC_noslash l
    unfold cutC at h
    split at h
    · rcases List.mem_cons.1 h with h | h
      · subst h; simp
      · exact ih x h
    · rename_i hb
      cases hc : cutC l with
      | nil => exact absurd hc (cutC_ne l)
      | cons y t =>
        rw [hc] at h ih
        rcases List.mem_cons.1 h with h | h
        · subst h
          intro hm
          rcases List.mem_cons.1 hm with e | e
          · exact hb e.symm
          · exact ih y (List.mem_cons_self ..) e
        · exact ih x (List.mem_cons_of_mem _ h)
theorem pieces_noslash (s : ByteArray) : ∀ p ∈ pieces s 47, (47 : UInt8) ∉ p.data.toList := by
  intro p hp
  have h1 : p.data.toList ∈ cutC s.data.toList := by rw [← pieces_data]; exact List.mem_map_of_mem hp
  exact cutC_noslash _ _ h1
theorem pieces_size (s : ByteArray) : ∀ p ∈ pieces s 47, p.size ≤ s.size := by
  intro p hp
  rw [← cutB_pieces] at hp
  exact last_size _ p hp
theorem zeroIn_mem (p : ByteArray) : zeroIn p p.size = decide (0 ≤ Lib.indexByte p.data.toList 0) := by
  unfold zeroIn
  rw [List.take_of_length_le (show p.data.toList.length ≤ p.size from Nat.le_refl _)]
  rw [Bool.eq_iff_iff, List.any_eq_true, decide_eq_true_eq, indexByte_mem]
  exact ⟨fun ⟨x, hx, h0⟩ => by rw [beq_iff_eq] at h0; exact h0 ▸ hx, fun h => ⟨0, h, rfl⟩⟩
theorem bytes_len (p : ByteArray) : p.toList.length = p.size := by rw [ByteArray.toList_eq, Array.length_toList]; rfl
theorem bad_keep (p : ByteArray) (hn : (47 : UInt8) ∉ p.data.toList) (hk : keepP p = true) : okP p = !badB p := by
  have h0 : p.toList ≠ [] := fun e => by unfold keepP at hk; rw [e] at hk; simp at hk
  have h1 : p.toList ≠ [46] := fun e => by unfold keepP at hk; rw [e] at hk; simp at hk
  have b0 : (p.toList == []) = false := beq_eq_false_iff_ne.2 h0
  have b1 : (p.toList == [46]) = false := beq_eq_false_iff_ne.2 h1
  have b47 : decide (0 ≤ Lib.indexByte p.data.toList 47) = false := decide_eq_false (fun h => hn ((indexByte_mem _ _).1 h))
  have b40 : decide ((p.size : Int) ≤ 40) = !decide (40 < p.size) := by
    rw [← decide_not]; exact decide_eq_decide.2 (by omega)
  unfold okP badB
  by_cases h2 : p.toList = [46, 46]
  · have hs : p.size = 2 := by rw [← bytes_len, h2]; rfl
    have h3 : p.data.toList = [46, 46] := by rw [← ByteArray.toList_eq]; exact h2
    rw [h2, zeroIn_mem, h3, hs]
    rfl
  · have b2 : (p.toList == [46, 46]) = false := beq_eq_false_iff_ne.2 h2
    unfold nameOk
    rw [b2, b0, b1, b47, b40, zeroIn_mem]
    cases decide (40 < p.size) <;> cases decide (0 ≤ Lib.indexByte p.data.toList 0) <;> rfl
theorem bad_skip (p : ByteArray) (hk : keepP p = false) : badB p = false := by
  have h : p.toList = [] ∨ p.toList = [46] := by
    unfold keepP at hk
    by_cases h0 : p.toList = []
    · exact .inl h0
    · by_cases h1 : p.toList = [46]
      · exact .inr h1
      · exfalso
        have b0 : (p.toList == []) = false := beq_eq_false_iff_ne.2 h0
        have b1 : (p.toList == [46]) = false := beq_eq_false_iff_ne.2 h1
        rw [b0, b1] at hk
        cases hk
  unfold badB
  rcases h with h | h
  · have hs : p.size = 0 := by rw [← bytes_len, h]; rfl
    have h3 : p.data.toList = [] := by rw [← ByteArray.toList_eq]; exact h
    rw [zeroIn_mem, h3, hs]; rfl
  · have hs : p.size = 1 := by rw [← bytes_len, h]; rfl
    have h3 : p.data.toList = [46] := by rw [← ByteArray.toList_eq]; exact h
    rw [zeroIn_mem, h3, hs]; rfl
theorem split_bad (s : ByteArray) : (partsB s).all okP = (pieces s 47).all fun p => !badB p := by
  unfold partsB
  rw [Bool.eq_iff_iff, List.all_eq_true, List.all_eq_true]
  constructor
  · intro h p hp
    cases hk : keepP p with
    | true => rw [← bad_keep p (pieces_noslash s p hp) hk]; exact h p (List.mem_filter.2 ⟨hp, hk⟩)
    | false => rw [bad_skip p hk]; rfl
  · intro h p hp
    obtain ⟨hp, hk⟩ := List.mem_filter.1 hp
    rw [bad_keep p (pieces_noslash s p hp) hk]; exact h p hp
set_option maxHeartbeats 4000000 in
set_option maxRecDepth 100000 in
theorem rSplit_any (s : ByteArray) (w : World) :
    Calls Tryd.prog 15 #[.string s] w fun e w' => ∃ v, e = .returned (.tuple #[v, .int .i64 (splitE s)]) ∧ OwnS w' w.heap.size v (splitL s) ∧ Below w.heap.size w w' := by
  by_cases h0 : s.toList = []
  · have e1 : splitE s = 1 := by unfold splitE; rw [if_pos h0]
    have e2 : splitL s = [] := by unfold splitL; rw [e1]; rfl
    rw [e1, e2]
    have h0b : s.toList.isEmpty = true := by simpa using h0
    go_enter Tryd.func15, Tryd.ntmps15
    go_wp2
    go_ret2
    exact ⟨.slice none 0 0, rfl, OwnS.nil _ _, Below.refl _ _⟩
  have h0b : s.toList.isEmpty = false := by simpa using h0
  by_cases h4 : 400 < s.size
  · have e1 : splitE s = 8 := by unfold splitE; rw [if_neg h0, if_pos h4]
    have e2 : splitL s = [] := by unfold splitL; rw [e1]; rfl
    rw [e1, e2]
    have h4' : (400 : Int) < s.size := by omega
    go_enter Tryd.func15, Tryd.ntmps15
    go_wp2
    all_goals go_ret2
    all_goals exact ⟨.slice none 0 0, rfl, OwnS.nil _ _, Below.refl _ _⟩
  have h4' : ¬ (400 : Int) < s.size := by omega
  have h4'' : (s.size : Int) ≤ 400 := by omega
  have KSP := Lib.hid (rCut_any s (by omega) w)
  have HE8 := Lib.hid (fun (h : ((pieces s 47).all fun p => !badB p) = false) => show splitE s = 8 ∧ splitL s = [] by
    rw [← split_bad] at h
    have e1 : splitE s = 8 := by unfold splitE; rw [if_neg h0, if_neg h4, h]; rfl
    exact ⟨e1, by unfold splitL; rw [e1]; rfl⟩)
  have HE0 := Lib.hid (fun (h : ((pieces s 47).all fun p => !badB p) = true) => show splitE s = 0 ∧ splitL s = (pieces s 47).filter keepP by
    rw [← split_bad] at h
    have e1 : splitE s = 0 := by unfold splitE; rw [if_neg h0, if_neg h4, if_pos h]
    exact ⟨e1, by unfold splitL; rw [e1]; rfl⟩)
  have hpl := pieces_len s
  have HPZ := Lib.hid (fun p hp => Nat.le_trans (pieces_size s p hp) (show s.size ≤ 400 by omega))
  clear h4
  go_enter Tryd.func15, Tryd.ntmps15
  go_wp2_with fail
  refine KSP.out.mono ?_
  rintro e w1 ⟨v, rfl, hown, hb1⟩
  clear KSP
  obtain ⟨A5, c5, rfl, hrd, hnc, hAb⟩ := OwnS.form hown
  have HR := Lib.hid hrd
  have HBW := Lib.hid hb1
  clear hown hrd hb1 hAb
  generalize pieces s 47 = ps at *
  go_wp2
  go_loopw [4, 6] (fun v i wr => ∃ k : Nat, k ≤ ps.length ∧ i = .int .i64 k ∧ Go.RowKit.Hid (((ps.take k).all fun p => !badB p) = true) ∧ OwnS wr w1.heap.size v ((ps.take k).filter keepP) ∧ Below w1.heap.size w1 wr) (fun _ i _ => ps.length - (intOf i).toNat)
  case atStart => exact ⟨0, Nat.zero_le _, rfl, Lib.hid rfl, OwnS.nil _ _, Below.refl _ _⟩
  case round =>
    obtain ⟨k, hk, rfl, hall, hown, hbw⟩ := hrel
    obtain ⟨A, c, rfl, _, _, _⟩ := OwnS.form hown
    have HO := Lib.hid hown
    have HB := Lib.hid hbw
    clear hown hbw
    by_cases hlt : k < ps.length
    · obtain ⟨b, off, rfl, hbl, hcq0⟩ := HR.out.at_ hlt
      have hcq := (HB.out.cell (p := ⟨b, off + k, none⟩) hbl).trans hcq0
      have HF := Lib.hid (filter_take ps keepP k ps[k] (List.getElem?_eq_getElem hlt))
      have HX := Lib.hid (List.getElem_mem hlt)
      have HT := Lib.hid (show ps.take (k + 1) = ps.take k ++ [ps[k]] from List.take_succ_eq_append_getElem hlt)
      have hxs := HPZ.out ps[k] HX.out
      have e1 : IntKind.i64.wrap ((k : Int) + 1) = (k : Int) + 1 := IntWalk.i64_in _ (by omega)
      have hlk : ((ps.take k).filter keepP).length ≤ k := by
        have h1 := List.length_filter_le keepP (ps.take k)
        rw [List.length_take] at h1; omega
      have KB := Lib.hid (fun W => rBad_any ps[k] (by unfold maxLen; omega) W)
      clear hcq0
      generalize ps[k] = x at *
      generalize (ps.take k).filter keepP = fs at *
      cases hN : badB x with
      | true =>
        rw [hN] at KB
        have HZ := Lib.hid (HE8.out (by
          rw [List.all_eq_false]
          exact ⟨x, HX.out, by rw [hN]; decide⟩))
        clear HE8 HE0
        go_wp2_with fail
        refine (KB.out _).mono ?_
        rintro e w2 ⟨rfl, rfl⟩
        go_wp2
        go_ret2
        exact ⟨.slice none 0 0, by rw [HZ.out.1]; rfl, by rw [HZ.out.2]; exact OwnS.nil _ _, HBW.out.trans (HB.out.mono HBW.out.size)⟩
      | false =>
        rw [hN] at KB
        have HOK := Lib.hid (show ((ps.take (k + 1)).all fun p => !badB p) = true by
          rw [HT.out, List.all_append, hall.out]; simp [hN])
        clear hall HT hN HE8
        by_cases hx0 : x.toList = []
        · have hx0b : x.toList.isEmpty = true := by simpa using hx0
          have hx0c : (x.toList == []) = true := by rw [hx0]; rfl
          rw [show (if keepP x then [x] else []) = [] by unfold keepP; rw [hx0]; rfl, List.append_nil] at HF
          clear hx0
          go_wp2_with fail
          refine (KB.out _).mono ?_
          rintro e w2 ⟨rfl, rfl⟩
          go_wp2
          go_roundw
          case rel => exact ⟨k + 1, by omega, by go_num, Lib.hid HOK.out, by rw [HF.out]; exact HO.out, HB.out⟩
          case measure => simp [intOf]; omega
        have hx0b : x.toList.isEmpty = false := by simpa using hx0
        have hx0c : (x.toList == []) = false := beq_eq_false_iff_ne.2 hx0
        by_cases hx1 : x.toList = [46]
        · have hx1b : (x.toList == [46]) = true := by rw [hx1]; rfl
          rw [show (if keepP x then [x] else []) = [] by unfold keepP; rw [hx1]; rfl, List.append_nil] at HF
          clear hx1
          go_wp2_with fail
          refine (KB.out _).mono ?_
          rintro e w2 ⟨rfl, rfl⟩
          go_wp2
          go_roundw
          case rel => exact ⟨k + 1, by omega, by go_num, Lib.hid HOK.out, by rw [HF.out]; exact HO.out, HB.out⟩
          case measure => simp [intOf]; omega
        have hx1b : (x.toList == [46]) = false := beq_eq_false_iff_ne.2 hx1
        rw [show (if keepP x then [x] else []) = [x] by unfold keepP; rw [hx0c, hx1b]; rfl] at HF
        clear hx0 hx1
        have hbb : Below wr.heap.size wr (wr.alloc (.cells #[.string x] 9)) := (Below.refl _ _).alloc (Nat.le_refl _) _
        have HT1 := Lib.hid (own_below HO.out hbb)
        have HBA := Lib.hid (HB.out.alloc HB.out.size (.cells #[.string x] 9))
        have hza : w1.heap.size ≤ (wr.alloc (.cells #[.string x] 9)).heap.size := by rw [World.size_alloc]; have := HB.out.size; omega
        have HRN := Lib.hid (show RdF Value.string (wr.alloc (.cells #[.string x] 9)) (some ⟨wr.heap.size, 0, none⟩) [x] from RdF.new1 wr _ _)
        clear hbb HO
        go_wp2_with fail
        refine (KB.out _).mono ?_
        rintro e w2 ⟨rfl, hw⟩
        subst hw
        go_wp2_with (first | go_skip | (at_builtin; refine stop_ ?_))
        refine appF (f := Value.string) (fun _ => rfl) 24 9 (.string ByteArray.empty) 16 rfl (by decide) (by decide) Tryd.underlying24 infoS (.tmp 37) (.tmp 42) rfl rfl w1.heap.size A fs _ c rfl rfl HT1.out (some ⟨wr.heap.size, 0, none⟩) [x] 1 1 rfl rfl HRN.out (by simp; omega) hza ?_
        intro A2 us c2 w3 hus hown hg hloc
        have HO2 := Lib.hid (show OwnS w3 w1.heap.size (.slice A2 us.length c2) ((ps.take (k + 1)).filter keepP) by rw [HF.out, ← hus]; exact hown)
        have HB2 := Lib.hid (HBA.out.grown hg hza fun q hq => (own_lt HT1.out q hq).1)
        clear hown hloc hg HT1 HBA HRN hza hus
        unfold Stop
        go_wp2
        go_roundw
        case rel => exact ⟨k + 1, by omega, by go_num, Lib.hid HOK.out, HO2.out, HB2.out⟩
        case measure => simp [intOf]; omega
    · obtain rfl : k = ps.length := by omega
      rw [List.take_length] at hall
      rw [List.take_length] at HO ⊢
      have HZ := Lib.hid (HE0.out hall.out)
      clear HE8 HE0
      go_wp2
      go_ret2
      exact ⟨_, by rw [HZ.out.1]; rfl, by rw [HZ.out.2]; exact World.ownsRow.mono HO.out HBW.out.size, HBW.out.trans (HB.out.mono HBW.out.size)⟩
end Go.Proofs.YtfdngdnnjmcigaaDoor
