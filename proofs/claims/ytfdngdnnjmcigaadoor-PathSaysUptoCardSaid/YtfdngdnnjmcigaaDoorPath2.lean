/- Package path: Split. No condition. -/
import Derived.Test.YtfdngdnnjmcigaaDoorPath1
import Derived.Shelf.Strings.PiecesUse
import Derived.Deep.Onto
namespace Go.Proofs.YtfdngdnnjmcigaaDoor
open Go.RowKit
set_option linter.unusedVariables false
set_option linter.unusedSimpArgs false
def keepP (p : ByteArray) : Bool := !(p.toList == []) && !(p.toList == [46])
def okP (p : ByteArray) : Bool := (p.toList == [46, 46]) || nameOk p
def partsB (s : ByteArray) : List ByteArray := (pieces s 47).filter keepP
def splitE (s : ByteArray) : Int := if s.toList = [] then 1 else if 400 < s.size then 8 else if (partsB s).all okP then 0 else 8
def splitL (s : ByteArray) : List ByteArray := if splitE s = 0 then partsB s else []
def OwnS (w : World) (base : Nat) (v : Value) (l : List ByteArray) : Prop := w.ownsRow base 9 1 v l.length (l.map Value.string)
theorem OwnS.nil (w : World) (base : Nat) : OwnS w base (.slice none 0 0) [] := World.ownsRow_nil _ _ _ _
theorem OwnS.form {w : World} {base : Nat} {v : Value} {l : List ByteArray} (h : OwnS w base v l) : ∃ A c, v = .slice A l.length c ∧ RdS w A l ∧ l.length ≤ c ∧ (∀ b o, A = some ⟨b, o, none⟩ → base ≤ b) := by
  rcases h.2 with ⟨rfl, h0⟩ | ⟨g, cap, cur, rfl, hbg, hg, hnc, hcm, hcs, htake⟩
  · exact ⟨none, 0, by rw [h0], .inl (List.eq_nil_of_length_eq_zero h0), by omega, fun b o h => by cases h⟩
  · refine ⟨some ⟨g, 0, none⟩, cap, rfl, ?_, hnc, fun b o h => by cases h; exact hbg⟩
    by_cases hl : l = []
    · exact .inl hl
    · refine .inr ⟨g, 0, rfl, ?_, fun j x hj => ?_⟩
      · rcases Nat.lt_or_ge g w.heap.size with h' | h'
        · exact h'
        · simp [Array.getElem?_eq_none h'] at hg
      · have h1 := World.ownsRow.cells h (g := g) rfl j (.string x) (by rw [List.getElem?_map, hj]; rfl)
        by_cases hj0 : j = 0
        · subst hj0; simpa [Addr.add] using h1
        · simpa [Addr.add, hj0] using h1
theorem pieces_len (s : ByteArray) : (pieces s 47).length ≤ s.size + 1 := by
  have h1 : 1 ≤ (⟨#[47]⟩ : ByteArray).size := Nat.le_refl _
  have hle := Lib.countB_le ⟨#[47]⟩ h1 s.size s (Nat.le_refl _)
  have hlen := Lib.splitB_all ⟨#[47]⟩ h1 0 _ s rfl
  unfold pieces
  omega
theorem filter_take (l : List ByteArray) (f : ByteArray → Bool) (k : Nat) (x : ByteArray) (h : l[k]? = some x) : (l.take (k + 1)).filter f = (l.take k).filter f ++ (if f x then [x] else []) := by
  rw [List.take_add_one, h, List.filter_append]
  by_cases hf : f x = true
  · simp [hf]
  · simp [hf]
set_option maxHeartbeats 2000000 in
set_option maxRecDepth 100000 in
theorem pSplitP_any (s : ByteArray) (w : World) :
    Calls Tryd.prog 10 #[.string s] w fun e w' => ∃ v, e = .returned (.tuple #[v, .int .i64 (splitE s)]) ∧ OwnS w' w.heap.size v (splitL s) ∧ Below w.heap.size w w' := by
  by_cases h0 : s.toList = []
  · have e1 : splitE s = 1 := by unfold splitE; rw [if_pos h0]
    have e2 : splitL s = [] := by unfold splitL; rw [e1]; rfl
    rw [e1, e2]
    have h0b : s.toList.isEmpty = true := by simpa using h0
    go_enter Tryd.func10, Tryd.ntmps10
    go_wp2
    go_ret2
    exact ⟨.slice none 0 0, rfl, OwnS.nil _ _, Below.refl _ _⟩
  have h0b : s.toList.isEmpty = false := by simpa using h0
  by_cases h4 : 400 < s.size
  · have e1 : splitE s = 8 := by unfold splitE; rw [if_neg h0, if_pos h4]
    have e2 : splitL s = [] := by unfold splitL; rw [e1]; rfl
    rw [e1, e2]
    have h4' : (400 : Int) < s.size := by omega
    go_enter Tryd.func10, Tryd.ntmps10
    go_wp2
    all_goals go_ret2
    all_goals exact ⟨.slice none 0 0, rfl, OwnS.nil _ _, Below.refl _ _⟩
  have h4' : ¬ (400 : Int) < s.size := by omega
  have h4'' : (s.size : Int) ≤ 400 := by omega
  have KSP := Lib.hid (pSplit_any s w (by omega))
  have HE8 := Lib.hid (fun (h : (partsB s).all okP = false) => show splitE s = 8 ∧ splitL s = [] by
    have e1 : splitE s = 8 := by unfold splitE; rw [if_neg h0, if_neg h4, h]; rfl
    exact ⟨e1, by unfold splitL; rw [e1]; rfl⟩)
  have HE0 := Lib.hid (fun (h : (partsB s).all okP = true) => show splitE s = 0 ∧ splitL s = partsB s by
    have e1 : splitE s = 0 := by unfold splitE; rw [if_neg h0, if_neg h4, if_pos h]
    exact ⟨e1, by unfold splitL; rw [e1]; rfl⟩)
  have hpl := pieces_len s
  obtain ⟨i0, hi, hz0, hz1, hz2⟩ := info_parts (show (Tryd.prog.info? 9).map (fun i => (i.zero, i.size, i.bytes)) = some (some (.string ByteArray.empty), 1, 16) by kernel_rfl)
  have HP := Lib.hid (show partsB s = (pieces s 47).filter keepP from rfl)
  clear h4
  go_enter Tryd.func10, Tryd.ntmps10
  go_wp2_with fail
  refine KSP.out.mono ?_
  rintro e w1 ⟨rfl, hw1⟩
  clear KSP
  have HPC := Lib.hid (fun j x (hj : (pieces s 47)[j]? = some x) => show w1.cell? ⟨w.heap.size, j, none⟩ = some (.string x) by rw [hw1]; exact Lib.pieces_cell_at w _ _ j x hj)
  have hsz1 : w1.heap.size = w.heap.size + 1 := by rw [hw1]; simp
  have HBW := Lib.hid (show Below w.heap.size w w1 from by rw [hw1]; exact (Below.refl w.heap.size w).alloc (Nat.le_refl _) _)
  clear hw1
  generalize pieces s 47 = ps at *
  go_wp2
  go_loopw [4, 17] (fun v i wr => ∃ k : Nat, k ≤ ps.length ∧ i = .int .i64 k ∧ Go.RowKit.Hid (((ps.take k).filter keepP).all okP = true) ∧ OwnS wr (w.heap.size + 1) v ((ps.take k).filter keepP) ∧ Below (w.heap.size + 1) w1 wr) (fun _ i _ => ps.length - (intOf i).toNat)
  case atStart => exact ⟨0, Nat.zero_le _, rfl, Lib.hid rfl, OwnS.nil _ _, Below.refl _ _⟩
  case round =>
    obtain ⟨k, hk, rfl, hall, hown, hbw⟩ := hrel
    have HO := Lib.hid hown
    have HB := Lib.hid hbw
    clear hown hbw
    by_cases hlt : k < ps.length
    · obtain ⟨x, hx⟩ : ∃ x, ps[k]? = some x := ⟨ps[k], List.getElem?_eq_getElem hlt⟩
      have hcq := (HB.out.cell (p := ⟨w.heap.size, k, none⟩) (show w.heap.size < w.heap.size + 1 by omega)).trans (HPC.out k x hx)
      have HF := Lib.hid (filter_take ps keepP k x hx)
      have HX := Lib.hid (List.mem_of_getElem? hx)
      have e1 : IntKind.i64.wrap ((k : Int) + 1) = (k : Int) + 1 := IntWalk.i64_in _ (by omega)
      have hlk : ((ps.take k).filter keepP).length ≤ k := by
        have h1 := List.length_filter_le keepP (ps.take k)
        rw [List.length_take] at h1; omega
      clear hx
      by_cases hx0 : x.toList = []
      · have hx0b : x.toList.isEmpty = true := by simpa using hx0
        have HK := Lib.hid (show (if keepP x then [x] else []) = [] by unfold keepP; rw [hx0]; rfl)
        rw [HK.out, List.append_nil] at HF
        clear hx0
        go_wp2
        go_roundw
        case rel => exact ⟨k + 1, by omega, by go_num, by rw [HF.out]; exact hall, by rw [HF.out]; exact HO.out, HB.out⟩
        case measure => simp [intOf]; omega
      have hx0b : x.toList.isEmpty = false := by simpa using hx0
      by_cases hx1 : x.toList = [46]
      · have HK := Lib.hid (show (if keepP x then [x] else []) = [] by unfold keepP; rw [hx1]; rfl)
        rw [HK.out, List.append_nil] at HF
        go_wp2
        go_roundw
        case rel => exact ⟨k + 1, by omega, by go_num, by rw [HF.out]; exact hall, by rw [HF.out]; exact HO.out, HB.out⟩
        case measure => simp [intOf]; omega
      have HK := Lib.hid (show (if keepP x then [x] else []) = [x] by unfold keepP; simp [hx0b, hx1])
      rw [HK.out] at HF
      by_cases hx2 : x.toList = [46, 46]
      · have HY := Lib.hid (show okP x = true by unfold okP; rw [hx2]; rfl)
        have HOK := Lib.hid (show (((ps.take (k + 1)).filter keepP).all okP = true) by rw [HF.out, List.all_append, hall.out]; simp [HY.out])
        go_wp2_with (at_builtin; refine wpList_append_own _ rfl _ _ 24 rfl (w.heap.size + 1) 9 i0 (.string ByteArray.empty) 1 16 Tryd.underlying24 hi hz0 hz1 hz2 rfl (by decide) _ _ _ rfl (World.ownsRow.alloc HO.out _) ⟨wr.heap.size, 0, none⟩ 1 1 [.string x] rfl rfl ?c1 ?c2 ?c3 ?c4 ?c5 ?_)
        case c1 =>
          intro j u hj
          match j, hj with
          | 0, hj => simp at hj; subst hj; simp [Addr.add]
        case c2 => intro u hu; simp at hu; subst hu; rfl
        case c3 => unfold maxLen; omega
        case c4 => omega
        case c5 => have := HB.out.size; simp; omega
        intro v' w2 hown' hgrow _
        have HO2 := Lib.hid (show OwnS w2 (w.heap.size + 1) v' ((ps.take (k + 1)).filter keepP) by
          rw [HF.out]; unfold OwnS; rw [List.length_append, List.map_append]; exact hown')
        have HB2 := Lib.hid ((HB.out.alloc (by have := HB.out.size; omega) (.cells #[.string x] 9)).grown hgrow (by have := HB.out.size; simp; omega) (fun k hk => (HO.out.lt k hk).1))
        clear hown' hgrow HO HB
        go_wp2
        go_roundw
        case rel => exact ⟨k + 1, by omega, by go_num, Lib.hid HOK.out, HO2.out, HB2.out⟩
        case measure => simp [intOf]; omega
      cases hN : nameOk x with
      | true =>
        have KN2 := Lib.hid (show ∀ W : World, Calls Tryd.prog 12 #[.string x] W fun e w' => e = .returned (.bool true) ∧ w' = W from fun W => by have h := pName_any x W; rw [hN] at h; exact h)
        have HY := Lib.hid (show okP x = true by unfold okP; rw [hN, Bool.or_true])
        have hx1b : (x.toList == [46]) = false := beq_eq_false_iff_ne.2 hx1
        have hx2b : (x.toList == [46, 46]) = false := beq_eq_false_iff_ne.2 hx2
        go_wp2_with fail
        refine (KN2.out _).mono ?_
        rintro e w' ⟨rfl, hw⟩
        subst hw
        have HOK := Lib.hid (show (((ps.take (k + 1)).filter keepP).all okP = true) by rw [HF.out, List.all_append, hall.out]; simp [HY.out])
        go_wp2_with (at_builtin; refine wpList_append_own _ rfl _ _ 24 rfl (w.heap.size + 1) 9 i0 (.string ByteArray.empty) 1 16 Tryd.underlying24 hi hz0 hz1 hz2 rfl (by decide) _ _ _ rfl (World.ownsRow.alloc HO.out _) ⟨w'.heap.size, 0, none⟩ 1 1 [.string x] rfl rfl ?c1 ?c2 ?c3 ?c4 ?c5 ?_)
        case c1 =>
          intro j u hj
          match j, hj with
          | 0, hj => simp at hj; subst hj; simp [Addr.add]
        case c2 => intro u hu; simp at hu; subst hu; rfl
        case c3 => unfold maxLen; omega
        case c4 => omega
        case c5 => have := HB.out.size; simp; omega
        intro v' w2 hown' hgrow _
        have HO2 := Lib.hid (show OwnS w2 (w.heap.size + 1) v' ((ps.take (k + 1)).filter keepP) by
          rw [HF.out]; unfold OwnS; rw [List.length_append, List.map_append]; exact hown')
        have HB2 := Lib.hid ((HB.out.alloc (by have := HB.out.size; omega) (.cells #[.string x] 9)).grown hgrow (by have := HB.out.size; simp; omega) (fun k hk => (HO.out.lt k hk).1))
        clear hown' hgrow HO HB
        go_wp2
        go_roundw
        case rel => exact ⟨k + 1, by omega, by go_num, Lib.hid HOK.out, HO2.out, HB2.out⟩
        case measure => simp [intOf]; omega
      | false =>
        have KN2 := Lib.hid (show ∀ W : World, Calls Tryd.prog 12 #[.string x] W fun e w' => e = .returned (.bool false) ∧ w' = W from fun W => by have h := pName_any x W; rw [hN] at h; exact h)
        have HY := Lib.hid (show okP x = false by unfold okP; rw [hN]; simp [hx2])
        have HZ := Lib.hid (HE8.out (by
          rw [HP.out, List.all_eq_false]
          exact ⟨x, List.mem_filter.2 ⟨HX.out, by have h := HK.out; by_cases hq : keepP x = true; exact hq; simp [hq] at h⟩, by rw [HY.out]; decide⟩))
        clear HE8 HE0
        have hx1b : (x.toList == [46]) = false := beq_eq_false_iff_ne.2 hx1
        have hx2b : (x.toList == [46, 46]) = false := beq_eq_false_iff_ne.2 hx2
        go_wp2_with fail
        refine (KN2.out _).mono ?_
        rintro e w' ⟨rfl, rfl⟩
        go_wp2
        go_ret2
        exact ⟨.slice none 0 0, by rw [HZ.out.1]; rfl, by rw [HZ.out.2]; exact OwnS.nil _ _, HBW.out.trans (HB.out.mono (by omega))⟩
    · obtain rfl : k = ps.length := by omega
      rw [List.take_length] at hall
      rw [List.take_length] at HO
      have HZ := Lib.hid (HE0.out (by rw [HP.out]; exact hall.out))
      clear HE8 HE0
      go_wp2
      go_ret2
      exact ⟨_, by rw [HZ.out.1]; rfl, by rw [HZ.out.2, HP.out]; exact World.ownsRow.mono HO.out (by omega), HBW.out.trans (HB.out.mono (by omega))⟩
end Go.Proofs.YtfdngdnnjmcigaaDoor
