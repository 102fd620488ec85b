/- Package path: Clean. No condition. -/
import Derived.Test.YtfdngdnnjmcigaaDoorPath2
namespace Go.Proofs.YtfdngdnnjmcigaaDoor
open Go.RowKit
set_option linter.unusedVariables false
set_option linter.unusedSimpArgs false
def cleanS (out : List ByteArray) (p : ByteArray) : List ByteArray := if p.toList = [46, 46] then out.dropLast else out ++ [p]
def cleanF (l : List ByteArray) : List ByteArray := l.foldl cleanS []
def cleanB (s : ByteArray) : ByteArray := if splitE s = 0 then (if cleanF (splitL s) = [] then ⟨#[47]⟩ else joinB (cleanF (splitL s))) else ⟨#[]⟩
theorem cleanF_take (l : List ByteArray) (k : Nat) (x : ByteArray) (h : l[k]? = some x) : cleanF (l.take (k + 1)) = cleanS (cleanF (l.take k)) x := by
  rw [List.take_add_one, h]
  unfold cleanF
  rw [List.foldl_append]
  rfl
theorem cleanF_mem (l : List ByteArray) : ∀ (acc : List ByteArray) (x : ByteArray), x ∈ l.foldl cleanS acc → x ∈ acc ∨ x ∈ l := by
  induction l with
  | nil => intro acc x h; exact .inl h
  | cons p l ih =>
    intro acc x h
    rw [List.foldl_cons] at h
    rcases ih _ x h with h | h
    · unfold cleanS at h
      split at h
      · exact .inl ((List.dropLast_sublist _).subset h)
      · rcases List.mem_append.1 h with h | h
        · exact .inl h
        · rw [List.mem_singleton.1 h]; exact .inr (List.mem_cons_self ..)
    · exact .inr (List.mem_cons_of_mem _ h)
theorem cleanF_len (l : List ByteArray) : ∀ acc : List ByteArray, (l.foldl cleanS acc).length ≤ acc.length + l.length := by
  induction l with
  | nil => intro acc; simp
  | cons p l ih =>
    intro acc
    rw [List.foldl_cons]
    refine Nat.le_trans (ih _) ?_
    unfold cleanS
    split
    · rw [List.length_dropLast, List.length_cons]; omega
    · rw [List.length_append, List.length_cons]; simp; omega
theorem joinC_bound (l : List ByteArray) (h : ∀ x ∈ l, x.size ≤ 40) : (joinC l).length ≤ 41 * l.length := by
  induction l with
  | nil => simp [joinC]
  | cons p l ih =>
    have h1 := ih (fun x hx => h x (List.mem_cons_of_mem _ hx))
    have h2 := h p (List.mem_cons_self ..)
    have h3 : p.data.toList.length = p.size := by rw [Array.length_toList]; rfl
    unfold joinC at h1 ⊢
    rw [List.flatMap_cons, List.length_append, List.length_cons, List.length_cons]
    omega
theorem okP_size (p : ByteArray) (h : okP p = true) : p.size ≤ 40 := by
  unfold okP at h
  rcases Bool.or_eq_true _ _ ▸ h with h | h
  · have h1 : p.toList = [46, 46] := beq_iff_eq.1 h
    have h2 : p.size = 2 := by
      have h3 : p.data.toList.length = p.size := by rw [Array.length_toList]; rfl
      rw [← h3, ← ByteArray.toList_eq, h1]; rfl
    omega
  · unfold nameOk at h
    simp only [Bool.and_eq_true, decide_eq_true_eq] at h
    have := h.2.1
    omega
theorem splitL_ok (s : ByteArray) : ∀ x ∈ splitL s, okP x = true ∧ keepP x = true := by
  intro x hx
  unfold splitL at hx
  split at hx
  · rename_i he
    have hall : (partsB s).all okP = true := by
      unfold splitE at he
      split at he
      · simp at he
      · split at he
        · simp at he
        · split at he
          · assumption
          · simp at he
    exact ⟨List.all_eq_true.1 hall x hx, (List.mem_filter.1 hx).2⟩
  · simp at hx
theorem splitL_len (s : ByteArray) : (splitL s).length ≤ 401 := by
  unfold splitL
  split
  · rename_i he
    have h1 : s.size ≤ 400 := by
      unfold splitE at he
      split at he
      · simp at he
      · split at he
        · simp at he
        · omega
    have h2 := pieces_len s
    have h3 := List.length_filter_le keepP (pieces s 47)
    unfold partsB
    omega
  · simp
theorem clean_bound (s : ByteArray) : (cleanF (splitL s)).length ≤ 401 ∧ (joinC (cleanF (splitL s))).length ≤ 16441 := by
  have h1 := cleanF_len (splitL s) []
  have h2 := splitL_len s
  have h3 := joinC_bound (cleanF (splitL s)) (fun x hx => by
    rcases cleanF_mem (splitL s) [] x hx with h | h
    · simp at h
    · exact okP_size x (splitL_ok s x h).1)
  unfold cleanF at *
  simp at h1
  omega
theorem OwnS.pop {w : World} {base : Nat} {A : Option Addr} {c : Nat} {l : List ByteArray} (h : OwnS w base (.slice A l.length c) l) (hl : 0 < l.length) : OwnS w base (.slice A (l.length - 1) c) l.dropLast := by
  refine ⟨by simp, ?_⟩
  rcases h.2 with ⟨h1, h0⟩ | ⟨g, cap, cur, hv, hbg, hg, hnc, hcm, hcs, htake⟩
  · omega
  · injection hv with e1 e2 e3
    subst e1; subst e3
    refine .inr ⟨g, c, cur, by rw [List.length_dropLast], hbg, hg, by rw [List.length_dropLast]; omega, hcm, hcs, ?_⟩
    rw [List.length_dropLast, List.map_dropLast, ← htake, List.dropLast_eq_take, List.take_take, List.length_take]
    congr 1
    have : cur.toList.length = c * 1 := by rw [Array.length_toList]; exact hcs
    omega
set_option maxHeartbeats 2000000 in
set_option maxRecDepth 100000 in
theorem pClean_any (s : ByteArray) (w : World) :
    Calls Tryd.prog 9 #[.string s] w fun e w' => e = .returned (.string (cleanB s)) ∧ Below w.heap.size w w' := by
  have KSP := Lib.hid (pSplitP_any s w)
  have HCB := Lib.hid (clean_bound s)
  have HSL := Lib.hid (splitL_len s)
  obtain ⟨i0, hi, hz0, hz1, hz2⟩ := info_parts (show (Tryd.prog.info? 9).map (fun i => (i.zero, i.size, i.bytes)) = some (some (.string ByteArray.empty), 1, 16) by kernel_rfl)
  by_cases he : splitE s = 0
  rotate_left
  · have hR := Lib.hid (show cleanB s = ⟨#[]⟩ by unfold cleanB; rw [if_neg he])
    rw [hR.out]
    generalize splitE s = z at *
    go_enter Tryd.func9, Tryd.ntmps9
    go_wp2_with fail
    refine KSP.out.mono ?_
    rintro e w1 ⟨v, rfl, hown, hb1⟩
    go_wp2
    go_ret
    exact ⟨rfl, hb1⟩
  have hR := Lib.hid (show cleanB s = (if cleanF (splitL s) = [] then ⟨#[47]⟩ else joinB (cleanF (splitL s))) by unfold cleanB; rw [if_pos he])
  rw [hR.out]
  rw [he] at KSP
  clear he hR
  generalize splitL s = ps at *
  have hpl : ps.length ≤ 401 := HSL.out
  go_enter Tryd.func9, Tryd.ntmps9
  go_wp2_with fail
  refine KSP.out.mono ?_
  rintro e w1 ⟨v, rfl, hown, hb1⟩
  obtain ⟨A, c, rfl, hrd, hnc, _⟩ := OwnS.form hown
  have HRD := Lib.hid hrd
  have HB1 := Lib.hid hb1
  clear hrd hown hb1 KSP
  go_wp2
  go_loopw [5, 17] (fun v i wr => ∃ k : Nat, k ≤ ps.length ∧ i = .int .i64 k ∧ OwnS wr w1.heap.size v (cleanF (ps.take k)) ∧ Below w1.heap.size w1 wr) (fun _ i _ => ps.length - (intOf i).toNat)
  case atStart => exact ⟨0, Nat.zero_le _, rfl, OwnS.nil _ _, Below.refl _ _⟩
  case round =>
    obtain ⟨k, hk, rfl, hown, hbw⟩ := hrel
    obtain ⟨A2, c2, rfl, hrd2, hnc2, _⟩ := OwnS.form hown
    have HO := Lib.hid hown
    have HB := Lib.hid hbw
    have HRD2 := Lib.hid hrd2
    clear hown hbw hrd2
    have hql : (cleanF (ps.take k)).length ≤ 401 := by
      have h1 := cleanF_len (ps.take k) []
      unfold cleanF
      rw [List.length_take] at h1
      simp at h1; omega
    by_cases hlt : k < ps.length
    · obtain ⟨b, off, hA, hbl, hcs⟩ : ∃ b o, A = some ⟨b, o, none⟩ ∧ b < w1.heap.size ∧ ∀ j x, ps[j]? = some x → w1.cell? ⟨b, o + j, none⟩ = some (.string x) := by
        rcases HRD.out with h | h
        · rw [h] at hlt; simp at hlt
        · exact h
      subst hA
      obtain ⟨x, hx⟩ : ∃ x, ps[k]? = some x := ⟨ps[k], List.getElem?_eq_getElem hlt⟩
      have hcq := (HB.out.cell (p := ⟨b, off + k, none⟩) hbl).trans (hcs k x hx)
      have HF := Lib.hid (cleanF_take ps k x hx)
      have e1 : IntKind.i64.wrap ((k : Int) + 1) = (k : Int) + 1 := IntWalk.i64_in _ (by omega)
      clear hcs hx
      by_cases hx2 : x.toList = [46, 46]
      · rw [show cleanS (cleanF (ps.take k)) x = (cleanF (ps.take k)).dropLast by unfold cleanS; rw [if_pos hx2]] at HF
        have HF2 := Lib.hid HF.out
        clear HF
        by_cases hq : 0 < (cleanF (ps.take k)).length
        · have HO2 := Lib.hid (OwnS.pop HO.out hq)
          rw [← HF2.out] at HO2
          clear HF2 HO
          generalize (cleanF (ps.take k)).length = n at *
          have e2 : IntKind.i64.wrap ((n : Int) - 1) = (n : Int) - 1 := IntWalk.i64_in _ (by omega)
          have e3 : ((n : Int) - 1).toNat = n - 1 := by omega
          have e4 : (0 : Int) < n := by omega
          go_wp2
          go_roundw
          case rel => exact ⟨k + 1, by omega, by go_num, HO2.out, HB.out⟩
          case measure => simp [intOf]; omega
        · have hq0 : cleanF (ps.take k) = [] := List.eq_nil_of_length_eq_zero (by omega)
          rw [hq0] at HF2
          rw [hq0] at HO
          have HO2 := Lib.hid (show OwnS wr w1.heap.size (.slice A2 ([] : List ByteArray).length c2) (cleanF (ps.take (k + 1))) by rw [HF2.out]; exact HO.out)
          rw [hq0]
          rw [hq0] at hq
          clear HF2 HO
          go_wp2
          go_roundw
          case rel => exact ⟨k + 1, by omega, by go_num, HO2.out, HB.out⟩
          case measure => simp [intOf]; omega
      · rw [show cleanS (cleanF (ps.take k)) x = cleanF (ps.take k) ++ [x] by unfold cleanS; rw [if_neg hx2]] at HF
        have hx2b : (x.toList == [46, 46]) = false := beq_eq_false_iff_ne.2 hx2
        go_wp2_with (at_builtin; refine wpList_append_own _ rfl _ _ 24 rfl w1.heap.size 9 i0 (.string ByteArray.empty) 1 16 Tryd.underlying24 hi hz0 hz1 hz2 rfl (by decide) _ _ _ rfl (World.ownsRow.alloc HO.out _) ⟨wr.heap.size, 0, none⟩ 1 1 [.string x] rfl rfl ?c1 ?c2 ?c3 ?c4 ?c5 ?_)
        case c1 =>
          intro j u hj
          match j, hj with
          | 0, hj => simp at hj; subst hj; simp [Addr.add]
        case c2 => intro u hu; simp at hu; subst hu; rfl
        case c3 => unfold maxLen; omega
        case c4 => omega
        case c5 => have := HB.out.size; simp; omega
        intro v' w2 hown' hgrow _
        have HO2 := Lib.hid (show OwnS w2 w1.heap.size v' (cleanF (ps.take (k + 1))) by
          rw [HF.out]; unfold OwnS; rw [List.length_append, List.map_append]; exact hown')
        have HB2 := Lib.hid ((HB.out.alloc (by have := HB.out.size; omega) (.cells #[.string x] 9)).grown hgrow (by have := HB.out.size; simp; omega) (fun k hk => (HO.out.lt k hk).1))
        clear hown' hgrow HO HB
        go_wp2
        go_roundw
        case rel => exact ⟨k + 1, by omega, by go_num, HO2.out, HB2.out⟩
        case measure => simp [intOf]; omega
    · obtain rfl : k = ps.length := by omega
      rw [List.take_length] at HO HRD2 hql hnc2 ⊢
      have HBX := Lib.hid (HB1.out.trans (HB.out.mono HB1.out.size))
      by_cases hq : cleanF ps = []
      · have HQ := Lib.hid hq
        rw [hq]
        clear HO HRD2 HCB hq
        go_wp2
        go_ret
        exact ⟨rfl, HBX.out⟩
      · have HQ := Lib.hid hq
        have hq0 : 0 < (cleanF ps).length := Nat.pos_of_ne_zero (fun h => hq (List.eq_nil_of_length_eq_zero h))
        have KJ := Lib.hid (pJoin_any A2 (cleanF ps) c2 wr HRD2.out (by omega) (by have := HCB.out.2; omega))
        clear HO HRD2 HCB hq
        generalize (cleanF ps).length = n at *
        have e4 : ¬ (n : Int) = 0 := by omega
        have e5 : ((n : Int) == 0) = false := by simp; omega
        go_wp2_with fail
        refine KJ.out.mono ?_
        rintro e w3 ⟨rfl, hb3⟩
        have HB3 := Lib.hid (HBX.out.trans (hb3.mono HBX.out.size))
        clear hb3
        go_wp2
        go_ret
        exact ⟨rfl, HB3.out⟩
end Go.Proofs.YtfdngdnnjmcigaaDoor
