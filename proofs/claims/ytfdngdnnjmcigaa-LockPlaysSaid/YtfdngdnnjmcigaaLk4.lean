/- The walks of New, May, Take, Give, Holds. Conditions: the table stands; the slices can be read. -/
import Derived.Test.YtfdngdnnjmcigaaLk3
import Derived.Test.YtfdngdnnjmcigaaRegion2
namespace Go.Proofs.Ytfdngdnnjmcigaa
open Go.RowKit Go.Maps
set_option linter.unusedVariables false
set_option linter.unusedSimpArgs false
def upd (T : Int → Sl) (who : Int) (s : Sl) : Int → Sl := fun z => if z = who then s else T z
theorem upd_self (T : Int → Sl) (who : Int) (s : Sl) : upd T who s who = s := if_pos rfl
theorem upd_ne (T : Int → Sl) {who z : Int} (s : Sl) (h : z ≠ who) : upd T who s z = T z := if_neg h
theorem cell_map {w : World} {b : Nat} {es : Array MapEntry} {clock : Nat} (h : w.heap[b]? = some (.map es clock)) (i : Nat) : w.cell? ⟨b, i, none⟩ = none := by simp [World.cell?, h]
theorem RdL.turn {w w' : World} {A : Option Addr} {ws : List Wt} {b n : Nat} {D : DataW Value} (h : RdL w A ws) (ho : w.ownsMap Try.prog 3 RH b n D) (hg : w.grownBy w' (some b)) : RdL w' A ws := by
  obtain ⟨es, clock, hm, _⟩ := ho
  rcases h with h | ⟨q, off, hA, hc⟩
  · exact .inl h
  · refine .inr ⟨q, off, hA, fun k hk => ?_⟩
    obtain ⟨h1, h2⟩ := hc k hk
    have hne : q ≠ b := by
      rintro rfl
      rw [cell_map hm] at h1
      cases h1
    have hb : w'.heap[q]? = w.heap[q]? := hg.block q (cell_lt h1) (fun e => hne (by injection e))
    exact ⟨(World.cell?_of_block hb).trans h1, (World.cell?_of_block hb).trans h2⟩
theorem flatW_len : ∀ ws : List Wt, (ws.flatMap encW).length = ws.length * 2
  | [] => rfl
  | x :: ws => by
    rw [List.flatMap_cons, List.length_append, flatW_len ws, List.length_cons]
    show 2 + _ = _
    omega
theorem flatW_at : ∀ (ws : List Wt) (i : Nat) (h : i < ws.length), (ws.flatMap encW)[i * 2]? = some (.int .i64 ws[i].1) ∧ (ws.flatMap encW)[i * 2 + 1]? = some (.bool ws[i].2)
  | [], i, h => by simp at h
  | x :: ws, 0, h => by simp [encW]
  | x :: ws, i + 1, h => by
    have h5 : (encW x).length = 2 := rfl
    obtain ⟨h1, h2⟩ := flatW_at ws i (by simpa using h)
    rw [List.flatMap_cons, List.getElem?_append_right (by rw [h5]; omega), List.getElem?_append_right (by rw [h5]; omega), h5]
    have e1 : (i + 1) * 2 - 2 = i * 2 := by omega
    have e2 : (i + 1) * 2 + 1 - 2 = i * 2 + 1 := by omega
    rw [e1, e2]
    exact ⟨h1, h2⟩
theorem flatW_one (ws : List Wt) : ∀ u ∈ ws.flatMap encW, u.oneCell' = true := by
  intro u hu
  obtain ⟨x, _, hx⟩ := List.mem_flatMap.1 hu
  simp [encW] at hx
  rcases hx with rfl | rfl <;> rfl
theorem flatW_cells {w : World} {b off : Nat} {ws : List Wt} (h : ∀ k, (h : k < ws.length) → w.cell? ⟨b, off + k * 2, none⟩ = some (.int .i64 ws[k].1) ∧ w.cell? ⟨b, off + k * 2 + 1, none⟩ = some (.bool ws[k].2)) : ∀ j u, (ws.flatMap encW)[j]? = some u → w.cell? ⟨b, off + j, none⟩ = some u := by
  intro j u hj
  have hl : j < ws.length * 2 := by
    rcases Nat.lt_or_ge j (ws.flatMap encW).length with h1 | h1
    · rw [flatW_len] at h1; exact h1
    · rw [List.getElem?_eq_none h1] at hj; cases hj
  have hi : j / 2 < ws.length := by omega
  obtain ⟨g0, g1⟩ := flatW_at ws (j / 2) hi
  obtain ⟨r0, r1⟩ := h (j / 2) hi
  have hc : j = j / 2 * 2 ∨ j = j / 2 * 2 + 1 := by omega
  rcases hc with e | e
  · rw [e] at hj ⊢; rw [g0] at hj; rw [← hj]; exact r0
  · rw [e] at hj ⊢; rw [g1] at hj; rw [← hj]; exact r1
theorem rdL_of_own {w : World} {base n c : Nat} {A : Option Addr} {ws : List Wt} (hn : n = ws.length) (h : w.ownsRow base 28 2 (.slice A n c) n (ws.flatMap encW)) : RdL w A ws := by
  rcases h.2 with ⟨hv, h0⟩ | ⟨g, cap, cur, hv, hg, hh, hnc, hcm, hcs, ht⟩
  · left; exact List.eq_nil_of_length_eq_zero (by omega)
  · injection hv with h1 h2 h3
    subst h1
    refine .inr ⟨g, 0, rfl, fun k hk => ?_⟩
    obtain ⟨g0, g1⟩ := flatW_at ws k hk
    have key : ∀ j u, (ws.flatMap encW)[j]? = some u → w.cell? ⟨g, 0 + j, none⟩ = some u := fun j u hj => by
      have hl : j < ws.length * 2 := by
        rcases Nat.lt_or_ge j (ws.flatMap encW).length with h1 | h1
        · rw [flatW_len] at h1; exact h1
        · rw [List.getElem?_eq_none h1] at hj; cases hj
      rw [cell_of_row w g (0 + j) cur _ (0, 0) hh, Nat.zero_add, ← hj, ← ht, List.getElem?_take_of_lt (by omega)]
      simp
    have k1 := key _ _ g1
    rw [← Nat.add_assoc] at k1
    exact ⟨key _ _ g0, k1⟩
theorem infoWant : (Try.prog.info? 28).map (fun i => (i.zero, i.size, i.bytes)) = some (some (.agg #[.int .i64 0, .bool false]), 2, 16) := by kernel_rfl
theorem clone_any (ws : List Wt) (A : Option Addr) (c : Nat) (w : World) (hr : RdL w A ws) (hn : ws.length ≤ 1000000) (h0 : ws ≠ []) :
    Calls Try.prog 14 #[.slice A ws.length c] w fun e w' => (∃ B d, e = .returned (.slice B ws.length d) ∧ RdL w' B ws ∧ ∀ q, blk B = some q → w.heap.size ≤ q) ∧ Below w.heap.size w w' := by
  obtain ⟨b, off, rfl, hc⟩ := hr.at_ (k := 0) (List.length_pos_iff.2 h0)
  obtain ⟨i0, hi, hz0, hz1, hz2⟩ := info_parts infoWant
  have h := AnyE.slices_Clone Try.cloneWant i0 _ 2 16 hi hz0 hz1 hz2 rfl (by omega) Try.sizeOf28 b off ws.length c (ws.flatMap encW) w (flatW_len ws) (by unfold maxLen; omega) (by omega) (flatW_cells hc) (flatW_one ws)
  refine Calls.mono (show Calls Try.prog 14 _ _ _ from h) ?_
  rintro e w' ⟨v, rfl, hown, hnn, hb⟩
  rcases hown.2 with ⟨hv, h1⟩ | ⟨g, cap, cur, hv, hg, rest⟩
  · exact absurd (List.eq_nil_of_length_eq_zero h1) h0
  · subst hv
    exact ⟨⟨some ⟨g, 0, none⟩, cap, rfl, rdL_of_own rfl hown, fun q hq => by cases hq; exact hg⟩, hb⟩
theorem cloneNil_any (c n : Nat) (w : World) : Calls Try.prog 14 #[.slice none n c] w fun e w' => e = .returned (.slice none 0 0) ∧ w' = w :=
  AnyE.slices_Clone_nil Try.cloneWant n c w
/-- No one holds a row of none that is not nil. -/
def NilT (T : Int → Sl) : Prop := ∀ z, In64 z → (T z).2.1 = [] → T z = nilSl
theorem NilT.upd {T : Int → Sl} (h : NilT T) {who : Int} {s : Sl} (hs : s.2.1 = [] → s = nilSl) : NilT (upd T who s) := fun z hz h0 => by
  by_cases e : z = who
  · subst e
    rw [upd_self] at h0 ⊢
    exact hs h0
  · rw [upd_ne T s e] at h0 ⊢
    exact h z hz h0
set_option maxRecDepth 100000 in
set_option maxHeartbeats 4000000 in
theorem new_any (w : World) : Calls Try.prog 7 #[] w fun e w' => ∃ x b, e = .returned (.pointer (some ⟨x, 0, none⟩)) ∧ w.heap.size ≤ b ∧ w.heap.size ≤ x ∧ LkAt w' x b 0 (fun _ => nilSl) ∧ Below w.heap.size w w' := by
  have hmm := @run_makeMap Try.prog
  go_enter Try.func7, Try.ntmps7
  go_wp2
  go_ret
  have hal := (Below.refl w.heap.size w).alloc (Nat.le_refl _) (.map #[] 0)
  have hal2 := (Below.refl (w.alloc (.map #[] 0)).heap.size (w.alloc (.map #[] 0))).alloc (Nat.le_refl _) (.cells #[.map (some w.heap.size)] 43)
  refine ⟨w.heap.size + 1, w.heap.size, by simp, Nat.le_refl _, Nat.le_succ _, ⟨?_, ?_, fun z _ => .inl rfl, fun z _ => Nat.zero_le _⟩, hal.alloc (by simp) _⟩
  · have := heap_alloc_new (w.alloc (.map #[] 0)) (.cells #[.map (some w.heap.size)] 43)
    rw [World.size_alloc] at this
    exact this
  · exact ⟨.map [], (World.ownsMap_made w Try.prog 3 RH).alloc _, fun z _ => rfl⟩
set_option maxRecDepth 100000 in
set_option maxHeartbeats 4000000 in
theorem mayF_any (T : Int → Sl) (who : Int) (ls : List Wt) (L : Option Addr) (lc : Nat) (w : World) (x b n : Nat) (h : LkAt w x b n T) (hw : In64 who) (hl : RdL w L ls) (hn : ls.length ≤ 1000000) :
    Calls Try.prog 9 #[.pointer (some ⟨x, 0, none⟩), .int .i64 who, .slice L ls.length lc] w fun e w' => e = .returned (.bool (mayV T who ls == 0)) ∧ Below w.heap.size w w' := by
  have KM := Lib.hid (may_any T who ls L lc w x b n h hw hl hn)
  clear h hl hn
  go_enter Try.func9, Try.ntmps9
  go_wp2_with fail
  refine KM.out.mono ?_
  rintro e w1 ⟨rfl, hb⟩
  have HB := Lib.hid hb
  clear hb KM
  generalize hm : mayV T who ls = m
  have HM := Lib.hid hm
  clear hm
  go_wp2
  go_ret
  exact ⟨by rw [HM.out]; rfl, HB.out⟩
set_option maxRecDepth 100000 in
set_option maxHeartbeats 4000000 in
theorem holds_any (T : Int → Sl) (who : Int) (w : World) (x b n : Nat) (h : LkAt w x b n T) (hw : In64 who) (hT : NilT T) :
    Calls Try.prog 10 #[.pointer (some ⟨x, 0, none⟩), .int .i64 who] w fun e w' => (∃ B d, e = .returned (.slice B (T who).2.1.length d) ∧ RdL w' B (T who).2.1) ∧ Below w.heap.size w w' := by
  obtain ⟨A0, ws0, c0, hs⟩ : ∃ A0 ws0 c0, T who = (A0, ws0, c0) := ⟨_, _, _, rfl⟩
  have hbox := Lib.cell_of_heap h.box 0
  have hlk : (Instr.lookup 41 (.map (some b)) (.int .i64 who) false).run Try.prog w = .ok (.slice A0 ws0.length c0) w := by
    obtain ⟨D, ho, hd⟩ := h.map
    have e := own_look hw ho (hd who hw)
    rw [hs] at e
    exact e
  have hr := h.rd who hw
  have hf := h.few who hw
  have ht := hT who hw
  rw [hs] at hr hf ht ⊢
  simp only at hr hf ht ⊢
  by_cases h0 : ws0 = []
  · subst h0
    have e := ht rfl
    unfold nilSl at e
    injection e with e1 e2
    subst e1
    have KC := Lib.hid (cloneNil_any c0 0 w)
    clear hr hf ht hs h hT
    go_enter Try.func10, Try.ntmps10
    go_wp2_with fail
    refine KC.out.mono ?_
    rintro e w1 ⟨rfl, rfl⟩
    go_wp2
    go_ret
    exact ⟨⟨none, 0, rfl, .inl rfl⟩, Below.refl _ _⟩
  · have KC := Lib.hid (clone_any ws0 A0 c0 w hr hf h0)
    clear hr hf ht hs h hT h0
    go_enter Try.func10, Try.ntmps10
    go_wp2_with fail
    refine KC.out.mono ?_
    rintro e w1 ⟨⟨B, d, rfl, hr1, _⟩, hb⟩
    have HR := Lib.hid hr1
    have HB := Lib.hid hb
    clear hr1 hb KC hlk hbox
    go_wp2
    go_ret
    exact ⟨⟨B, d, rfl, HR.out⟩, HB.out⟩
set_option maxRecDepth 100000 in
set_option maxHeartbeats 4000000 in
theorem give_any (T : Int → Sl) (who : Int) (w : World) (x b n : Nat) (h : LkAt w x b n T) (hw : In64 who) :
    Calls Try.prog 11 #[.pointer (some ⟨x, 0, none⟩), .int .i64 who] w fun e w' => e = .returned (.tuple #[]) ∧ LkAt w' x b n (upd T who nilSl) ∧ w.grownBy w' (some b) := by
  have hbox := Lib.cell_of_heap h.box 0
  obtain ⟨D, hown, hD⟩ := h.map
  have HD := Lib.hid hD
  have HT := Lib.hid h
  have HW := Lib.hid hw
  have HO := Lib.hid hown
  have hkey := keyOf_int_mk Try.underlying3 hw.wf
  clear h hD hw
  go_enter Try.func11, Try.ntmps11
  go_wp2_with (first
    | (at_delete; refine wpList_delete_own _ rfl _ _ 41 3 rfl 30 lkLaw Try.underlying41 RH b n D rfl hown _ _ rfl hkey ?_; intro w1 hown1 hturn1)
    | go_in)
  have hg := hturn1.grown
  have HL := Lib.hid (show LkAt w1 x b n (upd T who nilSl) from by
    have hown := HO.out
    obtain ⟨es, clock, hm, _⟩ := HO.out
    refine ⟨?_, ⟨_, hown1, fun z hz => ?_⟩, fun z hz => ?_, fun z hz => ?_⟩
    · refine (hg.block x (heap_lt HT.out.box) (fun e => ?_)).trans HT.out.box
      injection e with e
      subst e
      rw [HT.out.box] at hm
      cases hm
    · by_cases e : z = who
      · subst e
        rw [upd_self, atKey_del_same]
        rfl
      · rw [upd_ne T _ e, atKey_del_other (fun h => e (by injection h))]
        exact HD.out z hz
    · by_cases e : z = who
      · subst e
        rw [upd_self]
        exact .inl rfl
      · rw [upd_ne T _ e]
        exact (HT.out.rd z hz).turn hown hg
    · by_cases e : z = who
      · subst e
        rw [upd_self]
        exact Nat.zero_le _
      · rw [upd_ne T _ e]
        exact HT.out.few z hz)
  have HG := Lib.hid hg
  clear hown1 hturn1 hg
  go_wp2
  go_end0
  exact ⟨rfl, HL.out, HG.out⟩
end Go.Proofs.Ytfdngdnnjmcigaa
