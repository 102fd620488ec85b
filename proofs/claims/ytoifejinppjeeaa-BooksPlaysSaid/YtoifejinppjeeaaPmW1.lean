/- The walks of package pmem that only look: Lines, Off, On, Count, has, none, Load. Conditions: those of MemAt. -/
import Derived.Test.YtoifejinppjeeaaPm
import Derived.Test.YtoifejinppjeeaaRegion2
namespace Go.Proofs.Ytoifejinppjeeaa
open Go.RowKit
set_option linter.unusedVariables false
set_option linter.unusedSimpArgs false
theorem has_yes {a : AM} {z : Int} (h : a.has z = true) : 0 ≤ z ∧ z < 8 * (a.ls.length : Int) := of_decide_eq_true h
theorem has_no {a : AM} {z : Int} (h : a.has z = false) : z < 0 ∨ 8 * (a.ls.length : Int) ≤ z := by
  have := of_decide_eq_false h
  omega
section
variable {w : World} {m : Nat} {own : Nat → Nat} {G : MG} {a : AM}
theorem mLines_any (h : MemAt w m own G a) : Calls Try.prog 25 #[.pointer (some ⟨m, 0, none⟩)] w fun e w' => e = .returned (.int .i64 (a.ls.length : Int)) ∧ w = w' := by
  obtain ⟨K, kc, c0, _⟩ := h.cells
  have HL := Lib.hid h.len
  clear h
  go_enter Try.func25, Try.ntmps25
  go_wp2
  go_ret
  exact ⟨ret_int (by rw [HL.out]), rfl⟩
theorem mOff_any (h : MemAt w m own G a) : Calls Try.prog 34 #[.pointer (some ⟨m, 0, none⟩)] w fun e w' => e = .returned (.bool a.off) ∧ w = w' := by
  obtain ⟨K, kc, _, c1, _⟩ := h.cells
  clear h
  go_enter Try.func34, Try.ntmps34
  go_wp2
  go_ret
  exact ⟨rfl, rfl⟩
theorem mOn_any (h : MemAt w m own G a) : Calls Try.prog 32 #[.pointer (some ⟨m, 0, none⟩)] w fun e w' => e = .returned (.tuple #[]) ∧ ∃ own', MemAt w' m own' G a.on ∧ MFr w w' own own' := by
  obtain ⟨K, kc, _, c1, _⟩ := h.cells
  have f1 := h.fz 1
  have HM := Lib.hid (h.setOff false)
  have HF := Lib.hid (reM_fr h (i := 1) (v := .bool false))
  clear h
  go_enter Try.func32, Try.ntmps32
  go_wp2
  go_end0
  exact ⟨rfl, own, HM.out, HF.out⟩
theorem mCount_any (h : MemAt w m own G a) : Calls Try.prog 38 #[.pointer (some ⟨m, 0, none⟩)] w fun e w' => e = .returned (.tuple #[.int .i64 a.n1, .int .i64 a.n2, .int .i64 a.n3]) ∧ Drawn w w' := by
  obtain ⟨K, kc, _, _, _, _, c4, c5, c6, _⟩ := h.cells
  clear h
  go_enter Try.func38, Try.ntmps38
  go_wp2
  go_quiet (fail)
  go_wp2
  refine bodyPost_ret (v := .tuple #[.int .i64 a.n1, .int .i64 a.n2, .int .i64 a.n3]) ?_ rfl ⟨rfl, Drawn.some_ _ _⟩
  unfold results
  rw [show Try.f38.results = #[.tmp 2, .tmp 3, .tmp 4] from rfl]
  go_simp
theorem mHas_any (h : MemAt w m own G a) (z : Int) : Calls Try.prog 72 #[.pointer (some ⟨m, 0, none⟩), .int .i64 z] w fun e w' => e = .returned (.bool (a.has z)) ∧ w = w' := by
  obtain ⟨K, kc, c0, _⟩ := h.cells
  have hl := h.len
  have hf := h.few
  have HH := Lib.hid (show a.has z = decide (0 ≤ z ∧ z < 8 * (G.xs.length : Int)) by unfold AM.has; rw [h.len])
  have e1 : IntKind.i64.wrap (8 * (G.xs.length : Int)) = 8 * (G.xs.length : Int) := IntWalk.i64_in _ (by omega)
  clear h hl hf
  by_cases h0 : 0 ≤ z
  · by_cases h1 : z < 8 * (G.xs.length : Int)
    · go_enter Try.func72, Try.ntmps72
      go_wp2
      go_ret
      exact ⟨ret_bool (by rw [HH.out, decide_eq_true ⟨h0, h1⟩]), rfl⟩
    · go_enter Try.func72, Try.ntmps72
      go_wp2
      go_ret
      exact ⟨ret_bool (by rw [HH.out, decide_eq_false (by omega)]), rfl⟩
  · go_enter Try.func72, Try.ntmps72
    go_wp2
    go_ret
    exact ⟨ret_bool (by rw [HH.out, decide_eq_false (by omega)]), rfl⟩
theorem mNone_any (h : MemAt w m own G a) (z : Int) : Calls Try.prog 76 #[.pointer (some ⟨m, 0, none⟩), .int .i64 z] w fun e w' => e = .returned (.bool (a.none z)) ∧ w = w' := by
  obtain ⟨K, kc, c0, _⟩ := h.cells
  have HH := Lib.hid (show a.none z = decide (z < 0 ∨ (G.xs.length : Int) ≤ z) by unfold AM.none; rw [h.len])
  clear h
  by_cases h0 : z < 0
  · go_enter Try.func76, Try.ntmps76
    go_wp2
    go_ret
    exact ⟨ret_bool (by rw [HH.out, decide_eq_true (.inl h0)]), rfl⟩
  · by_cases h1 : (G.xs.length : Int) ≤ z
    · go_enter Try.func76, Try.ntmps76
      go_wp2
      go_ret
      exact ⟨ret_bool (by rw [HH.out, decide_eq_true (.inr h1)]), rfl⟩
    · go_enter Try.func76, Try.ntmps76
      go_wp2
      go_ret
      exact ⟨ret_bool (by rw [HH.out, decide_eq_false (by omega)]), rfl⟩
/-- How many are open in each line. -/
def AM.room (a : AM) (n : Nat) : Prop := ∀ l ∈ a.ls, l.os.length ≤ n
theorem room_ln {a : AM} {n i : Nat} (h : a.room n) (hi : i < a.ls.length) : (a.ln i).os.length ≤ n := by
  have e2 : a.ln i = a.ls[i] := by unfold AM.ln; rw [List.getD_eq_getElem?_getD, List.getElem?_eq_getElem hi]; rfl
  rw [e2]
  exact h _ (List.getElem_mem hi)
set_option maxRecDepth 100000 in
theorem mLoad_any (h : MemAt w m own G a) (z : Int) (hr : a.room 1000) : Calls Try.prog 37 #[.pointer (some ⟨m, 0, none⟩), .int .i64 z] w fun e w' => e = .returned (.tuple #[U (a.load z).1, .int .i64 (a.load z).2]) ∧ Below w.heap.size w w' := by
  obtain ⟨K, kc, c0, c1, _⟩ := h.cells
  cases ho : a.off with
  | true =>
    have HR := Lib.hid (show a.load z = (0#64, 14) by unfold AM.load; rw [if_pos ho])
    rw [ho] at c1
    clear h ho
    go_enter Try.func37, Try.ntmps37
    go_wp2
    refine bodyPost_ret (v := .tuple #[U 0#64, .int .i64 14]) ?_ rfl ⟨by rw [HR.out], Below.refl _ _⟩
    unfold results
    rw [show Try.f37.results = #[.tmp 4, .tmp 5] from rfl]
    go_simp
    try rfl
  | false =>
    have KH := Lib.hid (mHas_any h z)
    rw [ho] at c1
    cases hh : a.has z with
    | false =>
      have HR := Lib.hid (show a.load z = (0#64, 1) by unfold AM.load; rw [if_neg (by rw [ho]; exact Bool.false_ne_true), if_pos hh])
      rw [hh] at KH
      clear h ho hh
      go_enter Try.func37, Try.ntmps37
      go_wp2_with fail
      refine KH.out.mono ?_
      rintro e w' ⟨rfl, rfl⟩
      go_wp2
      refine bodyPost_ret (v := .tuple #[U 0#64, .int .i64 1]) ?_ rfl ⟨by rw [HR.out], Below.refl _ _⟩
      unfold results
      rw [show Try.f37.results = #[.tmp 4, .tmp 5] from rfl]
      go_simp
      try rfl
    | true =>
      have HR := Lib.hid (show a.load z = (a.at_ z, 0) by unfold AM.load; rw [if_neg (by rw [ho]; exact Bool.false_ne_true), if_neg (by rw [hh]; exact fun h => by cases h)])
      rw [hh] at KH
      obtain ⟨hz0, hz1⟩ := has_yes hh
      have hf := h.few
      obtain ⟨i, hi⟩ : ∃ i : Nat, z / 8 = (i : Int) := ⟨(z / 8).toNat, by omega⟩
      obtain ⟨j, hj⟩ : ∃ j : Nat, z % 8 = (j : Int) := ⟨(z % 8).toNat, by omega⟩
      have hil : i < a.ls.length := by omega
      obtain ⟨b, off, x, hA, hx, hc, hln⟩ := h.at_ hil
      obtain ⟨hok, _, B, d, hat, _⟩ := hln
      have KL := Lib.hid (lLoad_any x _ _ B d _ (j : Int) w hat (room_ln hr hil))
      have HV := Lib.hid (show a.at_ z = newest (a.ln i).ss (a.ln i).os (j : Int) by unfold AM.at_; rw [hi, hj, Int.toNat_natCast]; rfl)
      have hlx : i < G.xs.length := h.xlen hil
      obtain ⟨A9, hA9⟩ : ∃ A9, A9 = G.A := ⟨_, rfl⟩
      rw [hA] at c0
      have HI := Lib.hid hi
      have HJ := Lib.hid hj
      have e1 : IntKind.i64.wrap (z.tdiv 8) = (i : Int) := by rw [Int.tdiv_eq_ediv_of_nonneg hz0, hi]; exact IntWalk.i64_in _ (by omega)
      have e2 : IntKind.i64.wrap (z.tmod 8) = (j : Int) := by rw [Int.tmod_eq_emod_of_nonneg hz0, hj]; exact IntWalk.i64_in _ (by omega)
      have hlx' : (i : Int) < (G.xs.length : Int) := by omega
      clear h ho hh hA hx hok hat hA9 hf hr hil
      generalize newest (a.ln i).ss (a.ln i).os (j : Int) = v at *
      go_enter Try.func37, Try.ntmps37
      go_wp2_with fail
      refine KH.out.mono ?_
      rintro e w' ⟨rfl, rfl⟩
      go_wp2_with fail
      refine KL.out.mono ?_
      rintro e w' ⟨rfl, hb⟩
      have HB := Lib.hid hb
      clear hb
      go_wp2
      refine bodyPost_ret (v := .tuple #[U v, .int .i64 0]) ?_ rfl ⟨by rw [HR.out, HV.out], HB.out⟩
      unfold results
      rw [show Try.f37.results = #[.tmp 4, .tmp 5] from rfl]
      go_simp
      try rfl
end
end Go.Proofs.Ytoifejinppjeeaa
