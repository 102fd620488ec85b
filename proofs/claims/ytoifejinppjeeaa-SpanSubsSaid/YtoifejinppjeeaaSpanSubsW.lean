/- The walk of the statement SpanSubs. Condition: the numbers are ints. -/
import Derived.Test.YtoifejinppjeeaaSpan
import Derived.Test.YtoifejinppjeeaaEngQ
import Derived.KernelRfl
namespace Go.Proofs.Ytoifejinppjeeaa
open Go.RowKit
set_option linter.unusedVariables false
set_option linter.unusedSimpArgs false
theorem spanAwake_any (w : World) : Calls Try.prog 19 #[] w fun e w' => e = .returned (.bool true) ∧ Below w.heap.size w w' :=
  Eng.isTrue_ok (by kernel_rfl) (by kernel_rfl) (lf := 5000) (d := 200) (by kernel_rfl) w
theorem newA_len (N : Nat) : (newA N).ls.length = N := fromL_len _ _
theorem newA_room (N : Nat) : (newA N).room 1000 := fun l hl => by
  have : l ∈ fromL (List.replicate (8 * N) 0#64) N := hl
  unfold fromL at this
  rw [List.mem_map] at this
  obtain ⟨i, _, rfl⟩ := this
  exact Nat.zero_le _
theorem newA_fit (N : Nat) : (newA N).fit := ⟨by simp [newA, fromA], by simp [newA, fromA], by simp [newA, fromA], by simp [newA, fromA]⟩
/-- With no fuse laid, in power, at a place that there is: a store is done; it is what is loaded. -/
theorem store_ok {a : AM} {z : Int} {v : BitVec 64} (ho : a.off = false) (hf : a.fuse = 0) (hh : a.has z = true) : a.store z v = (a.store1 z v, 0) := by
  have hb : a.burn = (a, true) := by unfold AM.burn; rw [if_neg (by omega)]
  unfold AM.store
  rw [if_neg (by rw [ho]; exact Bool.false_ne_true), if_neg (by rw [hh]; exact fun h => by cases h), hb, if_neg (fun h => by cases h)]
theorem ldV_snoc (v0 : BitVec 64) (z : Int) (os : List St) (s : St) : ldV v0 z (os ++ [s]) = if s.1 = z then s.2 else ldV v0 z os := by unfold ldV; rw [List.foldl_append]; rfl
theorem set_ln {a : AM} {i : Nat} {l : Ln} {ls : List Ln} (h : ls = a.ls.set i l) (hi : i < a.ls.length) (j : Nat) : ({ a with ls := ls } : AM).ln j = if i = j then l else a.ln j := by
  subst h
  unfold AM.ln
  simp only [List.getD_eq_getElem?_getD, List.getElem?_set]
  split
  · simp [hi]
  · rfl
theorem store1_len (a : AM) (z : Int) (v : BitVec 64) : (a.store1 z v).ls.length = a.ls.length := by unfold AM.store1; simp
theorem store1_ln {a : AM} {z : Int} {v : BitVec 64} (hh : a.has z = true) (j : Nat) : (a.store1 z v).ln j = if (z / 8).toNat = j then (a.ln (z / 8).toNat).store (z % 8) v else a.ln j := by
  have := has_yes hh
  have e : (a.store1 z v).ln j = ({ a with ls := a.ls.set (z / 8).toNat ((a.ln (z / 8).toNat).store (z % 8) v) } : AM).ln j := rfl
  rw [e, set_ln rfl (by omega)]
/-- What is loaded behind a store. -/
theorem store1_at {a : AM} {z y : Int} {v : BitVec 64} (hh : a.has z = true) (hy : 0 ≤ y) : (a.store1 z v).at_ y = if z = y then v else a.at_ y := by
  have h0 := has_yes hh
  unfold AM.at_
  rw [store1_ln hh]
  by_cases h : (z / 8).toNat = (y / 8).toNat
  · rw [if_pos h, h]
    show newest _ (_ ++ [(z % 8, v)]) _ = _
    unfold newest Ln.at_ newest
    rw [if_pos (by omega)]
    rw [ldV_snoc]
    by_cases h2 : z = y
    · subst h2; rw [if_pos rfl, if_pos rfl]
    · rw [if_neg (by simp only; omega), if_neg h2, if_pos (by omega)]
      rfl
  · rw [if_neg h, if_neg (by rintro rfl; exact h rfl)]
theorem store1_room {a : AM} {n : Nat} (h : a.room n) (z : Int) (v : BitVec 64) : (a.store1 z v).room (n + 1) := by
  intro l hl
  unfold AM.store1 at hl
  rcases List.mem_or_eq_of_mem_set hl with h1 | h1
  · have := h l h1; omega
  · subst h1
    show (_ ++ [_]).length ≤ _
    rw [List.length_append]
    have : (a.ln (z / 8).toNat).os.length ≤ n := by
      unfold AM.ln
      rw [List.getD_eq_getElem?_getD]
      cases e : a.ls[(z / 8).toNat]? with
      | none => exact Nat.zero_le _
      | some l0 => exact h l0 (List.mem_of_getElem? e)
    simp; omega
theorem room_mono {a : AM} {n k : Nat} (h : a.room n) (hk : n ≤ k) : a.room k := fun l hl => Nat.le_trans (h l hl) hk
theorem newA_room0 (N : Nat) : (newA N).room 0 := fun l hl => by
  have : l ∈ fromL (List.replicate (8 * N) 0#64) N := hl
  unfold fromL at this
  rw [List.mem_map] at this
  obtain ⟨i, _, rfl⟩ := this
  exact Nat.zero_le _
set_option maxRecDepth 100000 in
set_option maxHeartbeats 8000000 in
theorem SpanSubs_walk (f n z k : Int) (v : BitVec 64) (w : World) (hf0 : -9223372036854775808 ≤ f) (hf1 : f ≤ 9223372036854775807) (hn0 : -9223372036854775808 ≤ n) (hn1 : n ≤ 9223372036854775807) (hz0 : -9223372036854775808 ≤ z) (hz1 : z ≤ 9223372036854775807) (hk0 : -9223372036854775808 ≤ k) (hk1 : k ≤ 9223372036854775807) :
    Calls Try.prog 3 #[.int .i64 f, .int .i64 n, .int .i64 z, .int .i64 k, U v] w fun e w' => e = .returned (.bool true) ∧ Below w.heap.size w w' := by
  have KA := Lib.hid (fun W => spanAwake_any W)
  have KN := Lib.hid (fun W => show Calls Try.prog 20 #[.int .i64 20] W (fun e w' => Made W.heap.size (newA 20) e w' ∧ Below W.heap.size W w') from mNew_any 20 W (by omega) (by omega))
  have HLEN := Lib.hid (newA_len 20)
  have KO1 := Lib.hid (fun m own G W hm h => spOf_yes m own G (newA 20) f n W hm h)
  have KO2 := Lib.hid (fun m own G W hm h => spOf_no m own G (newA 20) f n W hm h)
  rw [HLEN.out] at KO1 KO2
  by_cases h1 : mayOf ((20 : Nat) : Int) f n = true
  rotate_left
  · have h1 := Bool.eq_false_iff.2 h1
    have KO := Lib.hid (fun m own G W hm => KO2.out m own G W hm h1)
    clear h1
    have HW := Lib.hid (Below.refl w.heap.size w)
    go_enter Try.func3, Try.ntmps3
    go_wp2_with fail
    refine (KA.out _).mono ?_
    rintro e w1 ⟨rfl, hb⟩
    have HW := Lib.hid (HW.out.trans (hb.mono HW.out.size))
    clear hb
    go_wp2_with fail
    refine (KN.out _).mono ?_
    rintro e w2 ⟨⟨m, own, G, rfl, hm, hlow⟩, hb⟩
    have HLOW := Lib.hid (fun k (hk : k < w.heap.size) => hlow k (Nat.lt_of_lt_of_le hk HW.out.size))
    have HW := Lib.hid (HW.out.trans (hb.mono HW.out.size))
    clear hb
    have HM := Lib.hid hm
    clear hm hlow
    go_wp2_with fail
    refine (KO.out _ _ _ _ HM.out).mono ?_
    rintro e w3 ⟨rfl, hb⟩
    have HW := Lib.hid (HW.out.trans (hb.mono HW.out.size))
    have HM := Lib.hid (HM.out.below hb)
    clear hb
    have hba : Below w3.heap.size w3 (w3.alloc (.cells #[.pointer none, .int .i64 0, .int .i64 0] 29)) := (Below.refl _ _).alloc (Nat.le_refl _) _
    have HW := Lib.hid (HW.out.trans (hba.mono HW.out.size))
    have HM := Lib.hid (HM.out.below hba)
    clear hba
    go_wp2
    go_ret
    exact ⟨rfl, HW.out⟩
  have hof := of_decide_eq_true h1
  have KO := Lib.hid (fun m own G W hm => KO1.out m own G W hm h1)
  have hfit : SpFit f n := ⟨by omega⟩
  by_cases h2 : 0 ≤ z ∧ 1 ≤ k ∧ z < n ∧ k ≤ n - z
  rotate_left
  · skip
    have KS := Lib.hid (fun m W => spSub_no m f n z k W hfit h2)
    skip
    clear h1
    by_cases hq : z < 0
    · skip
      clear h2
      have HW := Lib.hid (Below.refl w.heap.size w)
      go_enter Try.func3, Try.ntmps3
      go_wp2_with fail
      refine (KA.out _).mono ?_
      rintro e w1 ⟨rfl, hb⟩
      have HW := Lib.hid (HW.out.trans (hb.mono HW.out.size))
      clear hb
      go_wp2_with fail
      refine (KN.out _).mono ?_
      rintro e w2 ⟨⟨m, own, G, rfl, hm, hlow⟩, hb⟩
      have HLOW := Lib.hid (fun k (hk : k < w.heap.size) => hlow k (Nat.lt_of_lt_of_le hk HW.out.size))
      have HW := Lib.hid (HW.out.trans (hb.mono HW.out.size))
      clear hb
      have HM := Lib.hid hm
      clear hm hlow
      go_wp2_with fail
      refine (KO.out _ _ _ _ HM.out).mono ?_
      rintro e w3 ⟨rfl, hb⟩
      have HW := Lib.hid (HW.out.trans (hb.mono HW.out.size))
      have HM := Lib.hid (HM.out.below hb)
      clear hb
      unfold spV at *
      have HX := Lib.hid (heap_alloc_new w3 (.cells #[.pointer (some ⟨m, 0, none⟩), .int .i64 f, .int .i64 n] 29))
      have HXz := Lib.hid (HM.out.fresh _ (Nat.le_refl _))
      have hba : Below w3.heap.size w3 (w3.alloc (.cells #[.pointer (some ⟨m, 0, none⟩), .int .i64 f, .int .i64 n] 29)) := (Below.refl _ _).alloc (Nat.le_refl _) _
      have HW := Lib.hid (HW.out.trans (hba.mono HW.out.size))
      have HM := Lib.hid (HM.out.below hba)
      clear hba
      have c0 := Lib.cell_of_heap HX.out 0
      have c1 := Lib.cell_of_heap HX.out 1
      have c2 := Lib.cell_of_heap HX.out 2
      go_wp2_with fail
      refine (KS.out m _).mono ?_
      rintro e w4 ⟨rfl, hb⟩
      have HW := Lib.hid (HW.out.trans (hb.mono HW.out.size))
      have HM := Lib.hid (HM.out.below hb)
      have HX := Lib.hid (heap_below HX.out hb)
      clear hb
      have hba : Below w4.heap.size w4 (w4.alloc (.cells #[.pointer none, .int .i64 0, .int .i64 0] 29)) := (Below.refl _ _).alloc (Nat.le_refl _) _
      have HW := Lib.hid (HW.out.trans (hba.mono HW.out.size))
      have HM := Lib.hid (HM.out.below hba)
      have HX := Lib.hid (heap_below HX.out hba)
      clear hba
      go_wp2
      go_ret
      exact ⟨rfl, HW.out⟩
    by_cases hq : n ≤ z
    · skip
      have g0 : 0 ≤ z := by omega
      clear h2
      have HW := Lib.hid (Below.refl w.heap.size w)
      go_enter Try.func3, Try.ntmps3
      go_wp2_with fail
      refine (KA.out _).mono ?_
      rintro e w1 ⟨rfl, hb⟩
      have HW := Lib.hid (HW.out.trans (hb.mono HW.out.size))
      clear hb
      go_wp2_with fail
      refine (KN.out _).mono ?_
      rintro e w2 ⟨⟨m, own, G, rfl, hm, hlow⟩, hb⟩
      have HLOW := Lib.hid (fun k (hk : k < w.heap.size) => hlow k (Nat.lt_of_lt_of_le hk HW.out.size))
      have HW := Lib.hid (HW.out.trans (hb.mono HW.out.size))
      clear hb
      have HM := Lib.hid hm
      clear hm hlow
      go_wp2_with fail
      refine (KO.out _ _ _ _ HM.out).mono ?_
      rintro e w3 ⟨rfl, hb⟩
      have HW := Lib.hid (HW.out.trans (hb.mono HW.out.size))
      have HM := Lib.hid (HM.out.below hb)
      clear hb
      unfold spV at *
      have HX := Lib.hid (heap_alloc_new w3 (.cells #[.pointer (some ⟨m, 0, none⟩), .int .i64 f, .int .i64 n] 29))
      have HXz := Lib.hid (HM.out.fresh _ (Nat.le_refl _))
      have hba : Below w3.heap.size w3 (w3.alloc (.cells #[.pointer (some ⟨m, 0, none⟩), .int .i64 f, .int .i64 n] 29)) := (Below.refl _ _).alloc (Nat.le_refl _) _
      have HW := Lib.hid (HW.out.trans (hba.mono HW.out.size))
      have HM := Lib.hid (HM.out.below hba)
      clear hba
      have c0 := Lib.cell_of_heap HX.out 0
      have c1 := Lib.cell_of_heap HX.out 1
      have c2 := Lib.cell_of_heap HX.out 2
      go_wp2_with fail
      refine (KS.out m _).mono ?_
      rintro e w4 ⟨rfl, hb⟩
      have HW := Lib.hid (HW.out.trans (hb.mono HW.out.size))
      have HM := Lib.hid (HM.out.below hb)
      have HX := Lib.hid (heap_below HX.out hb)
      clear hb
      have hba : Below w4.heap.size w4 (w4.alloc (.cells #[.pointer none, .int .i64 0, .int .i64 0] 29)) := (Below.refl _ _).alloc (Nat.le_refl _) _
      have HW := Lib.hid (HW.out.trans (hba.mono HW.out.size))
      have HM := Lib.hid (HM.out.below hba)
      have HX := Lib.hid (heap_below HX.out hba)
      clear hba
      go_wp2
      go_ret
      exact ⟨rfl, HW.out⟩
    by_cases hq : k < 1
    · skip
      have g0 : 0 ≤ z := by omega
      have g1 : z < n := by omega
      clear h2
      have HW := Lib.hid (Below.refl w.heap.size w)
      go_enter Try.func3, Try.ntmps3
      go_wp2_with fail
      refine (KA.out _).mono ?_
      rintro e w1 ⟨rfl, hb⟩
      have HW := Lib.hid (HW.out.trans (hb.mono HW.out.size))
      clear hb
      go_wp2_with fail
      refine (KN.out _).mono ?_
      rintro e w2 ⟨⟨m, own, G, rfl, hm, hlow⟩, hb⟩
      have HLOW := Lib.hid (fun k (hk : k < w.heap.size) => hlow k (Nat.lt_of_lt_of_le hk HW.out.size))
      have HW := Lib.hid (HW.out.trans (hb.mono HW.out.size))
      clear hb
      have HM := Lib.hid hm
      clear hm hlow
      go_wp2_with fail
      refine (KO.out _ _ _ _ HM.out).mono ?_
      rintro e w3 ⟨rfl, hb⟩
      have HW := Lib.hid (HW.out.trans (hb.mono HW.out.size))
      have HM := Lib.hid (HM.out.below hb)
      clear hb
      unfold spV at *
      have HX := Lib.hid (heap_alloc_new w3 (.cells #[.pointer (some ⟨m, 0, none⟩), .int .i64 f, .int .i64 n] 29))
      have HXz := Lib.hid (HM.out.fresh _ (Nat.le_refl _))
      have hba : Below w3.heap.size w3 (w3.alloc (.cells #[.pointer (some ⟨m, 0, none⟩), .int .i64 f, .int .i64 n] 29)) := (Below.refl _ _).alloc (Nat.le_refl _) _
      have HW := Lib.hid (HW.out.trans (hba.mono HW.out.size))
      have HM := Lib.hid (HM.out.below hba)
      clear hba
      have c0 := Lib.cell_of_heap HX.out 0
      have c1 := Lib.cell_of_heap HX.out 1
      have c2 := Lib.cell_of_heap HX.out 2
      go_wp2_with fail
      refine (KS.out m _).mono ?_
      rintro e w4 ⟨rfl, hb⟩
      have HW := Lib.hid (HW.out.trans (hb.mono HW.out.size))
      have HM := Lib.hid (HM.out.below hb)
      have HX := Lib.hid (heap_below HX.out hb)
      clear hb
      have hba : Below w4.heap.size w4 (w4.alloc (.cells #[.pointer none, .int .i64 0, .int .i64 0] 29)) := (Below.refl _ _).alloc (Nat.le_refl _) _
      have HW := Lib.hid (HW.out.trans (hba.mono HW.out.size))
      have HM := Lib.hid (HM.out.below hba)
      have HX := Lib.hid (heap_below HX.out hba)
      clear hba
      go_wp2
      go_ret
      exact ⟨rfl, HW.out⟩
    have g0 : 0 ≤ z := by omega
    have g1 : z < n := by omega
    have g2 : 1 ≤ k := by omega
    have g3 : ¬ k ≤ n - z := by omega
    have g4 : n ≤ 20 := by omega
    have g5 : decide (k ≤ n - z) = false := decide_eq_false g3
    clear h2 hof hfit
    have HW := Lib.hid (Below.refl w.heap.size w)
    go_enter Try.func3, Try.ntmps3
    go_wp2_with fail
    refine (KA.out _).mono ?_
    rintro e w1 ⟨rfl, hb⟩
    have HW := Lib.hid (HW.out.trans (hb.mono HW.out.size))
    clear hb
    go_wp2_with fail
    refine (KN.out _).mono ?_
    rintro e w2 ⟨⟨m, own, G, rfl, hm, hlow⟩, hb⟩
    have HLOW := Lib.hid (fun k (hk : k < w.heap.size) => hlow k (Nat.lt_of_lt_of_le hk HW.out.size))
    have HW := Lib.hid (HW.out.trans (hb.mono HW.out.size))
    clear hb
    have HM := Lib.hid hm
    clear hm hlow
    go_wp2_with fail
    refine (KO.out _ _ _ _ HM.out).mono ?_
    rintro e w3 ⟨rfl, hb⟩
    have HW := Lib.hid (HW.out.trans (hb.mono HW.out.size))
    have HM := Lib.hid (HM.out.below hb)
    clear hb
    unfold spV at *
    have HX := Lib.hid (heap_alloc_new w3 (.cells #[.pointer (some ⟨m, 0, none⟩), .int .i64 f, .int .i64 n] 29))
    have HXz := Lib.hid (HM.out.fresh _ (Nat.le_refl _))
    have hba : Below w3.heap.size w3 (w3.alloc (.cells #[.pointer (some ⟨m, 0, none⟩), .int .i64 f, .int .i64 n] 29)) := (Below.refl _ _).alloc (Nat.le_refl _) _
    have HW := Lib.hid (HW.out.trans (hba.mono HW.out.size))
    have HM := Lib.hid (HM.out.below hba)
    clear hba
    have c0 := Lib.cell_of_heap HX.out 0
    have c1 := Lib.cell_of_heap HX.out 1
    have c2 := Lib.cell_of_heap HX.out 2
    go_wp2_with fail
    refine (KS.out m _).mono ?_
    rintro e w4 ⟨rfl, hb⟩
    have HW := Lib.hid (HW.out.trans (hb.mono HW.out.size))
    have HM := Lib.hid (HM.out.below hb)
    have HX := Lib.hid (heap_below HX.out hb)
    clear hb
    have hba : Below w4.heap.size w4 (w4.alloc (.cells #[.pointer none, .int .i64 0, .int .i64 0] 29)) := (Below.refl _ _).alloc (Nat.le_refl _) _
    have HW := Lib.hid (HW.out.trans (hba.mono HW.out.size))
    have HM := Lib.hid (HM.out.below hba)
    have HX := Lib.hid (heap_below HX.out hba)
    clear hba
    go_wp2
    go_ret
    exact ⟨rfl, HW.out⟩
  obtain ⟨z0, z1, z2, z3⟩ := h2
  have hmay : mayOf ((20 : Nat) : Int) (f + z) k = true := decide_eq_true ⟨by omega, z1, by omega, by omega⟩
  have KS := Lib.hid (fun m own G W hm => spSub_yes m own G (newA 20) f n z k W hm (by rw [HLEN.out]; exact h1) ⟨z0, z1, z2, z3⟩)
  have KO3 := Lib.hid (fun m own G W hm => spOf_yes m own G (newA 20) (f + z) k W hm (by rw [HLEN.out]; exact hmay))
  have hfit2 : SpFit (f + z) k := ⟨by omega⟩
  have hin : spIn k (8 * k - 1) = true := decide_eq_true ⟨by omega, by omega⟩
  have hhas : (newA 20).has (8 * (f + z) + (8 * k - 1)) = true := by unfold AM.has; rw [HLEN.out]; exact decide_eq_true ⟨by omega, by omega⟩
  have hst := store_ok (a := newA 20) (z := 8 * (f + z) + (8 * k - 1)) (v := v) rfl rfl hhas
  have HSET := Lib.hid (show (newA 20).set (f + z) k (8 * k - 1) v = ((newA 20).store1 (8 * (f + z) + (8 * k - 1)) v, 0) by unfold AM.set; rw [if_pos hin, hst])
  have HWRD := Lib.hid (show ((newA 20).store1 (8 * (f + z) + (8 * k - 1)) v).word (f + z) k (8 * k - 1) = (v, 0) by
    unfold AM.word
    rw [if_pos hin]
    unfold AM.load
    rw [if_neg (by show ¬ false = true; exact Bool.false_ne_true), if_neg, store1_at hhas (by omega), if_pos rfl]
    unfold AM.has
    rw [store1_len, HLEN.out]
    intro h
    have := of_decide_eq_false h
    omega)
  have KSE := Lib.hid (fun m own G W hm => spSet_any m own G (newA 20) (f + z) k (8 * k - 1) v W hm (newA_room 20) (newA_fit 20) hfit2 ⟨by omega, by omega⟩)
  have KWO := Lib.hid (fun m own G W hm => spWord_any m own G ((newA 20).store1 (8 * (f + z) + (8 * k - 1)) v) (f + z) k (8 * k - 1) W hm (room_mono (store1_room (newA_room0 20) _ _) (by omega)) hfit2 ⟨by omega, by omega⟩)
  rw [HSET.out] at KSE
  rw [HWRD.out] at KWO
  have HL2 := Lib.hid (show (((newA 20).store1 (8 * (f + z) + (8 * k - 1)) v).ls.length : Int) = 20 by rw [store1_len, HLEN.out]; rfl)
  generalize (newA 20).store1 (8 * (f + z) + (8 * k - 1)) v = a1 at *
  generalize newA 20 = a0 at *
  have g3 : k ≤ n - z := z3
  have e1 : IntKind.i64.wrap (n - z) = n - z := IntWalk.i64_in _ (by omega)
  have e2 : IntKind.i64.wrap (f + z) = f + z := IntWalk.i64_in _ (by omega)
  have e3 : IntKind.i64.wrap (8 * k) = 8 * k := IntWalk.i64_in _ (by omega)
  have e4 : IntKind.i64.wrap (8 * k - 1) = 8 * k - 1 := IntWalk.i64_in _ (by omega)
  obtain ⟨hk9, hk8⟩ : 1 ≤ k ∧ k ≤ 20 := by omega
  obtain ⟨hf9, hf8⟩ : 0 ≤ f ∧ f ≤ 20 := by omega
  clear h1 hmay hin hhas hst hfit hfit2 hof
  have HW := Lib.hid (Below.refl w.heap.size w)
  go_enter Try.func3, Try.ntmps3
  go_wp2_with fail
  refine (KA.out _).mono ?_
  rintro e w1 ⟨rfl, hb⟩
  have HW := Lib.hid (HW.out.trans (hb.mono HW.out.size))
  clear hb
  go_wp2_with fail
  refine (KN.out _).mono ?_
  rintro e w2 ⟨⟨m, own, G, rfl, hm, hlow⟩, hb⟩
  have HLOW := Lib.hid (fun k (hk : k < w.heap.size) => hlow k (Nat.lt_of_lt_of_le hk HW.out.size))
  have HW := Lib.hid (HW.out.trans (hb.mono HW.out.size))
  clear hb
  have HM := Lib.hid hm
  clear hm hlow
  go_wp2_with fail
  refine (KO.out _ _ _ _ HM.out).mono ?_
  rintro e w3 ⟨rfl, hb⟩
  have HW := Lib.hid (HW.out.trans (hb.mono HW.out.size))
  have HM := Lib.hid (HM.out.below hb)
  clear hb
  unfold spV at *
  have HX := Lib.hid (heap_alloc_new w3 (.cells #[.pointer (some ⟨m, 0, none⟩), .int .i64 f, .int .i64 n] 29))
  have HXz := Lib.hid (HM.out.fresh _ (Nat.le_refl _))
  have hba : Below w3.heap.size w3 (w3.alloc (.cells #[.pointer (some ⟨m, 0, none⟩), .int .i64 f, .int .i64 n] 29)) := (Below.refl _ _).alloc (Nat.le_refl _) _
  have HW := Lib.hid (HW.out.trans (hba.mono HW.out.size))
  have HM := Lib.hid (HM.out.below hba)
  clear hba
  have c0 := Lib.cell_of_heap HX.out 0
  have c1 := Lib.cell_of_heap HX.out 1
  have c2 := Lib.cell_of_heap HX.out 2
  go_wp2_with fail
  refine (KS.out m _ _ _ HM.out).mono ?_
  rintro e w4 ⟨rfl, hb⟩
  have HW := Lib.hid (HW.out.trans (hb.mono HW.out.size))
  have HM := Lib.hid (HM.out.below hb)
  have HX := Lib.hid (heap_below HX.out hb)
  clear hb
  have HT := Lib.hid (heap_alloc_new w4 (.cells #[.pointer (some ⟨m, 0, none⟩), .int .i64 (f + z), .int .i64 k] 29))
  have HTz := Lib.hid (HM.out.fresh _ (Nat.le_refl _))
  have hba : Below w4.heap.size w4 (w4.alloc (.cells #[.pointer (some ⟨m, 0, none⟩), .int .i64 (f + z), .int .i64 k] 29)) := (Below.refl _ _).alloc (Nat.le_refl _) _
  have HW := Lib.hid (HW.out.trans (hba.mono HW.out.size))
  have HM := Lib.hid (HM.out.below hba)
  have HX := Lib.hid (heap_below HX.out hba)
  clear hba
  clear c0 c1 c2
  go_wp2_with fail
  refine (KO3.out m _ _ _ HM.out).mono ?_
  rintro e w5 ⟨rfl, hb⟩
  have HW := Lib.hid (HW.out.trans (hb.mono HW.out.size))
  have HM := Lib.hid (HM.out.below hb)
  have HX := Lib.hid (heap_below HX.out hb)
  have HT := Lib.hid (heap_below HT.out hb)
  clear hb
  have HU := Lib.hid (heap_alloc_new w5 (.cells #[.pointer (some ⟨m, 0, none⟩), .int .i64 (f + z), .int .i64 k] 29))
  have HUz := Lib.hid (HM.out.fresh _ (Nat.le_refl _))
  have hba : Below w5.heap.size w5 (w5.alloc (.cells #[.pointer (some ⟨m, 0, none⟩), .int .i64 (f + z), .int .i64 k] 29)) := (Below.refl _ _).alloc (Nat.le_refl _) _
  have HW := Lib.hid (HW.out.trans (hba.mono HW.out.size))
  have HM := Lib.hid (HM.out.below hba)
  have HX := Lib.hid (heap_below HX.out hba)
  have HT := Lib.hid (heap_below HT.out hba)
  clear hba
  have c0 := Lib.cell_of_heap HT.out 0
  have c1 := Lib.cell_of_heap HT.out 1
  have c2 := Lib.cell_of_heap HT.out 2
  have d0 := Lib.cell_of_heap HU.out 0
  have d1 := Lib.cell_of_heap HU.out 1
  have d2 := Lib.cell_of_heap HU.out 2
  go_wp2_with fail
  refine (KSE.out m own _ _ HM.out).mono ?_
  rintro e w6 ⟨rfl, own1, hm2, hfr⟩
  have HLOWn := Lib.hid (hfr.low HW.out.size HLOW.out)
  have HW := Lib.hid (HW.out.trans (hfr.below HW.out.size HLOW.out))
  obtain ⟨hx_, hz_⟩ := hfr.heap HX.out HXz.out
  have HX := Lib.hid hx_
  have HXz := Lib.hid hz_
  clear hx_ hz_
  obtain ⟨hx_, hz_⟩ := hfr.heap HT.out HTz.out
  have HT := Lib.hid hx_
  have HTz := Lib.hid hz_
  clear hx_ hz_
  obtain ⟨hx_, hz_⟩ := hfr.heap HU.out HUz.out
  have HU := Lib.hid hx_
  have HUz := Lib.hid hz_
  clear hx_ hz_
  have HM := Lib.hid hm2
  clear hm2 hfr
  have HLOW := HLOWn
  clear HLOWn
  clear c0 c1 c2 d0 d1 d2
  have c0 := Lib.cell_of_heap HT.out 0
  have c1 := Lib.cell_of_heap HT.out 1
  have c2 := Lib.cell_of_heap HT.out 2
  have d0 := Lib.cell_of_heap HU.out 0
  have d1 := Lib.cell_of_heap HU.out 1
  have d2 := Lib.cell_of_heap HU.out 2
  go_wp2_with fail
  refine (KWO.out m _ _ _ HM.out).mono ?_
  rintro e w7 ⟨rfl, hb⟩
  have HW := Lib.hid (HW.out.trans (hb.mono HW.out.size))
  have HM := Lib.hid (HM.out.below hb)
  have HX := Lib.hid (heap_below HX.out hb)
  have HT := Lib.hid (heap_below HT.out hb)
  have HU := Lib.hid (heap_below HU.out hb)
  clear hb
  clear c0 c1 c2 d0 d1 d2
  have c0 := Lib.cell_of_heap HT.out 0
  have c1 := Lib.cell_of_heap HT.out 1
  have c2 := Lib.cell_of_heap HT.out 2
  go_wp2_with fail
  refine (mLines_any HM.out).mono ?_
  rintro e w9 ⟨rfl, rfl⟩
  rw [HL2.out]
  go_wp2
  go_ret
  exact ⟨rfl, HW.out⟩
end Go.Proofs.Ytoifejinppjeeaa
