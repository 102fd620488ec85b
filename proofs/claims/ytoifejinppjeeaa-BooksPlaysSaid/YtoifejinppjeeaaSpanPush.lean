/- The walks of package span: All, Push. Conditions: those of MemAt; a span within it; room in the lines. -/
import Derived.Test.YtoifejinppjeeaaSpan
import Derived.Test.YtoifejinppjeeaaPmLaw
namespace Go.Proofs.Ytoifejinppjeeaa
open Go.RowKit
set_option linter.unusedVariables false
set_option linter.unusedSimpArgs false
/-- Counts up to N, a fuse that is an int. -/
structure AM.cnt (a : AM) (N : Nat) : Prop where
  f1 : a.fuse ≤ 9223372036854775807
  c1 : 0 ≤ a.n1 ∧ a.n1 ≤ N
  c2 : 0 ≤ a.n2 ∧ a.n2 ≤ N
  c3 : 0 ≤ a.n3 ∧ a.n3 ≤ N
theorem AM.cnt.fit {a : AM} {N : Nat} (h : a.cnt N) (hN : N ≤ 1000000) : a.fit := by
  have h1 := h.c1
  have h2 := h.c2
  have h3 := h.c3
  exact ⟨h.f1, by omega, by omega, by omega⟩
theorem AM.cnt.mono {a : AM} {N M : Nat} (h : a.cnt N) (hN : N ≤ M) : a.cnt M := by
  have h1 := h.c1
  have h2 := h.c2
  have h3 := h.c3
  exact ⟨h.f1, by omega, by omega, by omega⟩
theorem AM.cnt.burn {a : AM} {N : Nat} (h : a.cnt N) : a.burn.1.cnt N := by
  obtain ⟨e1, e2, e3⟩ := burn_n a
  refine ⟨?_, by rw [e1]; exact h.c1, by rw [e2]; exact h.c2, by rw [e3]; exact h.c3⟩
  have := h.f1
  unfold AM.burn AM.crash
  split
  · split
    · split <;> simp
    · simp only; omega
  · exact this
theorem store_len (a : AM) (z : Int) (v : BitVec 64) : (a.store z v).1.ls.length = a.ls.length := by
  unfold AM.store
  split
  · rfl
  · split
    · rfl
    · split
      · exact burn_len a
      · exact (store1_len _ _ _).trans (burn_len a)
theorem store_room {a : AM} {n : Nat} (h : a.room n) (z : Int) (v : BitVec 64) : (a.store z v).1.room (n + 1) := by
  unfold AM.store
  split
  · exact room_mono h (Nat.le_succ _)
  · split
    · exact room_mono h (Nat.le_succ _)
    · split
      · exact room_mono (burn_room h) (Nat.le_succ _)
      · exact store1_room (burn_room h) z v
theorem AM.cnt.store {a : AM} {N : Nat} (h : a.cnt N) (z : Int) (v : BitVec 64) : (a.store z v).1.cnt (N + 1) := by
  unfold AM.store
  split
  · exact h.mono (Nat.le_succ _)
  · split
    · exact h.mono (Nat.le_succ _)
    · split
      · exact h.burn.mono (Nat.le_succ _)
      · have hb := h.burn
        have h1 := hb.c1
        have h2 := hb.c2
        have h3 := hb.c3
        refine ⟨hb.f1, ?_, ?_, ?_⟩
        · show 0 ≤ a.burn.1.n1 + 1 ∧ a.burn.1.n1 + 1 ≤ ((N + 1 : Nat) : Int); omega
        · show 0 ≤ a.burn.1.n2 ∧ a.burn.1.n2 ≤ ((N + 1 : Nat) : Int); omega
        · show 0 ≤ a.burn.1.n3 ∧ a.burn.1.n3 ≤ ((N + 1 : Nat) : Int); omega
theorem set_len' (a : AM) (f n z : Int) (v : BitVec 64) : (a.set f n z v).1.ls.length = a.ls.length := by
  unfold AM.set
  split
  · exact store_len _ _ _
  · rfl
theorem set_room {a : AM} {r : Nat} (h : a.room r) (f n z : Int) (v : BitVec 64) : (a.set f n z v).1.room (r + 1) := by
  unfold AM.set
  split
  · exact store_room h _ _
  · exact room_mono h (Nat.le_succ _)
theorem AM.cnt.set {a : AM} {N : Nat} (h : a.cnt N) (f n z : Int) (v : BitVec 64) : (a.set f n z v).1.cnt (N + 1) := by
  unfold AM.set
  split
  · exact h.store _ _
  · exact h.mono (Nat.le_succ _)
/-- Words set one behind the other, up to the first that fails. -/
def AM.sets (a : AM) (f n z : Int) : List (BitVec 64) → AM × Int
  | [] => (a, 0)
  | u :: us => if (a.set f n z u).2 = 0 then AM.sets (a.set f n z u).1 f n (z + 1) us else a.set f n z u
/-- The lines that words from z on lie in. -/
def lns (f z : Int) (m : Nat) : List Int := (List.range (((z + m - 1) / 8 - z / 8 + 1).toNat)).map fun i : Nat => f + (z / 8 + (i : Int))
def mayPush (n z : Int) (m : Nat) : Bool := spIn n z && decide (0 < m) && decide ((m : Int) ≤ 8 * n - z)
def AM.push (a : AM) (f n z : Int) (us : List (BitVec 64)) : AM × Int :=
  if mayPush n z us.length = true then
    if (a.sets f n z us).2 = 0 then
      if ((a.sets f n z us).1.flush (lns f z us.length)).2 = 0 then ((a.sets f n z us).1.flush (lns f z us.length)).1.fence else (a.sets f n z us).1.flush (lns f z us.length)
    else a.sets f n z us
  else (a, 1)
/-- All words of a span. -/
def AM.allOf (a : AM) (f : Int) (m : Nat) : List (BitVec 64) := (List.range m).map fun i : Nat => a.at_ (8 * f + (i : Int))
theorem allOf_succ (a : AM) (f : Int) (m : Nat) : a.allOf f (m + 1) = a.allOf f m ++ [a.at_ (8 * f + (m : Int))] := by unfold AM.allOf; rw [List.range_succ, List.map_append]; rfl
theorem allOf_len (a : AM) (f : Int) (m : Nat) : (a.allOf f m).length = m := by simp [AM.allOf]
set_option maxRecDepth 100000 in
set_option maxHeartbeats 4000000 in
theorem spAll_on (m : Nat) (own : Nat → Nat) (G : MG) (a : AM) (f : Int) (n : Nat) (w : World) (hm : MemAt w m own G a) (hr : a.room 1000) (hf : SpFit f n) (ho : a.off = false) (hL : f + n ≤ a.ls.length) :
    Calls Try.prog 49 #[spV m f n] w fun e w' => (∃ B d, e = .returned (.tuple #[.slice B (8 * n) d, .int .i64 0]) ∧ OwnU w' w.heap.size B (a.allOf f (8 * n)) d) ∧ Below w.heap.size w w' := by
  obtain ⟨hf0, hf1, hn0, hn1⟩ := hf.h
  have HW := Lib.hid ((Below.refl w.heap.size w).alloc (Nat.le_refl _) (.cells #[.pointer (some ⟨m, 0, none⟩), .int .i64 f, .int .i64 n] 29))
  have HB := Lib.hid (heap_alloc_new w (.cells #[.pointer (some ⟨m, 0, none⟩), .int .i64 f, .int .i64 n] 29))
  have KW := Lib.hid (fun (k : Nat) (hk : k < 8 * n) (W : World) (hb : Below w.heap.size w W) => show Calls Try.prog 24 #[spV m f n, .int .i64 (k : Int)] W (fun e w' => e = .returned (.tuple #[U (a.at_ (8 * f + (k : Int))), .int .i64 0]) ∧ Below W.heap.size W w') by
    have h := spWord_any m own G a f n (k : Int) W (hm.below hb) hr hf ⟨by omega, by omega⟩
    have e : a.word f n (k : Int) = (a.at_ (8 * f + (k : Int)), 0) := by
      unfold AM.word
      rw [if_pos (show spIn n k = true from decide_eq_true ⟨by omega, by omega⟩)]
      unfold AM.load
      rw [if_neg (by rw [ho]; exact Bool.false_ne_true), if_neg]
      intro h
      have := of_decide_eq_false h
      omega
    rw [e] at h
    exact h)
  clear hm hr hf ho hL
  unfold spV at *
  go_enter Try.func49, Try.ntmps49
  go_wp2
  generalize (w.alloc (.cells #[.pointer (some ⟨m, 0, none⟩), .int .i64 f, .int .i64 n] 29)) = w0 at *
  go_loopw [4, 5] (fun s i wr => ∃ (k : Nat) (B : Option Addr) (d : Nat), k ≤ 8 * n ∧ i = .int .i64 k ∧ s = .slice B k d ∧ OwnU wr (w.heap.size + 1) B (a.allOf f k) d ∧ wr.heap[w.heap.size]? = some (.cells #[.pointer (some ⟨m, 0, none⟩), .int .i64 f, .int .i64 n] 29 (0, 0)) ∧ Below w.heap.size w wr) (fun _ i _ => 8 * n - (intOf i).toNat)
  case atStart => exact ⟨0, none, 0, Nat.zero_le _, rfl, rfl, OwnU.nil_ _ _, HB.out, HW.out⟩
  case round =>
    clear HB HW
    obtain ⟨k, B, d, hk, rfl, rfl, hown, hbx, hw⟩ := hrel
    have HO := Lib.hid hown
    have HB := Lib.hid hbx
    have HW := Lib.hid hw
    clear hown hbx hw
    have c0 := Lib.cell_of_heap HB.out 0
    have c1 := Lib.cell_of_heap HB.out 1
    have c2 := Lib.cell_of_heap HB.out 2
    by_cases hlt : k < 8 * n
    · have q1 : (k : Int) / 8 < (n : Int) := by omega
      have hk9 : (k : Int) ≤ 8192 := by omega
      have KW := Lib.hid (KW.out k hlt wr HW.out)
      have HS := Lib.hid (allOf_succ a f k)
      have HAL := Lib.hid (allOf_len a f k)
      have e0 : IntKind.i64.wrap ((k : Int) + 1) = (k : Int) + 1 := IntWalk.i64_in _ (by omega)
      generalize a.at_ (8 * f + (k : Int)) = u at *
      go_wp2_with fail
      refine KW.out.mono ?_
      rintro e w2 ⟨rfl, hb⟩
      have HO := Lib.hid (HO.out.below hb)
      have HB := Lib.hid (heap_below HB.out hb)
      have HW := Lib.hid (HW.out.trans (hb.mono HW.out.size))
      have hbz := heap_lt HB.out
      clear hb KW c0 c1 c2
      go_wp2_with (first | go_skip | (at_builtin; refine stop_ ?_))
      have hba : Below w2.heap.size w2 (w2.alloc (.cells #[U u] 22)) := (Below.refl _ _).alloc (Nat.le_refl _) _
      refine appU (.tmp 24) (.tmp 26) rfl rfl (w.heap.size + 1) B (a.allOf f k) _ d rfl HAL.out.symm (HO.out.below hba) (some ⟨w2.heap.size, 0, none⟩) [u] 1 1 rfl rfl (RdU.new1 _ _ _) (by rw [HAL.out]; simp; omega) (by simp; omega) ?_
      intro B2 us d2 w3 hus hown2 hg2 _
      have HW3 := Lib.hid (below_app (HW.out.trans (hba.mono HW.out.size)) (HO.out.below hba) hg2 (by simp; omega) (by omega))
      have HB3 := Lib.hid (show w3.heap[w.heap.size]? = some _ from (hg2.block _ (by simp; omega) (fun e => by have := (HO.out.lt _ e.symm).1; omega)).trans (heap_below HB.out hba))
      have HUS := Lib.hid (show us = a.allOf f (k + 1) by rw [hus, HS.out])
      have HUL := Lib.hid (show us.length = k + 1 by rw [HUS.out, allOf_len])
      have HO3 := Lib.hid hown2
      clear hus hg2 hown2 hba
      unfold Stop
      go_wp2
      go_roundw
      case rel => exact ⟨k + 1, B2, d2, by omega, by go_num, by rw [HUL.out], by rw [← HUS.out]; exact HO3.out, HB3.out, HW3.out⟩
      case measure => simp [intOf]; omega
    · obtain rfl : k = 8 * n := by omega
      have q1 : ¬ ((8 * n : Nat) : Int) / 8 < (n : Int) := by omega
      have q2 : (n : Int) ≤ ((8 * n : Nat) : Int) / 8 := by omega
      have HO := Lib.hid (show OwnU wr w.heap.size B (a.allOf f (8 * n)) d from Go.Joins.ownsRow_le HO.out (by omega))
      go_wp2
      refine bodyPost_ret (v := .tuple #[.slice B (8 * n) d, .int .i64 0]) ?_ rfl ?_
      · unfold results
        rw [show Try.f49.results = #[.tmp 2, .tmp 3] from rfl]
        go_simp
        try rfl
      · first | exact ⟨⟨B, d, rfl, HO.out⟩, HW.out⟩ | exact ⟨⟨B, ⟨d, rfl⟩, HO.out⟩, HW.out⟩
theorem spAll_off (m : Nat) (own : Nat → Nat) (G : MG) (a : AM) (f : Int) (n : Nat) (w : World) (hm : MemAt w m own G a) (hr : a.room 1000) (hf : SpFit f n) (ho : a.off = true) (hn : 0 < n) :
    Calls Try.prog 49 #[spV m f n] w fun e w' => e = .returned (.tuple #[.slice none 0 0, .int .i64 14]) ∧ Below w.heap.size w w' := by
  obtain ⟨hf0, hf1, hn0, hn1⟩ := hf.h
  have HW := Lib.hid ((Below.refl w.heap.size w).alloc (Nat.le_refl _) (.cells #[.pointer (some ⟨m, 0, none⟩), .int .i64 f, .int .i64 n] 29))
  have KW := Lib.hid (fun (W : World) (hb : Below w.heap.size w W) => show Calls Try.prog 24 #[spV m f n, .int .i64 0] W (fun e w' => e = .returned (.tuple #[U 0#64, .int .i64 14]) ∧ Below W.heap.size W w') by
    have h := spWord_any m own G a f n 0 W (hm.below hb) hr hf ⟨by omega, by omega⟩
    have e : a.word f n 0 = (0#64, 14) := by
      unfold AM.word
      rw [if_pos (show spIn n 0 = true from decide_eq_true ⟨by omega, by omega⟩)]
      unfold AM.load
      rw [if_pos ho]
    rw [e] at h
    exact h)
  have q1 : (0 : Int) < (n : Int) := by omega
  clear hm hr hf ho
  unfold spV at *
  go_enter Try.func49, Try.ntmps49
  have HB := Lib.hid (heap_alloc_new w (.cells #[.pointer (some ⟨m, 0, none⟩), .int .i64 f, .int .i64 n] 29))
  go_wp2
  generalize (w.alloc (.cells #[.pointer (some ⟨m, 0, none⟩), .int .i64 f, .int .i64 n] 29)) = w0 at *
  go_loopw [5] (fun i wr => i = .int .i64 0 ∧ w0 = wr) (fun i _ => 0)
  case atStart => exact ⟨rfl, rfl⟩
  case round =>
    obtain ⟨rfl, rfl⟩ := hrel
    have c0 := Lib.cell_of_heap HB.out 0
    have c1 := Lib.cell_of_heap HB.out 1
    have c2 := Lib.cell_of_heap HB.out 2
    go_wp2_with fail
    refine (KW.out _ HW.out).mono ?_
    rintro e w2 ⟨rfl, hb⟩
    have HW := Lib.hid (HW.out.trans (hb.mono HW.out.size))
    clear hb
    go_wp2
    refine bodyPost_ret (v := .tuple #[.slice none 0 0, .int .i64 14]) ?_ rfl ⟨rfl, HW.out⟩
    unfold results
    rw [show Try.f49.results = #[.tmp 2, .tmp 3] from rfl]
    go_simp
    try rfl
theorem flush_room {a : AM} {r : Nat} (h : a.room r) (zs : List Int) : (a.flush zs).1.room r := by
  unfold AM.flush
  split
  · exact h
  · split
    · exact h
    · split
      · exact burn_room h
      · exact flushL_room (burn_room h) zs
theorem AM.cnt.flush {a : AM} {N : Nat} (h : a.cnt N) (zs : List Int) : (a.flush zs).1.cnt (N + 1) := by
  unfold AM.flush
  split
  · exact h.mono (Nat.le_succ _)
  · split
    · exact h.mono (Nat.le_succ _)
    · split
      · exact h.burn.mono (Nat.le_succ _)
      · have hb := h.burn
        have h1 := hb.c1
        have h2 := hb.c2
        have h3 := hb.c3
        refine ⟨hb.f1, ?_, ?_, ?_⟩
        · show 0 ≤ a.burn.1.n1 ∧ a.burn.1.n1 ≤ ((N + 1 : Nat) : Int); omega
        · show 0 ≤ a.burn.1.n2 + 1 ∧ a.burn.1.n2 + 1 ≤ ((N + 1 : Nat) : Int); omega
        · show 0 ≤ a.burn.1.n3 ∧ a.burn.1.n3 ≤ ((N + 1 : Nat) : Int); omega
theorem sets_drop (us : List (BitVec 64)) (k : Nat) (h : k < us.length) (a : AM) (f n z : Int) : a.sets f n z (us.drop k) = if (a.set f n z us[k]).2 = 0 then (a.set f n z us[k]).1.sets f n (z + 1) (us.drop (k + 1)) else a.set f n z us[k] := by
  rw [List.drop_eq_getElem_cons h]
  rfl
theorem lns_len (f z : Int) (m : Nat) : (lns f z m).length = ((z + m - 1) / 8 - z / 8 + 1).toNat := by simp [lns]
theorem lns_take (f z : Int) (m k : Nat) (h : k < (lns f z m).length) : (lns f z m).take (k + 1) = (lns f z m).take k ++ [f + (z / 8 + (k : Int))] := by
  rw [List.take_succ_eq_append_getElem h]
  simp [lns]
set_option maxRecDepth 100000 in
set_option maxHeartbeats 8000000 in
theorem spPush_any (m : Nat) (own : Nat → Nat) (G : MG) (a : AM) (f n z : Int) (us : List (BitVec 64)) (U9 : Option Addr) (uc r N : Nat) (w : World) (hm : MemAt w m own G a) (hr : a.room r) (hc : a.cnt N) (hrn : r + us.length ≤ 1000) (hN : N ≤ 100000) (hus : us.length ≤ 1000) (hf : SpFit f n)
    (hz : -9223372036854775808 ≤ z ∧ z ≤ 9223372036854775807) (hu : ∀ W own', MFr w W own own' → RdU W U9 us) :
    Calls Try.prog 48 #[spV m f n, .int .i64 z, .slice U9 us.length uc] w fun e w' => e = .returned (.int .i64 (a.push f n z us).2) ∧ MPost w m own G (a.push f n z us).1 w' := by
  obtain ⟨hf0, hf1, hn0, hn1⟩ := hf.h
  have HW := Lib.hid ((Below.refl w.heap.size w).alloc (Nat.le_refl _) (.cells #[.pointer (some ⟨m, 0, none⟩), .int .i64 f, .int .i64 n] 29))
  have HB := Lib.hid (heap_alloc_new w (.cells #[.pointer (some ⟨m, 0, none⟩), .int .i64 f, .int .i64 n] 29))
  have HM := Lib.hid hm
  have HU := Lib.hid hu
  cases hin : spIn n z with
  | false =>
    have HR := Lib.hid (show a.push f n z us = (a, 1) by unfold AM.push mayPush; rw [hin]; rfl)
    have KP := Lib.hid (fun W => spPlace_no m f n z W hf hz.2 hin)
    clear hm hu hin hr hc
    unfold spV at *
    go_enter Try.func48, Try.ntmps48
    go_wp2_with fail
    refine (KP.out _).mono ?_
    rintro e w1 ⟨rfl, hb⟩
    have HW := Lib.hid (HW.out.trans (hb.mono HW.out.size))
    clear hb
    go_wp2
    go_ret
    exact ⟨ret_int (by rw [HR.out]), by rw [HR.out]; exact ⟨own, HM.out.below HW.out, MFr.of_below own HW.out⟩⟩
  | true =>
    obtain ⟨z0, z1⟩ := spIn_yes hin
    have KP := Lib.hid (fun W => spPlace_yes m f n z W hf hin)
    have e1 : IntKind.i64.wrap (n * 8) = n * 8 := IntWalk.i64_in _ (by omega)
    have e2 : IntKind.i64.wrap (n * 8 - z) = n * 8 - z := IntWalk.i64_in _ (by omega)
    by_cases hu0 : us.length = 0
    · have HR := Lib.hid (show a.push f n z us = (a, 1) by unfold AM.push mayPush; rw [hu0]; simp)
      have q0 : ((us.length : Int) == 0) = true := by rw [beq_iff_eq]; omega
      clear hm hu hin hr hc hu0
      unfold spV at *
      go_enter Try.func48, Try.ntmps48
      go_wp2_with fail
      refine (KP.out _).mono ?_
      rintro e w1 ⟨rfl, hb⟩
      have HW := Lib.hid (HW.out.trans (hb.mono HW.out.size))
      clear hb
      go_wp2
      go_ret
      exact ⟨ret_int (by rw [HR.out]), by rw [HR.out]; exact ⟨own, HM.out.below HW.out, MFr.of_below own HW.out⟩⟩
    have q0 : ((us.length : Int) == 0) = false := by rw [beq_eq_false_iff_ne]; omega
    by_cases hfit : n * 8 - z < (us.length : Int)
    · have HR := Lib.hid (show a.push f n z us = (a, 1) by
        unfold AM.push mayPush
        rw [if_neg]
        intro h
        rw [Bool.and_eq_true, decide_eq_true_eq] at h
        omega)
      clear hm hu hin hr hc hu0
      unfold spV at *
      go_enter Try.func48, Try.ntmps48
      go_wp2_with fail
      refine (KP.out _).mono ?_
      rintro e w1 ⟨rfl, hb⟩
      have HB := Lib.hid (heap_below HB.out hb)
      have c2 := Lib.cell_of_heap HB.out 2
      have HW := Lib.hid (HW.out.trans (hb.mono HW.out.size))
      clear hb
      go_wp2
      go_ret
      exact ⟨ret_int (by rw [HR.out]), by rw [HR.out]; exact ⟨own, HM.out.below HW.out, MFr.of_below own HW.out⟩⟩
    have hfit2 : (us.length : Int) ≤ n * 8 - z := by omega
    have HR := Lib.hid (show a.push f n z us = if (a.sets f n z us).2 = 0 then (if ((a.sets f n z us).1.flush (lns f z us.length)).2 = 0 then ((a.sets f n z us).1.flush (lns f z us.length)).1.fence else (a.sets f n z us).1.flush (lns f z us.length)) else a.sets f n z us by
      unfold AM.push mayPush
      rw [if_pos]
      rw [hin, Bool.true_and, Bool.and_eq_true, decide_eq_true_eq, decide_eq_true_eq]
      omega)
    have HBz := Lib.hid (HM.out.fresh _ (Nat.le_refl _))
    have HCN := Lib.hid hc
    have HRM := Lib.hid hr
    have hz9 : z ≤ 8192 := by omega
    have hul9 : (us.length : Int) ≤ 8192 := by omega
    clear hm hu hin hr hc hfit
    unfold spV at *
    go_enter Try.func48, Try.ntmps48
    go_wp2_with fail
    refine (KP.out _).mono ?_
    rintro e w1 ⟨rfl, hb⟩
    have HB := Lib.hid (heap_below HB.out hb)
    have c2 := Lib.cell_of_heap HB.out 2
    have HW := Lib.hid (HW.out.trans (hb.mono HW.out.size))
    clear hb
    go_wp2
    clear c2
    go_loopw [40] (fun i wr => ∃ (k : Nat), k ≤ us.length ∧ i = .int .i64 k ∧ ∃ own' a', MemAt wr m own' G a' ∧ MFr w wr own own' ∧ a'.room (r + k) ∧ a'.cnt (N + k) ∧ a.sets f n z us = a'.sets f n (z + k) (us.drop k) ∧ wr.heap[w.heap.size]? = some (.cells #[.pointer (some ⟨m, 0, none⟩), .int .i64 f, .int .i64 n] 29 (0, 0)) ∧ own' w.heap.size = 0) (fun i _ => us.length - (intOf i).toNat)
    case atStart => exact ⟨0, Nat.zero_le _, rfl, own, a, HM.out.below HW.out, MFr.of_below own HW.out, HRM.out, HCN.out, by simp, HB.out, HBz.out⟩
    case round =>
      clear HB HW HBz HM HRM HCN KP
      obtain ⟨k, hk, rfl, own1, a1, hm, hfr, hrm, hcn, hst, hbx, hbz⟩ := hrel
      have HM := Lib.hid hm
      have HF := Lib.hid hfr
      have HRM := Lib.hid hrm
      have HCN := Lib.hid hcn
      have HST := Lib.hid hst
      have HB := Lib.hid hbx
      have HBz := Lib.hid hbz
      clear hm hfr hrm hcn hst hbx hbz
      have c0 := Lib.cell_of_heap HB.out 0
      have c1 := Lib.cell_of_heap HB.out 1
      have c2 := Lib.cell_of_heap HB.out 2
      by_cases hlt : k < us.length
      · obtain ⟨ub, uo, rfl, huc⟩ := (HU.out wr own1 HF.out).at_ hlt
        have hu1 := huc k hlt
        have HSD := Lib.hid (sets_drop us k hlt a1 f n (z + k))
        have e0 : IntKind.i64.wrap ((k : Int) + 1) = (k : Int) + 1 := IntWalk.i64_in _ (by omega)
        have e9 : IntKind.i64.wrap (z + (k : Int)) = z + (k : Int) := IntWalk.i64_in _ (by omega)
        clear huc
        generalize us[k] = u at *
        have KS := Lib.hid (spSet_any m own1 G a1 f n (z + k) u wr HM.out (room_mono HRM.out (by omega)) (HCN.out.fit (by omega)) hf ⟨by omega, by omega⟩)
        have HRS := Lib.hid (set_room HRM.out f n (z + k) u)
        have HCS := Lib.hid (HCN.out.set f n (z + k) u)
        generalize a1.set f n (z + k) u = s at *
        obtain ⟨a2, er⟩ := s
        simp only at HSD HRS HCS
        unfold spV at KS
        go_wp2_with fail
        refine KS.out.mono ?_
        rintro e w2 ⟨rfl, own2, hm2, hf2⟩
        obtain ⟨hx_, hz_⟩ := hf2.heap HB.out HBz.out
        have HB := Lib.hid hx_
        have HBz := Lib.hid hz_
        have HF := Lib.hid (HF.out.trans hf2)
        have HM := Lib.hid hm2
        clear hx_ hz_ hm2 hf2 c0 c1 c2 hu1
        by_cases her : er = 0
        · subst her
          rw [if_pos rfl] at HSD
          go_wp2
          go_roundw
          case rel => exact ⟨k + 1, by omega, by go_num, own2, a2, HM.out, HF.out, HRS.out, HCS.out, by rw [HST.out, HSD.out]; congr 1; omega, HB.out, HBz.out⟩
          case measure => simp [intOf]; omega
        · rw [if_neg her] at HSD
          have hq : (er != 0) = true := by rw [bne_iff_ne]; exact her
          have HRR := Lib.hid (show a.push f n z us = (a2, er) by rw [HR.out, HST.out, HSD.out, if_neg her])
          clear her
          go_wp2
          go_ret
          exact ⟨ret_int (by rw [HRR.out]), by rw [HRR.out]; exact ⟨own2, HM.out, HF.out⟩⟩
      · obtain rfl : k = us.length := by omega
        have HS1 := Lib.hid (show a.sets f n z us = (a1, 0) by rw [HST.out, List.drop_length]; rfl)
        have HR2 := Lib.hid (show a.push f n z us = if (a1.flush (lns f z us.length)).2 = 0 then (a1.flush (lns f z us.length)).1.fence else a1.flush (lns f z us.length) by rw [HR.out, HS1.out, if_pos rfl])
        have hC := lns_len f z us.length
        have hC2 : ((lns f z us.length).length : Int) = (z + us.length - 1) / 8 - z / 8 + 1 := by omega
        have HTK := Lib.hid (fun j (hj : j < (lns f z us.length).length) => lns_take f z us.length j hj)
        have HCL := Lib.hid (show (lns f z us.length).length ≤ 1000 by omega)
        clear hC HST HR
        generalize lns f z us.length = ls at *
        have hz8 : 0 ≤ z / 8 := by omega
        have hz9b : z / 8 ≤ 1024 := by omega
        have hlsn : (ls.length : Int) ≤ 1025 := by omega
        rename World => wo
        go_wp2
        clear c0 c1 c2
        go_loopw [12, 13] (fun s i wr => ∃ (j : Nat) (B : Option Addr) (d : Nat), j ≤ ls.length ∧ i = .int .i64 (z / 8 + (j : Int)) ∧ s = .slice B j d ∧ OwnF I6 3 wr wo.heap.size B (ls.take j) d ∧ Below wo.heap.size wo wr) (fun _ i _ => (z / 8 + (ls.length : Int) - intOf i).toNat)
        case atStart => exact ⟨0, none, 0, Nat.zero_le _, by simp, rfl, OwnF.nil_ _ _, Below.refl _ _⟩
        case round =>
          obtain ⟨j, B, d, hj, rfl, rfl, hown, hbw⟩ := hrel
          have HO := Lib.hid hown
          have HBW := Lib.hid hbw
          clear hown hbw
          have HB2 := Lib.hid (heap_below HB.out HBW.out)
          have c0 := Lib.cell_of_heap HB2.out 0
          have c1 := Lib.cell_of_heap HB2.out 1
          have hsz := HBW.out.size
          by_cases hjl : j < ls.length
          · have q5 : z / 8 + (j : Int) ≤ (z + (us.length : Int) - 1) / 8 := by omega
            have HT := Lib.hid (HTK.out j hjl)
            have HTL := Lib.hid (show j = (ls.take j).length by rw [List.length_take]; omega)
            have hjj : (j : Int) ≤ 1025 := by omega
            go_wp2_with (first | go_skip | (at_builtin; refine stop_ ?_))
            have hba : Below wr.heap.size wr (wr.alloc (.cells #[.int .i64 (f + (z / 8 + (j : Int)))] 3)) := (Below.refl _ _).alloc (Nat.le_refl _) _
            refine appF (f := I6) (fun _ => rfl) 39 3 (.int .i64 0) 8 rfl (by decide) (by decide) Try.underlying39 infoInt (.tmp 67) (.tmp 72) rfl rfl wo.heap.size B (ls.take j) _ d rfl HTL.out (HO.out.below hba) (some ⟨wr.heap.size, 0, none⟩) [f + (z / 8 + (j : Int))] 1 1 rfl rfl (RdF.new1 (f := I6) _ _ _) (by rw [← HTL.out]; simp; omega) (by simp; omega) ?_
            intro B2 vs d2 w3 hvs hown2 hg2 _
            have HB3 := Lib.hid (below_appF (HBW.out.trans (hba.mono hsz)) (HO.out.below hba) hg2 (by simp; omega) (Nat.le_refl _))
            have HVS := Lib.hid (show vs = ls.take (j + 1) by rw [hvs, HT.out])
            have HVL := Lib.hid (show vs.length = j + 1 by rw [HVS.out, List.length_take]; omega)
            have HO3 := Lib.hid hown2
            clear hvs hg2 hown2 hba
            unfold Stop
            go_wp2
            go_roundw
            case rel => exact ⟨j + 1, B2, d2, by omega, by go_num, by rw [HVL.out], by rw [← HVS.out]; exact HO3.out, HB3.out⟩
            case measure => simp [intOf]; omega
          · obtain rfl : j = ls.length := by omega
            have q5 : ¬ z / 8 + (ls.length : Int) ≤ (z + (us.length : Int) - 1) / 8 := by omega
            have q6 : (z + (us.length : Int) - 1) / 8 < z / 8 + (ls.length : Int) := by omega
            rw [List.take_length] at HO
            have HMW := Lib.hid (HM.out.below HBW.out)
            have HFW := Lib.hid (HF.out.trans (MFr.of_below own1 HBW.out))
            have KF := Lib.hid (mFlush_any m own1 G a1 ls B d wr HMW.out (room_mono HRM.out (by omega)) (HCN.out.fit (by omega)) (fun W9 own9 hf9 => rd_same HO.out.rd fun q hq => hf9.block q (HO.out.lt q hq).2 (.inl (HM.out.fresh q (HO.out.lt q hq).1))) HCL.out)
            have HFR := Lib.hid (show (a1.flush ls).1.room 1000 ∧ (a1.flush ls).1.cnt (N + us.length + 1) from ⟨room_mono (flush_room HRM.out ls) (by omega), HCN.out.flush ls⟩)
            generalize a1.flush ls = fl at *
            obtain ⟨a2, er⟩ := fl
            simp only at HR2 HFR
            go_wp2_with fail
            refine KF.out.mono ?_
            rintro e w2 ⟨rfl, own2, hm2, hf2⟩
            obtain ⟨hx_, hz_⟩ := hf2.heap HB2.out HBz.out
            have HB := Lib.hid hx_
            have HBz := Lib.hid hz_
            have HF := Lib.hid (HFW.out.trans hf2)
            have HM := Lib.hid hm2
            clear hx_ hz_ hm2 hf2 c0 c1 KF
            have c0 := Lib.cell_of_heap HB.out 0
            by_cases her : er = 0
            · subst her
              rw [if_pos rfl] at HR2
              have KE := Lib.hid (mFence_any m own2 G a2 w2 HM.out HFR.out.1 (HFR.out.2.fit (by omega)))
              go_wp2_with fail
              refine KE.out.mono ?_
              rintro e w3 ⟨rfl, hp⟩
              have HP := Lib.hid (MPost.trans HF.out hp)
              clear hp
              go_wp2
              go_ret
              exact ⟨ret_int (by rw [HR2.out]), by rw [HR2.out]; exact HP.out⟩
            · rw [if_neg her] at HR2
              have hq : (er != 0) = true := by rw [bne_iff_ne]; exact her
              clear her
              go_wp2
              go_ret
              exact ⟨ret_int (by rw [HR2.out]), by rw [HR2.out]; exact ⟨own2, HM.out, HF.out⟩⟩
end Go.Proofs.Ytoifejinppjeeaa
