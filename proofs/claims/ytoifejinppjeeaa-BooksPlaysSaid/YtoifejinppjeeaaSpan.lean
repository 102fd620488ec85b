/- The walks of package span: Of, Sub, place, Word, Set. Conditions: those of MemAt; a span within it. -/
import Derived.Test.YtoifejinppjeeaaPmFrom
namespace Go.Proofs.Ytoifejinppjeeaa
open Go.RowKit
set_option linter.unusedVariables false
set_option linter.unusedSimpArgs false
/-- A span of a memory. -/
def spV (m : Nat) (f n : Int) : Value := .agg #[.pointer (some ⟨m, 0, none⟩), .int .i64 f, .int .i64 n]
def spIn (n z : Int) : Bool := decide (0 ≤ z ∧ z < 8 * n)
theorem spIn_yes {n z : Int} (h : spIn n z = true) : 0 ≤ z ∧ z < 8 * n := of_decide_eq_true h
theorem spIn_no {n z : Int} (h : spIn n z = false) : z < 0 ∨ 8 * n ≤ z := by
  have := of_decide_eq_false h
  omega
def AM.word (a : AM) (f n z : Int) : BitVec 64 × Int := if spIn n z = true then a.load (8 * f + z) else (0#64, 1)
def AM.set (a : AM) (f n z : Int) (v : BitVec 64) : AM × Int := if spIn n z = true then a.store (8 * f + z) v else (a, 1)
def mayOf (L f n : Int) : Bool := decide (0 ≤ f ∧ 1 ≤ n ∧ f < L ∧ n ≤ L - f)
/-- A span's numbers are small. -/
structure SpFit (f n : Int) : Prop where
  h : 0 ≤ f ∧ f ≤ 1024 ∧ 0 ≤ n ∧ n ≤ 1024
section
variable {w : World} {m : Nat} {own : Nat → Nat} {G : MG} {a : AM}
theorem spPlace_yes (m : Nat) (f n z : Int) (w : World) (hf : SpFit f n) (h : spIn n z = true) : Calls Try.prog 71 #[spV m f n, .int .i64 z] w fun e w' => e = .returned (.tuple #[.int .i64 (8 * f + z), .bool true]) ∧ Below w.heap.size w w' := by
  obtain ⟨h0, h1⟩ := spIn_yes h
  obtain ⟨hf0, hf1, hn0, hn1⟩ := hf.h
  have e0 : z / 8 < n := by omega
  have e1 : IntKind.i64.wrap (f * 8) = f * 8 := IntWalk.i64_in _ (by omega)
  have e2 : IntKind.i64.wrap (f * 8 + z) = f * 8 + z := IntWalk.i64_in _ (by omega)
  have e9 : z < 8192 := by omega
  have HW := Lib.hid ((Below.refl w.heap.size w).alloc (Nat.le_refl _) (.cells #[.pointer (some ⟨m, 0, none⟩), .int .i64 f, .int .i64 n] 29))
  clear hf h h1
  unfold spV
  go_enter Try.func71, Try.ntmps71
  go_wp2
  refine bodyPost_ret (v := .tuple #[.int .i64 (f * 8 + z), .bool true]) ?_ rfl ⟨by rw [Int.mul_comm f 8], HW.out⟩
  unfold results
  rw [show Try.f71.results = #[.tmp 4, .tmp 5] from rfl]
  go_simp
  try rfl
theorem spPlace_no (m : Nat) (f n z : Int) (w : World) (hf : SpFit f n) (hz : z ≤ 9223372036854775807) (h : spIn n z = false) : Calls Try.prog 71 #[spV m f n, .int .i64 z] w fun e w' => e = .returned (.tuple #[.int .i64 0, .bool false]) ∧ Below w.heap.size w w' := by
  obtain ⟨hf0, hf1, hn0, hn1⟩ := hf.h
  have HW := Lib.hid ((Below.refl w.heap.size w).alloc (Nat.le_refl _) (.cells #[.pointer (some ⟨m, 0, none⟩), .int .i64 f, .int .i64 n] 29))
  unfold spV
  by_cases h0 : z < 0
  · clear hf h
    go_enter Try.func71, Try.ntmps71
    go_wp2
    refine bodyPost_ret (v := .tuple #[.int .i64 0, .bool false]) ?_ rfl ⟨rfl, HW.out⟩
    unfold results
    rw [show Try.f71.results = #[.tmp 4, .tmp 5] from rfl]
    go_simp
    try rfl
  · have h1 : 8 * n ≤ z := by have := spIn_no h; omega
    obtain ⟨q, hq⟩ : ∃ q, IntKind.i64.wrap (z.tdiv 8) = q := ⟨_, rfl⟩
    have hz0 : 0 ≤ z := by omega
    have e0 : n ≤ z / 8 := by omega
    have e3 : ¬ z / 8 < n := by omega
    · have hz9 : z / 8 ≤ 9223372036854775807 := by omega
      clear hf h h1 hq
      go_enter Try.func71, Try.ntmps71
      go_wp2
      refine bodyPost_ret (v := .tuple #[.int .i64 0, .bool false]) ?_ rfl ⟨rfl, HW.out⟩
      unfold results
      rw [show Try.f71.results = #[.tmp 4, .tmp 5] from rfl]
      go_simp
      try rfl
theorem spWord_any (m : Nat) (own : Nat → Nat) (G : MG) (a : AM) (f n z : Int) (w : World) (hm : MemAt w m own G a) (hr : a.room 1000) (hf : SpFit f n) (hz : -9223372036854775808 ≤ z ∧ z ≤ 9223372036854775807) : Calls Try.prog 24 #[spV m f n, .int .i64 z] w fun e w' => e = .returned (.tuple #[U (a.word f n z).1, .int .i64 (a.word f n z).2]) ∧ Below w.heap.size w w' := by
  have HW := Lib.hid ((Below.refl w.heap.size w).alloc (Nat.le_refl _) (.cells #[.pointer (some ⟨m, 0, none⟩), .int .i64 f, .int .i64 n] 29))
  have HB := Lib.hid (heap_alloc_new w (.cells #[.pointer (some ⟨m, 0, none⟩), .int .i64 f, .int .i64 n] 29))
  cases h : spIn n z with
  | false =>
    have KP := Lib.hid (fun W => spPlace_no m f n z W hf hz.2 h)
    have HR := Lib.hid (show a.word f n z = (0#64, 1) by unfold AM.word; rw [if_neg (by rw [h]; exact Bool.false_ne_true)])
    clear h hm hr hf hz
    unfold spV at *
    go_enter Try.func24, Try.ntmps24
    go_wp2_with fail
    refine (KP.out _).mono ?_
    rintro e w1 ⟨rfl, hb⟩
    have HW := Lib.hid (HW.out.trans (hb.mono HW.out.size))
    clear hb
    go_wp2
    refine bodyPost_ret (v := .tuple #[U 0#64, .int .i64 1]) ?_ rfl ⟨by rw [HR.out], HW.out⟩
    unfold results
    rw [show Try.f24.results = #[.tmp 4, .tmp 5] from rfl]
    go_simp
    try rfl
  | true =>
    have KP := Lib.hid (fun W => spPlace_yes m f n z W hf h)
    have HR := Lib.hid (show a.word f n z = a.load (8 * f + z) by unfold AM.word; rw [if_pos h])
    have KL := Lib.hid (fun W (hb : Below w.heap.size w W) => mLoad_any (hm.below hb) (8 * f + z) hr)
    clear h hm hr hf hz
    generalize 8 * f + z = y at *
    generalize a.load y = r at *
    obtain ⟨r1, r2⟩ := r
    unfold spV at *
    go_enter Try.func24, Try.ntmps24
    go_wp2_with fail
    refine (KP.out _).mono ?_
    rintro e w1 ⟨rfl, hb⟩
    have HB := Lib.hid (heap_below HB.out hb)
    have c0 := Lib.cell_of_heap HB.out 0
    have HW := Lib.hid (HW.out.trans (hb.mono HW.out.size))
    clear hb
    go_wp2_with fail
    refine (KL.out _ HW.out).mono ?_
    rintro e w2 ⟨rfl, hb⟩
    have HW := Lib.hid (HW.out.trans (hb.mono HW.out.size))
    clear hb c0
    go_wp2
    refine bodyPost_ret (v := .tuple #[U r1, .int .i64 r2]) ?_ rfl ⟨by rw [HR.out], HW.out⟩
    unfold results
    rw [show Try.f24.results = #[.tmp 4, .tmp 5] from rfl]
    go_simp
    try rfl
theorem spSet_any (m : Nat) (own : Nat → Nat) (G : MG) (a : AM) (f n z : Int) (v : BitVec 64) (w : World) (hm : MemAt w m own G a) (hr : a.room 1000) (hfit : a.fit) (hf : SpFit f n) (hz : -9223372036854775808 ≤ z ∧ z ≤ 9223372036854775807) : Calls Try.prog 23 #[spV m f n, .int .i64 z, U v] w fun e w' => e = .returned (.int .i64 (a.set f n z v).2) ∧ MPost w m own G (a.set f n z v).1 w' := by
  have HW := Lib.hid ((Below.refl w.heap.size w).alloc (Nat.le_refl _) (.cells #[.pointer (some ⟨m, 0, none⟩), .int .i64 f, .int .i64 n] 29))
  have HB := Lib.hid (heap_alloc_new w (.cells #[.pointer (some ⟨m, 0, none⟩), .int .i64 f, .int .i64 n] 29))
  have HM := Lib.hid hm
  cases h : spIn n z with
  | false =>
    have KP := Lib.hid (fun W => spPlace_no m f n z W hf hz.2 h)
    have HR := Lib.hid (show a.set f n z v = (a, 1) by unfold AM.set; rw [if_neg (by rw [h]; exact Bool.false_ne_true)])
    clear h hm hr hf hz hfit
    unfold spV at *
    go_enter Try.func23, Try.ntmps23
    go_wp2_with fail
    refine (KP.out _).mono ?_
    rintro e w1 ⟨rfl, hb⟩
    have HW := Lib.hid (HW.out.trans (hb.mono HW.out.size))
    clear hb
    go_wp2
    go_ret
    exact ⟨ret_int (by rw [HR.out]), by rw [HR.out]; exact ⟨own, HM.out.below HW.out, MFr.of_below own HW.out⟩⟩
  | true =>
    have KP := Lib.hid (fun W => spPlace_yes m f n z W hf h)
    have HR := Lib.hid (show a.set f n z v = a.store (8 * f + z) v by unfold AM.set; rw [if_pos h])
    have KL := Lib.hid (fun W (hb : Below w.heap.size w W) => mStore_any m own G a (8 * f + z) v W (hm.below hb) hr hfit)
    clear h hm hr hf hz hfit
    generalize 8 * f + z = y at *
    generalize a.store y v = r at *
    obtain ⟨r1, r2⟩ := r
    unfold spV at *
    go_enter Try.func23, Try.ntmps23
    go_wp2_with fail
    refine (KP.out _).mono ?_
    rintro e w1 ⟨rfl, hb⟩
    have HB := Lib.hid (heap_below HB.out hb)
    have c0 := Lib.cell_of_heap HB.out 0
    have HW := Lib.hid (HW.out.trans (hb.mono HW.out.size))
    clear hb
    go_wp2_with fail
    refine (KL.out _ HW.out).mono ?_
    rintro e w2 ⟨rfl, hp⟩
    have HP := Lib.hid (MPost.trans (MFr.of_below own HW.out) hp)
    clear hp c0
    go_wp2
    go_ret
    exact ⟨ret_int (by rw [HR.out]), by rw [HR.out]; exact HP.out⟩
/-- What Of answers. -/
def ofV (m : Nat) (L f n : Int) : Value := if mayOf L f n = true then .tuple #[spV m f n, .int .i64 0] else .tuple #[.agg #[.pointer none, .int .i64 0, .int .i64 0], .int .i64 1]
theorem spOf_yes (m : Nat) (own : Nat → Nat) (G : MG) (a : AM) (f n : Int) (w : World) (hm : MemAt w m own G a) (h : mayOf a.ls.length f n = true) : Calls Try.prog 21 #[.pointer (some ⟨m, 0, none⟩), .int .i64 f, .int .i64 n] w fun e w' => e = .returned (.tuple #[spV m f n, .int .i64 0]) ∧ Below w.heap.size w w' := by
  obtain ⟨h0, h1, h2, h3⟩ := of_decide_eq_true h
  have hfew := hm.few
  have HW := Lib.hid ((Below.refl w.heap.size w).alloc (Nat.le_refl _) (.cells #[.pointer none, .int .i64 0, .int .i64 0] 29))
  have KL := Lib.hid (fun W (hb : Below w.heap.size w W) => mLines_any (hm.below hb))
  have g1 : ¬ f < 0 := by omega
  have g2 : ¬ n < 1 := by omega
  have g3 : ¬ (a.ls.length : Int) ≤ f := by omega
  have g4 : ¬ (a.ls.length : Int) - f < n := by omega
  have e1 : IntKind.i64.wrap ((a.ls.length : Int) - f) = (a.ls.length : Int) - f := IntWalk.i64_in _ (by omega)
  generalize (a.ls.length : Int) = L at *
  have HWF := Lib.hid ((Below.refl w.heap.size w).alloc (Nat.le_refl _) (.cells #[.pointer (some ⟨m, 0, none⟩), .int .i64 f, .int .i64 n] 29))
  clear h hm hfew
  unfold spV
  go_enter Try.func21, Try.ntmps21
  go_wp2_with fail
  refine (KL.out _ HW.out).mono ?_
  rintro e w1 ⟨rfl, rfl⟩
  go_wp2_with fail
  refine (KL.out _ HW.out).mono ?_
  rintro e w1 ⟨rfl, rfl⟩
  go_wp2
  refine bodyPost_ret (v := .tuple #[.agg #[.pointer (some ⟨m, 0, none⟩), .int .i64 f, .int .i64 n], .int .i64 0]) ?_ rfl ⟨rfl, ?_⟩
  · unfold results
    rw [show Try.f21.results = #[.cell 6 29, .tmp 7] from rfl]
    go_simp
    try rfl
  · first | exact HWF.out | exact ((HW.out.setCell (p := ⟨w.heap.size, 0, none⟩) (Nat.le_refl _) _).setCell (p := ⟨w.heap.size, 1, none⟩) (Nat.le_refl _) _).setCell (p := ⟨w.heap.size, 2, none⟩) (Nat.le_refl _) _
theorem spOf_no (m : Nat) (own : Nat → Nat) (G : MG) (a : AM) (f n : Int) (w : World) (hm : MemAt w m own G a) (h : mayOf a.ls.length f n = false) : Calls Try.prog 21 #[.pointer (some ⟨m, 0, none⟩), .int .i64 f, .int .i64 n] w fun e w' => e = .returned (.tuple #[.agg #[.pointer none, .int .i64 0, .int .i64 0], .int .i64 1]) ∧ Below w.heap.size w w' := by
  have hno := of_decide_eq_false h
  have hfew : (a.ls.length : Int) ≤ 1024 := by have := hm.few; omega
  have HW := Lib.hid ((Below.refl w.heap.size w).alloc (Nat.le_refl _) (.cells #[.pointer none, .int .i64 0, .int .i64 0] 29))
  have KL := Lib.hid (fun W (hb : Below w.heap.size w W) => mLines_any (hm.below hb))
  have HWS := Lib.hid (((HW.out.setCell (p := ⟨w.heap.size, 0, none⟩) (Nat.le_refl _) (.pointer none)).setCell (p := ⟨w.heap.size, 1, none⟩) (Nat.le_refl _) (.int .i64 0)).setCell (p := ⟨w.heap.size, 2, none⟩) (Nat.le_refl _) (.int .i64 0))
  by_cases g1 : f < 0
  · clear h hm hfew hno
    go_enter Try.func21, Try.ntmps21
    go_wp2
    refine bodyPost_ret (v := .tuple #[.agg #[.pointer none, .int .i64 0, .int .i64 0], .int .i64 1]) ?_ rfl ⟨rfl, by first | exact HW.out | exact HWS.out⟩
    unfold results
    rw [show Try.f21.results = #[.cell 6 29, .tmp 7] from rfl]
    go_simp
    try rfl
  by_cases g2 : n < 1
  · clear h hm hfew hno
    go_enter Try.func21, Try.ntmps21
    go_wp2
    refine bodyPost_ret (v := .tuple #[.agg #[.pointer none, .int .i64 0, .int .i64 0], .int .i64 1]) ?_ rfl ⟨rfl, by first | exact HW.out | exact HWS.out⟩
    unfold results
    rw [show Try.f21.results = #[.cell 6 29, .tmp 7] from rfl]
    go_simp
    try rfl
  generalize (a.ls.length : Int) = L at *
  by_cases g3 : L ≤ f
  · clear h hm hfew hno
    go_enter Try.func21, Try.ntmps21
    go_wp2_with fail
    refine (KL.out _ HW.out).mono ?_
    rintro e w1 ⟨rfl, rfl⟩
    go_wp2
    refine bodyPost_ret (v := .tuple #[.agg #[.pointer none, .int .i64 0, .int .i64 0], .int .i64 1]) ?_ rfl ⟨rfl, by first | exact HW.out | exact HWS.out⟩
    unfold results
    rw [show Try.f21.results = #[.cell 6 29, .tmp 7] from rfl]
    go_simp
    try rfl
  · have g4 : L - f < n := by omega
    have hL : L ≤ 1024 := by omega
    have e1 : IntKind.i64.wrap (L - f) = L - f := IntWalk.i64_in _ (by omega)
    clear h hm hfew hno
    go_enter Try.func21, Try.ntmps21
    go_wp2_with fail
    refine (KL.out _ HW.out).mono ?_
    rintro e w1 ⟨rfl, rfl⟩
    go_wp2_with fail
    refine (KL.out _ HW.out).mono ?_
    rintro e w1 ⟨rfl, rfl⟩
    go_wp2
    refine bodyPost_ret (v := .tuple #[.agg #[.pointer none, .int .i64 0, .int .i64 0], .int .i64 1]) ?_ rfl ⟨rfl, by first | exact HW.out | exact HWS.out⟩
    unfold results
    rw [show Try.f21.results = #[.cell 6 29, .tmp 7] from rfl]
    go_simp
    try rfl
/-- What Sub answers: the part of the part. -/
theorem spSub_yes (m : Nat) (own : Nat → Nat) (G : MG) (a : AM) (f n z k : Int) (w : World) (hm : MemAt w m own G a) (h : mayOf a.ls.length f n = true) (hz : 0 ≤ z ∧ 1 ≤ k ∧ z < n ∧ k ≤ n - z) : Calls Try.prog 22 #[spV m f n, .int .i64 z, .int .i64 k] w fun e w' => e = .returned (.tuple #[spV m (f + z) k, .int .i64 0]) ∧ Below w.heap.size w w' := by
  obtain ⟨h0, h1, h2, h3⟩ := of_decide_eq_true h
  obtain ⟨z0, z1, z2, z3⟩ := hz
  have hfew : (a.ls.length : Int) ≤ 1024 := by have := hm.few; omega
  have HX := Lib.hid ((Below.refl w.heap.size w).alloc (Nat.le_refl _) (.cells #[.pointer (some ⟨m, 0, none⟩), .int .i64 f, .int .i64 n] 29))
  have HW := Lib.hid (HX.out.alloc HX.out.size (.cells #[.pointer none, .int .i64 0, .int .i64 0] 29))
  have HRS := Lib.hid (show ((w.alloc (.cells #[.pointer (some ⟨m, 0, none⟩), .int .i64 f, .int .i64 n] 29)).alloc (.cells #[.pointer none, .int .i64 0, .int .i64 0] 29)).heap[w.heap.size + 1]? = some (.cells #[.pointer none, .int .i64 0, .int .i64 0] 29 (0, 0)) by have h := heap_alloc_new (w.alloc (.cells #[.pointer (some ⟨m, 0, none⟩), .int .i64 f, .int .i64 n] 29)) (.cells #[.pointer none, .int .i64 0, .int .i64 0] 29); rwa [World.size_alloc] at h)
  have KO := Lib.hid (fun W (hb : Below w.heap.size w W) => spOf_yes m own G a (f + z) k W (hm.below hb) (decide_eq_true ⟨by omega, z1, by omega, by omega⟩))
  have g1 : ¬ z < 0 := by omega
  have g2 : ¬ k < 1 := by omega
  have g3 : ¬ n ≤ z := by omega
  have g4 : ¬ n - z < k := by omega
  have e1 : IntKind.i64.wrap (n - z) = n - z := IntWalk.i64_in _ (by omega)
  have e2 : IntKind.i64.wrap (f + z) = f + z := IntWalk.i64_in _ (by omega)
  clear h hm hfew HX
  unfold spV at *
  go_enter Try.func22, Try.ntmps22
  go_wp2_with fail
  refine (KO.out _ HW.out).mono ?_
  rintro e w1 ⟨rfl, hb⟩
  have HRS := Lib.hid (heap_below HRS.out hb)
  have c0 := Lib.cell_of_heap HRS.out 0
  have c1 := Lib.cell_of_heap HRS.out 1
  have c2 := Lib.cell_of_heap HRS.out 2
  have i0 := Lib.frozen_of_heap HRS.out 0
  have i1 := Lib.frozen_of_heap HRS.out 1
  have i2 := Lib.frozen_of_heap HRS.out 2
  have k0 := heap_set1 0 HRS.out (.pointer (some ⟨m, 0, none⟩))
  have k1 := heap_set1 1 k0 (.int .i64 (f + z))
  have k2 := heap_set1 2 k1 (.int .i64 k)
  simp only [List.setIfInBounds_toArray, List.set_cons_zero, List.set_cons_succ] at k2
  have r0 := Lib.cell_of_heap k2 0
  have r1 := Lib.cell_of_heap k2 1
  have r2 := Lib.cell_of_heap k2 2
  have HW := Lib.hid (((((HW.out.trans (hb.mono HW.out.size)).setCell (p := ⟨w.heap.size + 1, 0, none⟩) (by simp only; omega) (.pointer (some ⟨m, 0, none⟩))).setCell (p := ⟨w.heap.size + 1, 1, none⟩) (by simp only; omega) (.int .i64 (f + z))).setCell (p := ⟨w.heap.size + 1, 2, none⟩) (by simp only; omega) (.int .i64 k)))
  clear hb k0 k1 k2
  go_wp2
  refine bodyPost_ret (v := .tuple #[.agg #[.pointer (some ⟨m, 0, none⟩), .int .i64 (f + z), .int .i64 k], .int .i64 0]) ?_ rfl ⟨rfl, HW.out⟩
  unfold results
  rw [show Try.f22.results = #[.cell 6 29, .tmp 7] from rfl]
  go_simp
  try rfl
theorem spSub_no (m : Nat) (f n z k : Int) (w : World) (hf : SpFit f n) (hz : ¬ (0 ≤ z ∧ 1 ≤ k ∧ z < n ∧ k ≤ n - z)) : Calls Try.prog 22 #[spV m f n, .int .i64 z, .int .i64 k] w fun e w' => e = .returned (.tuple #[.agg #[.pointer none, .int .i64 0, .int .i64 0], .int .i64 1]) ∧ Below w.heap.size w w' := by
  obtain ⟨hf0, hf1, hn0, hn1⟩ := hf.h
  have HX := Lib.hid ((Below.refl w.heap.size w).alloc (Nat.le_refl _) (.cells #[.pointer (some ⟨m, 0, none⟩), .int .i64 f, .int .i64 n] 29))
  have HW := Lib.hid (HX.out.alloc HX.out.size (.cells #[.pointer none, .int .i64 0, .int .i64 0] 29))
  have HWS := Lib.hid (((HW.out.setCell (p := ⟨w.heap.size + 1, 0, none⟩) (by simp only; omega) (.pointer none)).setCell (p := ⟨w.heap.size + 1, 1, none⟩) (by simp only; omega) (.int .i64 0)).setCell (p := ⟨w.heap.size + 1, 2, none⟩) (by simp only; omega) (.int .i64 0))
  unfold spV
  by_cases g1 : z < 0
  · skip
    clear hz HX
    go_enter Try.func22, Try.ntmps22
    go_wp2
    refine bodyPost_ret (v := .tuple #[.agg #[.pointer none, .int .i64 0, .int .i64 0], .int .i64 1]) ?_ rfl ⟨rfl, by first | exact HW.out | exact HWS.out⟩
    unfold results
    rw [show Try.f22.results = #[.cell 6 29, .tmp 7] from rfl]
    go_simp
    try rfl
  by_cases g2 : k < 1
  · skip
    clear hz HX
    go_enter Try.func22, Try.ntmps22
    go_wp2
    refine bodyPost_ret (v := .tuple #[.agg #[.pointer none, .int .i64 0, .int .i64 0], .int .i64 1]) ?_ rfl ⟨rfl, by first | exact HW.out | exact HWS.out⟩
    unfold results
    rw [show Try.f22.results = #[.cell 6 29, .tmp 7] from rfl]
    go_simp
    try rfl
  by_cases g3 : n ≤ z
  · skip
    clear hz HX
    go_enter Try.func22, Try.ntmps22
    go_wp2
    refine bodyPost_ret (v := .tuple #[.agg #[.pointer none, .int .i64 0, .int .i64 0], .int .i64 1]) ?_ rfl ⟨rfl, by first | exact HW.out | exact HWS.out⟩
    unfold results
    rw [show Try.f22.results = #[.cell 6 29, .tmp 7] from rfl]
    go_simp
    try rfl
  have g4 : n - z < k := by omega
  have e1 : IntKind.i64.wrap (n - z) = n - z := IntWalk.i64_in _ (by omega)
  clear hz HX
  go_enter Try.func22, Try.ntmps22
  go_wp2
  refine bodyPost_ret (v := .tuple #[.agg #[.pointer none, .int .i64 0, .int .i64 0], .int .i64 1]) ?_ rfl ⟨rfl, by first | exact HW.out | exact HWS.out⟩
  unfold results
  rw [show Try.f22.results = #[.cell 6 29, .tmp 7] from rfl]
  go_simp
  try rfl
end
end Go.Proofs.Ytoifejinppjeeaa
