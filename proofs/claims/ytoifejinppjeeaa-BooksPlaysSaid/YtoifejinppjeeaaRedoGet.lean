/- The walk of redo.Get: a range over a function. Condition: the words can be read. -/
import Derived.Test.YtoifejinppjeeaaChunk
import Derived.Test.YtoifejinppjeeaaRedoPlain
import Derived.Test.YtoifejinppjeeaaWs
import Derived.Test.YtoifejinppjeeaaRegionIn
import Derived.BigGuard
namespace Go.Proofs.Ytoifejinppjeeaa
open Go.RowKit Go.Shelf
set_option linter.unusedVariables false
set_option linter.unusedSimpArgs false
attribute [local go_sem] Oper.semAt_some
/-- A slice over a block made anew. -/
def SliW (lo n c : Nat) (cs : Array Value) (t : TypeId) : Fact := fun v w => ∃ q, v = .slice (some ⟨q, 0, none⟩) n c ∧ lo ≤ q ∧ w.heap[q]? = some (.cells cs t (0, 0))
theorem stab_sliW {lo n c : Nat} {cs : Array Value} {t : TypeId} : Stab Stood (SliW lo n c cs t) := fun v w w' ⟨q, e, hl, hq⟩ h => ⟨q, e, hl, (h.block q (Array.getElem?_eq_some_iff.1 hq).1).trans hq⟩
/-- What is handed back. -/
def gtell (xs : List (BitVec 64)) : BitVec 64 × List (Int × BitVec 64) := (getR xs).getD (0#64, [])
def GetPost (xs : List (BitVec 64)) (e : Ending) (w' : World) : Prop := ∃ B d, e = .returned (.tuple #[.agg #[U (gtell xs).1, .slice B (gtell xs).2.length d], .bool (getR xs).isSome]) ∧ RdW w' B (gtell xs).2
/-- .. and the slice lies in a block from lo on. -/
def GetPostF (lo : Nat) (xs : List (BitVec 64)) (e : Ending) (w' : World) : Prop := ∃ B d, e = .returned (.tuple #[.agg #[U (gtell xs).1, .slice B (gtell xs).2.length d], .bool (getR xs).isSome]) ∧ RdW w' B (gtell xs).2 ∧ ∀ q, blk B = some q → lo ≤ q
theorem infoWr : (Try.prog.info? 88).map (fun i => (i.zero, i.size, i.bytes)) = some (some (.agg #[.int .i64 0, .int .u64 0]), 2, 16) := by kernel_rfl
theorem getR_none1 {xs : List (BitVec 64)} (h : xs.length < 3) : getR xs = none := by unfold getR; rw [if_pos (.inl h)]
theorem getR_none2 {xs : List (BitVec 64)} (h : xs.getD 0 0#64 = 0#64) : getR xs = none := by unfold getR; rw [if_pos (.inr (.inl h))]
theorem getR_none3 {xs : List (BitVec 64)} (h : 400#64 < xs.getD 1 0#64) : getR xs = none := by unfold getR; rw [if_pos (.inr (.inr (.inl h)))]
theorem getR_none4 {xs : List (BitVec 64)} (h : xs.length < 3 + 2 * gN xs) : getR xs = none := by unfold getR; rw [if_pos (.inr (.inr (.inr (.inl h))))]
theorem getR_none5 {xs : List (BitVec 64)} (h : sealFits (xs.take (3 + 2 * gN xs)) = false) : getR xs = none := by unfold getR; rw [if_pos (.inr (.inr (.inr (.inr (.inl h)))))]
theorem getR_none6 {xs : List (BitVec 64)} (h : gAny xs (gN xs) = true) : getR xs = none := by unfold getR; rw [if_pos (.inr (.inr (.inr (.inr (.inr h)))))]
theorem getR_some {xs : List (BitVec 64)} (h1 : ¬ xs.length < 3) (h2 : xs.getD 0 0#64 ≠ 0#64) (h3 : ¬ 400#64 < xs.getD 1 0#64) (h4 : ¬ xs.length < 3 + 2 * gN xs) (h5 : sealFits (xs.take (3 + 2 * gN xs)) = true) (h6 : gAny xs (gN xs) = false) : getR xs = some (xs.getD 0 0#64, gws xs (gN xs)) := by
  unfold getR
  rw [if_neg]
  rintro (h | h | h | h | h | h)
  · exact h1 h
  · exact h2 h
  · exact h3 h
  · exact h4 h
  · rw [h5] at h; cases h
  · rw [h6] at h; cases h
/-- The two blocks of results, written. -/
theorem res_set {W : World} {S : Nat} {T T' : TypeId} {a b x : Value} (h0 : W.heap[S]? = some (.cells #[a, b] T (0, 0))) (h1 : W.heap[S + 1]? = some (.cells #[x] T' (0, 0))) (n v f : Value) :
    (((W.setCell ⟨S, 0, none⟩ n).setCell ⟨S, 1, none⟩ v).setCell ⟨S + 1, 0, none⟩ f).heap[S]? = some (.cells #[n, v] T (0, 0)) ∧ (((W.setCell ⟨S, 0, none⟩ n).setCell ⟨S, 1, none⟩ v).setCell ⟨S + 1, 0, none⟩ f).heap[S + 1]? = some (.cells #[f] T' (0, 0)) := by
  have k0 := heap_set1 1 (heap_set1 0 h0 n) v
  simp only [List.setIfInBounds_toArray, List.set_cons_zero, List.set_cons_succ] at k0
  have k1 : ((W.setCell ⟨S, 0, none⟩ n).setCell ⟨S, 1, none⟩ v).heap[S + 1]? = some (.cells #[x] T' (0, 0)) := by
    rw [Below.heap_setCell _ _ _ _ (by simp), Below.heap_setCell _ _ _ _ (by simp)]
    exact h1
  refine ⟨?_, ?_⟩
  · rw [Below.heap_setCell _ _ _ _ (by simp)]
    exact k0
  · have k2 := heap_set1 0 k1 f
    simpa using k2
theorem below_res {B : Nat} {w0 W : World} {S : Nat} (h : Below B w0 W) (hS : B ≤ S) (n v f : Value) : Below B w0 (((W.setCell ⟨S, 0, none⟩ n).setCell ⟨S, 1, none⟩ v).setCell ⟨S + 1, 0, none⟩ f) :=
  ((h.setCell (p := ⟨S, 0, none⟩) hS n).setCell (p := ⟨S, 1, none⟩) hS v).setCell (p := ⟨S + 1, 0, none⟩) (by simp only; omega) f
theorem own_isCells {W : World} {base : Nat} {e : TypeId} {size n c k : Nat} {A : Option Addr} {xs : List Value} (h : W.ownsRow base e size (.slice A n c) k xs) : ∀ j o, blk A = some j → W.heap[j]? = some o → o.isCells = true := by
  intro j o hj ho
  rcases h.2 with ⟨hv, _⟩ | ⟨g, cap, cur, hv, _, hh, _⟩
  · injection hv with hv
    rw [hv] at hj
    cases hj
  · injection hv with hv
    rw [hv] at hj
    injection hj with hj
    have hj : g = j := hj
    subst hj
    rw [hh] at ho
    cases ho
    rfl
theorem KeepsOthers.of_below {W W' : World} (h : Below W.heap.size W W') : KeepsOthers W W' := ⟨h.size, fun k o hk _ => (h.block k (Array.getElem?_eq_some_iff.1 hk).1).trans hk⟩
/-- Between two rounds: what the record holds. -/
def GetI {N : Nat} (xs : List (BitVec 64)) (x0 : BitVec 64) (p base : Nat) (pre : List (Fin N)) (W : World) : Prop :=
  base ≤ W.heap.size ∧ ∃ A d, W.heap[p]? = some (.cells #[U x0, .slice A pre.length d] 77 (0, 0)) ∧ OwnW 88 W base A (pre.map fun x => gAt xs x.1) d ∧ ∀ x ∈ pre, gBig xs x.1 = false
theorem getI_own {N : Nat} (xs : List (BitVec 64)) (x0 : BitVec 64) (p base : Nat) : Own (GetI (N := N) xs x0 p base) := by
  rintro pre X Y row ⟨h0, A, d, h1, h2, h3⟩ hg hrow
  refine ⟨Nat.le_trans h0 hg.size, A, d, (hg.block p (Array.getElem?_eq_some_iff.1 h1).1 ?_).trans h1, h2.kept hg ?_, h3⟩
  · intro e
    obtain ⟨o, ho, hc⟩ := hrow p e.symm
    rw [h1] at ho; cases ho; cases hc
  · cases hA : blk A with
    | none => exact .inl rfl
    | some j =>
      refine .inr fun e => ?_
      obtain ⟨o, ho, hc⟩ := hrow j e.symm
      rw [own_isCells h2 j o hA ho] at hc
      cases hc
set_option maxRecDepth 100000 in
set_option maxHeartbeats 8000000 in
theorem rdGetF_any (xs : List (BitVec 64)) (A : Option Addr) (c : Nat) (w : World) (hr : RdU w A xs) (hc : xs.length ≤ c) (hm : c ≤ maxLen) :
    Calls Try.prog 95 #[.slice A xs.length c] w fun e w' => GetPostF w.heap.size xs e w' ∧ Below w.heap.size w w' := by
  have hm' := hm
  unfold maxLen at hm'
  have HR := Lib.hid hr
  clear hr
  have HW := Lib.hid (((Below.refl w.heap.size w).alloc (Nat.le_refl _) (.cells #[.int .u64 0, .slice none 0 0] 77)).alloc (by simp) (.cells #[.bool false] 4))
  have HZ := Lib.hid (fun (h : getR xs = none) => show (gtell xs).1 = 0#64 ∧ (gtell xs).2 = [] ∧ (getR xs).isSome = false by unfold gtell; rw [h]; exact ⟨rfl, rfl, rfl⟩)
  by_cases hl : xs.length < 3
  · skip
    obtain ⟨hz1, hz2, hz3⟩ := HZ.out (by exact getR_none1 hl)
    have HZ1 := Lib.hid hz1
    have HZ2 := Lib.hid hz2
    have HZ3 := Lib.hid hz3
    clear hz1 hz2 hz3 HZ
    have hl2 : (xs.length : Int) < 3 := by omega
    clear hl
    go_enter Try.func95, Try.ntmps95
    go_wp2
    refine bodyPost_ret (v := .tuple #[.agg #[U 0#64, .slice none 0 0], .bool false]) ?_ rfl ⟨⟨none, 0, by rw [HZ1.out, HZ2.out, HZ3.out]; rfl, by rw [HZ2.out]; exact RdW.nil_, fun q h => by cases h⟩, HW.out⟩
    unfold results
    rw [show Try.f95.results = #[.cell 2 77, .cell 3 4] from rfl]
    go_simp
    try rfl
  obtain ⟨b, off, rfl, hcell⟩ := (HR.out.below HW.out).at_ (show 0 < xs.length by omega)
  have HC := Lib.hid hcell
  clear hcell
  have hc0 := HC.out 0 (by omega)
  have hc1 := HC.out 1 (by omega)
  have g0 : xs.getD 0 0#64 = xs[0] := by rw [List.getD_eq_getElem?_getD, List.getElem?_eq_getElem (by omega)]; rfl
  have g1 : xs.getD 1 0#64 = xs[1] := by rw [List.getD_eq_getElem?_getD, List.getElem?_eq_getElem (by omega)]; rfl
  generalize hx0 : xs[0]'(by omega) = x0 at *
  generalize hx1 : xs[1]'(by omega) = x1 at *
  clear hx0 hx1
  rw [Nat.add_zero] at hc0
  have hl2 : ¬ (xs.length : Int) < 3 := by omega
  have hi1 : (1 : Int) < (xs.length : Int) := by omega
  have hi0 : (0 : Int) < (xs.length : Int) := by omega
  by_cases h0 : x0 = 0#64
  · skip
    obtain ⟨hz1, hz2, hz3⟩ := HZ.out (by exact getR_none2 (by rw [g0, h0]))
    have HZ1 := Lib.hid hz1
    have HZ2 := Lib.hid hz2
    have HZ3 := Lib.hid hz3
    clear hz1 hz2 hz3 HZ
    have hv1 : (x0 == 0#64) = true := by rw [h0]; rfl
    have hv2 : (x0 == BitVec.ofInt 64 0) = true := hv1
    clear h0 hl g0 g1
    go_enter Try.func95, Try.ntmps95
    go_wp2
    refine bodyPost_ret (v := .tuple #[.agg #[U 0#64, .slice none 0 0], .bool false]) ?_ rfl ⟨⟨none, 0, by rw [HZ1.out, HZ2.out, HZ3.out]; rfl, by rw [HZ2.out]; exact RdW.nil_, fun q h => by cases h⟩, HW.out⟩
    unfold results
    rw [show Try.f95.results = #[.cell 2 77, .cell 3 4] from rfl]
    go_simp
    try rfl
  have hv1 : (x0 == 0#64) = false := by rw [beq_eq_false_iff_ne]; exact h0
  have hv2 : (x0 == BitVec.ofInt 64 0) = false := hv1
  by_cases h4 : 400#64 < x1
  · skip
    obtain ⟨hz1, hz2, hz3⟩ := HZ.out (by exact getR_none3 (by rw [g1]; exact h4))
    have HZ1 := Lib.hid hz1
    have HZ2 := Lib.hid hz2
    have HZ3 := Lib.hid hz3
    clear hz1 hz2 hz3 HZ
    have h5 : BitVec.ofInt 64 400 < x1 := h4
    clear h0 hl g0 g1
    go_enter Try.func95, Try.ntmps95
    go_wp2
    refine bodyPost_ret (v := .tuple #[.agg #[U 0#64, .slice none 0 0], .bool false]) ?_ rfl ⟨⟨none, 0, by rw [HZ1.out, HZ2.out, HZ3.out]; rfl, by rw [HZ2.out]; exact RdW.nil_, fun q h => by cases h⟩, HW.out⟩
    unfold results
    rw [show Try.f95.results = #[.cell 2 77, .cell 3 4] from rfl]
    go_simp
    try rfl
  have h5 : ¬ BitVec.ofInt 64 400 < x1 := h4
  obtain ⟨N, hN⟩ : ∃ N, x1.toNat = N := ⟨_, rfl⟩
  have hNl : N ≤ 400 := by
    have h9 : ¬ (400#64).toNat < x1.toNat := fun h => h4 (BitVec.lt_def.2 h)
    rw [hN] at h9
    have : (400#64).toNat = 400 := rfl
    omega
  have hti : x1.toInt = (N : Int) := by rw [BitVec.toInt_eq_toNat_of_lt (by omega), hN]
  have e1 : IntKind.i64.wrap (2 * (N : Int)) = 2 * (N : Int) := IntWalk.i64_in _ (by omega)
  have e2 : IntKind.i64.wrap (3 + 2 * (N : Int)) = 3 + 2 * (N : Int) := IntWalk.i64_in _ (by omega)
  have HGN := Lib.hid (show gN xs = N by unfold gN; rw [g1, hN])
  by_cases h6 : xs.length < 3 + 2 * N
  · skip
    obtain ⟨hz1, hz2, hz3⟩ := HZ.out (by exact getR_none4 (by rw [HGN.out]; exact h6))
    have HZ1 := Lib.hid hz1
    have HZ2 := Lib.hid hz2
    have HZ3 := Lib.hid hz3
    clear hz1 hz2 hz3 HZ
    have h7 : (xs.length : Int) < 3 + 2 * (N : Int) := by omega
    clear h0 hl g0 g1 h6 HGN
    go_enter Try.func95, Try.ntmps95
    go_wp2
    refine bodyPost_ret (v := .tuple #[.agg #[U 0#64, .slice none 0 0], .bool false]) ?_ rfl ⟨⟨none, 0, by rw [HZ1.out, HZ2.out, HZ3.out]; rfl, by rw [HZ2.out]; exact RdW.nil_, fun q h => by cases h⟩, HW.out⟩
    unfold results
    rw [show Try.f95.results = #[.cell 2 77, .cell 3 4] from rfl]
    go_simp
    try rfl
  have h7 : ¬ (xs.length : Int) < 3 + 2 * (N : Int) := by omega
  have e3 : (3 + 2 * (N : Int)).toNat = 3 + 2 * N := by omega
  have h8 : 3 + 2 * (N : Int) ≤ (c : Int) := by omega
  have h9 : (0 : Int) ≤ 3 + 2 * (N : Int) := by omega
  have HRW := Lib.hid (HR.out.below HW.out)
  have htl : (xs.take (3 + 2 * N)).length = 3 + 2 * N := by rw [List.length_take]; omega
  have KF := Lib.hid (fun (W : World) (h : RdU W (some ⟨b, off, none⟩) xs) => show Calls Try.prog 108 #[.slice (some ⟨b, off, none⟩) (3 + 2 * N) c] W (fun e w' => e = .returned (.bool (sealFits (xs.take (3 + 2 * N)))) ∧ Drawn W w') by
    have h9 := Fits_any (xs.take (3 + 2 * N)) (some ⟨b, off, none⟩) c W (h.take _) (by rw [htl]; unfold maxLen; omega) (by rw [htl]; omega)
    rw [htl] at h9
    exact h9)
  clear htl
  cases hfit : sealFits (xs.take (3 + 2 * N)) with
  | false =>
    obtain ⟨hz1, hz2, hz3⟩ := HZ.out (by exact getR_none5 (by rw [HGN.out]; exact hfit))
    have HZ1 := Lib.hid hz1
    have HZ2 := Lib.hid hz2
    have HZ3 := Lib.hid hz3
    clear hz1 hz2 hz3 HZ
    rw [hfit] at KF
    clear h0 hl g0 g1 h6 HGN hfit
    go_enter Try.func95, Try.ntmps95
    go_wp2_with fail
    refine (KF.out _ HRW.out).mono ?_
    rintro e w1 ⟨rfl, hd⟩
    have hst := hd.below ((w.alloc (.cells #[.int .u64 0, .slice none 0 0] 77)).alloc (.cells #[.bool false] 4)).heap.size
    have HW := Lib.hid (HW.out.trans ((hd.below _).mono HW.out.size))
    clear hd
    have hh0 := heap_below (heap_below (heap_alloc_new w (.cells #[.int .u64 0, .slice none 0 0] 77)) ((Below.refl _ _).alloc (Nat.le_refl _) (.cells #[.bool false] 4))) hst
    have hh1 := heap_below (heap_alloc_new (w.alloc (.cells #[.int .u64 0, .slice none 0 0] 77)) (.cells #[.bool false] 4)) hst
    rw [World.size_alloc] at hh1
    obtain ⟨y0, y1⟩ := cells2 hh0
    have y2 := Lib.cell_of_heap hh1 0
    have z0 := Lib.frozen_of_heap hh0 0
    have z1 := Lib.frozen_of_heap hh0 1
    have z2 := Lib.frozen_of_heap hh1 0
    have HWF := Lib.hid (below_res HW.out (Nat.le_refl _) (.int .u64 0) (.slice none 0 0) (.bool false))
    obtain ⟨k0, k1⟩ := res_set hh0 hh1 (.int .u64 0) (.slice none 0 0) (.bool false)
    obtain ⟨r0, r1⟩ := cells2 k0
    have r2 := Lib.cell_of_heap k1 0
    clear hh0 hh1 k0 k1
    go_wp2
    refine bodyPost_ret (v := .tuple #[.agg #[U 0#64, .slice none 0 0], .bool false]) ?_ rfl ⟨⟨none, 0, by rw [HZ1.out, HZ2.out, HZ3.out]; rfl, by rw [HZ2.out]; exact RdW.nil_, fun q h => by cases h⟩, HWF.out⟩
    unfold results
    rw [show Try.f95.results = #[.cell 2 77, .cell 3 4] from rfl]
    go_simp
    try rfl
  | true =>
    refine callsIn_wide.1 (callsIn_of_wp_marks (n := 9) Try.func95 rfl trivial (wpIn_wide.2 ?_) rfl)
    simp only [Try.ntmps95, List.size_toArray, List.length_cons, List.length_nil, Nat.reduceAdd, Nat.reduceSub, Array.replicate_succ, Array.replicate_zero, List.push_toArray, List.append_toArray, List.nil_append, List.cons_append]
    rw [hfit] at KF
    go_wp2_with fail
    refine (KF.out _ HRW.out).mono ?_
    rintro e w1 ⟨rfl, hd⟩
    have hst := hd.below ((w.alloc (.cells #[.int .u64 0, .slice none 0 0] 77)).alloc (.cells #[.bool false] 4)).heap.size
    have HW := Lib.hid (HW.out.trans ((hd.below _).mono HW.out.size))
    clear hd
    have hcw0 := (hst.cell (p := ⟨b, off, none⟩) (cell_lt hc0)).trans hc0
    have e4 : IntKind.i64.wrap (3 + 2 * (N : Int) - 1) = 2 + 2 * (N : Int) := (IntWalk.i64_in _ (by omega)).trans (by omega)
    have e5 : IntKind.i64.wrap (2 + 2 * (N : Int)) = 2 + 2 * (N : Int) := IntWalk.i64_in _ (by omega)
    have e6 : (2 + 2 * (N : Int)).toNat = 2 + 2 * N := by omega
    have h10 : (2 : Int) ≤ 2 + 2 * (N : Int) := by omega
    have h11 : 2 + 2 * (N : Int) ≤ (c : Int) := by omega
    go_wp2_with fail
    refine (chunk_any _ _ _ _).mono ?_
    rintro e w2 ⟨rfl, hw2⟩
    have hh0 := heap_below (heap_below (heap_alloc_new w (.cells #[.int .u64 0, .slice none 0 0] 77)) ((Below.refl _ _).alloc (Nat.le_refl _) (.cells #[.bool false] 4))) hst
    have hh1 := heap_below (heap_alloc_new (w.alloc (.cells #[.int .u64 0, .slice none 0 0] 77)) (.cells #[.bool false] 4)) hst
    rw [World.size_alloc] at hh1
    have hsz : w2.heap.size = w1.heap.size + 3 := by rw [hw2]; simp
    have hq0 : w2.heap[w1.heap.size]? = some (.cells #[U x0, .slice none 0 0] 77 (0, 0)) := by
      rw [hw2]
      exact heap_below (heap_below (heap_alloc_new w1 (.cells #[U x0, .slice none 0 0] 77)) ((Below.refl _ _).alloc (Nat.le_refl _) _)) ((Below.refl _ _).alloc (Nat.le_refl _) _)
    have hb1 : Boxed w2 (w1.heap.size + 1) 44 (.slice (some ⟨b, off + 2, none⟩) (2 * N) (c - 2)) := by
      rw [hw2]
      have h := (Boxed.new (w1.alloc (.cells #[U x0, .slice none 0 0] 77)) 44 (.slice (some ⟨b, off + 2, none⟩) (2 * N) (c - 2))).alloc (.cells #[.int .i64 2] 3)
      rwa [World.size_alloc] at h
    have hb2 : Boxed w2 (w1.heap.size + 2) 3 (.int .i64 2) := by
      rw [hw2]
      have h := Boxed.new ((w1.alloc (.cells #[U x0, .slice none 0 0] 77)).alloc (.cells #[.slice (some ⟨b, off + 2, none⟩) (2 * N) (c - 2)] 44)) 3 (.int .i64 2)
      rwa [World.size_alloc, World.size_alloc] at h
    have hs1 : w.heap.size + 2 ≤ w1.heap.size := by have := hst.size; simpa using this
    have hst2 : Below ((w.alloc (.cells #[.int .u64 0, .slice none 0 0] 77)).alloc (.cells #[.bool false] 4)).heap.size ((w.alloc (.cells #[.int .u64 0, .slice none 0 0] 77)).alloc (.cells #[.bool false] 4)) w2 := by
      rw [hw2]
      exact (((hst.alloc (by simpa using hs1) _).alloc (by simp; omega) _).alloc (by simp; omega) _)
    have HST := Lib.hid hst2
    clear hw2 hst2
    go_wp2_with fail
    have HCX := Lib.hid (fun (W : World) (h : Below ((w.alloc (.cells #[.int .u64 0, .slice none 0 0] 77)).alloc (.cells #[.bool false] 4)).heap.size ((w.alloc (.cells #[.int .u64 0, .slice none 0 0] 77)).alloc (.cells #[.bool false] 4)) W) (x : Nat) (hx : x < N) => show W.cell? ⟨b, off + 2 + 2 * x, none⟩ = some (U (xs.getD (2 + 2 * x) 0#64)) ∧ W.cell? ⟨b, off + 2 + 2 * x + 1, none⟩ = some (U (xs.getD (3 + 2 * x) 0#64)) by
      have k1 := HC.out (2 + 2 * x) (by omega)
      have k2 := HC.out (3 + 2 * x) (by omega)
      rw [show xs.getD (2 + 2 * x) 0#64 = xs[2 + 2 * x] by rw [List.getD_eq_getElem?_getD, List.getElem?_eq_getElem (by omega)]; rfl, show xs.getD (3 + 2 * x) 0#64 = xs[3 + 2 * x] by rw [List.getD_eq_getElem?_getD, List.getElem?_eq_getElem (by omega)]; rfl, show off + 2 + 2 * x = off + (2 + 2 * x) by omega, show off + (2 + 2 * x) + 1 = off + (3 + 2 * x) by omega]
      exact ⟨(h.cell (cell_lt k1)).trans k1, (h.cell (cell_lt k2)).trans k2⟩)
    have HS0 := Lib.hid (show ((w.alloc (.cells #[.int .u64 0, .slice none 0 0] 77)).alloc (.cells #[.bool false] 4)).heap.size = w.heap.size + 2 by simp)
    have HRES := Lib.hid (show ((w.alloc (.cells #[.int .u64 0, .slice none 0 0] 77)).alloc (.cells #[.bool false] 4)).heap[w.heap.size]? = some (.cells #[.int .u64 0, .slice none 0 0] 77 (0, 0)) ∧ ((w.alloc (.cells #[.int .u64 0, .slice none 0 0] 77)).alloc (.cells #[.bool false] 4)).heap[w.heap.size + 1]? = some (.cells #[.bool false] 4 (0, 0)) from
      ⟨heap_below (heap_alloc_new w (.cells #[.int .u64 0, .slice none 0 0] 77)) ((Below.refl _ _).alloc (Nat.le_refl _) (.cells #[.bool false] 4)), by have h := heap_alloc_new (w.alloc (.cells #[.int .u64 0, .slice none 0 0] 77)) (.cells #[.bool false] 4); rwa [World.size_alloc] at h⟩)
    have HW2 := Lib.hid (((Below.refl w.heap.size w).alloc (Nat.le_refl _) (.cells #[.int .u64 0, .slice none 0 0] 77)).alloc (by simp) (.cells #[.bool false] 4))
    generalize ((w.alloc (.cells #[.int .u64 0, .slice none 0 0] 77)).alloc (.cells #[.bool false] 4)) = st at *
    have hS0 := HS0.out
    rw [hS0] at hst
    generalize w1.heap.size = p at *
    apply wpIn_wide.1
    apply wpIn_rangeFunc_ownG (n := 9) rfl (by omega) (gf := 103) (lb := #[.pointer (some ⟨p + 1, 0, none⟩), .pointer (some ⟨p + 2, 0, none⟩)]) rfl trivial (enters_of Try.func103 (by kernel_rfl) rfl)
      (chunk_stops 8 (by omega) (p + 1) (p + 2) b (off + 2) N (c - 2) _ (by omega) hNl (fun _ => rfl) w2 hb1 hb2) KeepsTwo.trans (keepsTwo_b (by omega) (by omega)) (Below.refl _ _) (fun _ => rfl)
      (fun pre W => GetI xs x0 p w2.heap.size pre W ∧ Below st.heap.size st W)
      (fun c pre W => (c = .ret ∧ gAny xs N = true ∧ W.heap[w.heap.size]? = some (.cells #[.int .u64 0, .slice none 0 0] 77 (0, 0)) ∧ W.heap[w.heap.size + 1]? = some (.cells #[.bool false] 4 (0, 0))) ∧ Below w.heap.size w W)
      (OwnFrom.and ((getI_own xs x0 p w2.heap.size).from _) (ownFrom_below (Nat.le_refl _) (by omega)))
      (fun c => OwnFrom.and (Own.from (fun s A B row hs hg hr => by
        obtain ⟨k1, k2, k3, k4⟩ := hs
        exact ⟨k1, k2, (hg.block _ (Array.getElem?_eq_some_iff.1 k3).1 (fun e => by obtain ⟨o, ho, hc⟩ := hr _ e.symm; rw [k3] at ho; cases ho; cases hc)).trans k3, (hg.block _ (Array.getElem?_eq_some_iff.1 k4).1 (fun e => by obtain ⟨o, ho, hc⟩ := hr _ e.symm; rw [k4] at ho; cases ho; cases hc)).trans k4⟩) _) (ownFrom_below (Nat.le_refl _) (by omega)))
      ⟨⟨Nat.le_refl _, none, 0, hq0, World.ownsRow_nil w2 _ _ 2, by simp⟩, HST.out⟩
    case hassign =>
      intro l x W K hK
      gi_wp2
      exact hK
    case hbody =>
      rintro l pre x W ⟨⟨hbs, A, d, hq, ho, hno⟩, hB⟩ hlen
      have HB := Lib.hid hB
      have HQ := Lib.hid hq
      have HO := Lib.hid ho
      have HNO := Lib.hid hno
      obtain ⟨k0, k1⟩ := HCX.out W hB x.1 x.2
      have hh0 := (hB.block w.heap.size (by omega)).trans (HRES.out.1)
      have hh1 := (hB.block (w.heap.size + 1) (by omega)).trans (HRES.out.2)
      have HBG := Lib.hid (show gBig xs x.1 = decide (1048576#64 < xs.getD (2 + 2 * x.1) 0#64) from rfl)
      have HAT := Lib.hid (show gAt xs x.1 = (((xs.getD (2 + 2 * x.1) 0#64).toNat : Int), xs.getD (3 + 2 * x.1) 0#64) from rfl)
      have HANY := Lib.hid (fun (h : gBig xs x.1 = true) => gAny_of h x.2)
      generalize xs.getD (2 + 2 * x.1) 0#64 = v0 at *
      generalize xs.getD (3 + 2 * x.1) 0#64 = v1 at *
      clear hq ho hno hB
      unfold chk
      by_cases hbig : 1048576#64 < v0
      · have hbig2 : BitVec.ofInt 64 1048576 < v0 := hbig
        have HA := Lib.hid (HANY.out (by rw [HBG.out]; exact decide_eq_true hbig))
        obtain ⟨y0, y1⟩ := cells2 hh0
        have y2 := Lib.cell_of_heap hh1 0
        have z0 := Lib.frozen_of_heap hh0 0
        have z1 := Lib.frozen_of_heap hh0 1
        have z2 := Lib.frozen_of_heap hh1 0
        have HWF := Lib.hid (below_res (HW2.out.trans (HB.out.mono (by omega))) (Nat.le_refl _) (.int .u64 0) (.slice none 0 0) (.bool false))
        have HRS := Lib.hid (res_set hh0 hh1 (.int .u64 0) (.slice none 0 0) (.bool false))
        clear hh0 hh1
        gi_wp2
        refine ⟨KeepsOthers.from ?_ _, ⟨rfl, HA.out, HRS.out.1, HRS.out.2⟩, HWF.out⟩
        exact ((KeepsOthers.setCell _ _ _).trans (KeepsOthers.setCell _ _ _)).trans (KeepsOthers.setCell _ _ _)
      · have hbig2 : ¬ BitVec.ofInt 64 1048576 < v0 := hbig
        have hvl : v0.toNat ≤ 1048576 := by
          have h9 : ¬ (1048576#64).toNat < v0.toNat := fun h => hbig (BitVec.lt_def.2 h)
          have : (1048576#64).toNat = 1048576 := rfl
          omega
        obtain ⟨z, hz⟩ : ∃ z, v0.toInt = z := ⟨_, rfl⟩
        have HZV := Lib.hid (show (v0.toNat : Int) = z by rw [← hz, BitVec.toInt_eq_toNat_of_lt (by omega)])
        have HNB := Lib.hid (show gBig xs x.1 = false by rw [HBG.out]; exact decide_eq_false hbig)
        have hml : (pre.map fun x => gAt xs x.1).length = pre.length := List.length_map _
        have HMP := Lib.hid (show (pre ++ [x]).map (fun x => gAt xs x.1) = (pre.map fun x => gAt xs x.1) ++ [gAt xs x.1] by rw [List.map_append]; rfl)
        generalize (pre.map fun x => gAt xs x.1) = ms at *
        gi_wp2_with fail
        apply wpIn_region_tail (by kernel_rfl) 70 11 (Eqs _ :: Eqs _ :: Eqs _ :: Eqs _ :: Eqs _ :: Eqs _ :: Eqs _ :: Eqs _ :: Eqs _ :: Eqs _ :: (SliW 0 1 1 #[.int .i64 z, U v1] 88) :: []) rfl (by kernel_rfl) (by rfl) (stab_cons (stab_eq _) (stab_cons (stab_eq _) (stab_cons (stab_eq _) (stab_cons (stab_eq _) (stab_cons (stab_eq _) (stab_cons (stab_eq _) (stab_cons (stab_eq _) (stab_cons (stab_eq _) (stab_cons (stab_eq _) (stab_cons (stab_eq _) (stab_cons stab_sliW stab_nil))))))))))) (by kernel_rfl) (by kernel_rfl) (by kernel_rfl) (by kernel_rfl)
        case hstep =>
          simp only [List.take_succ_cons, List.take_zero]
          refine StepsOK.cons ?_ ?_
          · -- 0: Go.Op.fieldAddr 25 (Go.Operand.tmp 5) 1
            intro a w1 hR1 hF hU hsz
            have e5 : a.eval (.tmp 5) = _ := hU 5 (by kernel_rfl)
            rw [if_pos (by rfl)]
            intro K hK
            clear hF hU hsz
            obtain ⟨q1, q2, q3⟩ := eval_rest a
            generalize hρ : a.eval = ρ
            rw [hρ] at q1 q2 q3 e5
            clear hρ
            have u1 := OpUp_value Try.prog K
            have u2 := OpUp_enter Try.prog K
            go_simp
            exact hK _ _ (Stood.refl _) rfl
          refine StepsOK.cons ?_ ?_
          · -- 1: Go.Op.load 23 (Go.Operand.tmp 56)
            intro a w1 hR1 hF hU hsz
            have e56 : a.eval (.tmp 56) = _ := hF 0 _ _ rfl rfl (by kernel_rfl)
            rw [if_pos (by rfl)]
            intro K hK
            clear hF hU hsz
            obtain ⟨c0_, c1_⟩ := cells2 (heap_below HQ.out (Stood.cur hR1))
            obtain ⟨q1, q2, q3⟩ := eval_rest a
            generalize hρ : a.eval = ρ
            rw [hρ] at q1 q2 q3 e56
            clear hρ
            have u1 := OpUp_value Try.prog K
            have u2 := OpUp_enter Try.prog K
            go_simp
            exact hK _ _ (Stood.refl _) rfl
          refine StepsOK.cons ?_ ?_
          · -- 2: Go.Op.move (Go.Operand.tmp 6)
            intro a w1 hR1 hF hU hsz
            have e6 : a.eval (.tmp 6) = _ := hU 6 (by kernel_rfl)
            rw [if_pos (by rfl)]
            intro K hK
            clear hF hU hsz
            obtain ⟨q1, q2, q3⟩ := eval_rest a
            generalize hρ : a.eval = ρ
            rw [hρ] at q1 q2 q3 e6
            clear hρ
            have u1 := OpUp_value Try.prog K
            have u2 := OpUp_enter Try.prog K
            go_simp
            exact hK _ _ (Stood.refl _) rfl
          refine StepsOK.cons ?_ ?_
          · -- 3: Go.Op.indexAddr 28 (Go.Operand.tmp 58) (Go.Operand.const (Go.Value.int Go.IntKin
            intro a w1 hR1 hF hU hsz
            have e58 : a.eval (.tmp 58) = _ := hF 2 _ _ rfl rfl (by kernel_rfl)
            rw [if_pos (by rfl)]
            intro K hK
            clear hF hU hsz
            obtain ⟨q1, q2, q3⟩ := eval_rest a
            generalize hρ : a.eval = ρ
            rw [hρ] at q1 q2 q3 e58
            clear hρ
            have u1 := OpUp_value Try.prog K
            have u2 := OpUp_enter Try.prog K
            go_simp
            exact hK _ _ (Stood.refl _) rfl
          refine StepsOK.cons ?_ ?_
          · -- 4: Go.Op.load 22 (Go.Operand.tmp 59)
            intro a w1 hR1 hF hU hsz
            have e59 : a.eval (.tmp 59) = _ := hF 3 _ _ rfl rfl (by kernel_rfl)
            rw [if_pos (by rfl)]
            intro K hK
            clear hF hU hsz
            have hz1 := ((Stood.cur hR1).cell (p := ⟨b, off + 2 + 2 * x.1, none⟩) (cell_lt k0)).trans k0
            obtain ⟨q1, q2, q3⟩ := eval_rest a
            generalize hρ : a.eval = ρ
            rw [hρ] at q1 q2 q3 e59
            clear hρ
            have u1 := OpUp_value Try.prog K
            have u2 := OpUp_enter Try.prog K
            go_simp
            exact hK _ _ (Stood.refl _) rfl
          refine StepsOK.cons ?_ ?_
          · -- 5: Go.Op.convert 22 3 (Go.Operand.tmp 60)
            intro a w1 hR1 hF hU hsz
            have e60 : a.eval (.tmp 60) = _ := hF 4 _ _ rfl rfl (by kernel_rfl)
            rw [if_pos (by rfl)]
            intro K hK
            clear hF hU hsz
            obtain ⟨q1, q2, q3⟩ := eval_rest a
            generalize hρ : a.eval = ρ
            rw [hρ] at q1 q2 q3 e60
            clear hρ
            have u1 := OpUp_value Try.prog K
            have u2 := OpUp_enter Try.prog K
            go_simp
            exact hK _ _ (Stood.refl _) rfl
          refine StepsOK.cons ?_ ?_
          · -- 6: Go.Op.move (Go.Operand.tmp 6)
            intro a w1 hR1 hF hU hsz
            have e6 : a.eval (.tmp 6) = _ := hU 6 (by kernel_rfl)
            rw [if_pos (by rfl)]
            intro K hK
            clear hF hU hsz
            obtain ⟨q1, q2, q3⟩ := eval_rest a
            generalize hρ : a.eval = ρ
            rw [hρ] at q1 q2 q3 e6
            clear hρ
            have u1 := OpUp_value Try.prog K
            have u2 := OpUp_enter Try.prog K
            go_simp
            exact hK _ _ (Stood.refl _) rfl
          refine StepsOK.cons ?_ ?_
          · -- 7: Go.Op.indexAddr 28 (Go.Operand.tmp 62) (Go.Operand.const (Go.Value.int Go.IntKin
            intro a w1 hR1 hF hU hsz
            have e62 : a.eval (.tmp 62) = _ := hF 6 _ _ rfl rfl (by kernel_rfl)
            rw [if_pos (by rfl)]
            intro K hK
            clear hF hU hsz
            obtain ⟨q1, q2, q3⟩ := eval_rest a
            generalize hρ : a.eval = ρ
            rw [hρ] at q1 q2 q3 e62
            clear hρ
            have u1 := OpUp_value Try.prog K
            have u2 := OpUp_enter Try.prog K
            go_simp
            exact hK _ _ (Stood.refl _) rfl
          refine StepsOK.cons ?_ ?_
          · -- 8: Go.Op.load 22 (Go.Operand.tmp 63)
            intro a w1 hR1 hF hU hsz
            have e63 : a.eval (.tmp 63) = _ := hF 7 _ _ rfl rfl (by kernel_rfl)
            rw [if_pos (by rfl)]
            intro K hK
            clear hF hU hsz
            have hz1 := ((Stood.cur hR1).cell (p := ⟨b, off + 2 + 2 * x.1 + 1, none⟩) (cell_lt k1)).trans k1
            obtain ⟨q1, q2, q3⟩ := eval_rest a
            generalize hρ : a.eval = ρ
            rw [hρ] at q1 q2 q3 e63
            clear hρ
            have u1 := OpUp_value Try.prog K
            have u2 := OpUp_enter Try.prog K
            go_simp
            exact hK _ _ (Stood.refl _) rfl
          refine StepsOK.cons ?_ ?_
          · -- 9: Go.Op.build 59 #[(0, Go.Operand.tmp 61), (1, Go.Operand.tmp 64)]
            intro a w1 hR1 hF hU hsz
            have e61 : a.eval (.tmp 61) = _ := hF 5 _ _ rfl rfl (by kernel_rfl)
            have e64 : a.eval (.tmp 64) = _ := hF 8 _ _ rfl rfl (by kernel_rfl)
            rw [if_pos (by rfl)]
            intro K hK
            clear hF hU hsz
            obtain ⟨q1, q2, q3⟩ := eval_rest a
            generalize hρ : a.eval = ρ
            rw [hρ] at q1 q2 q3 e61 e64
            clear hρ
            have u1 := OpUp_value Try.prog K
            have u2 := OpUp_enter Try.prog K
            go_simp
            exact hK _ _ (Stood.refl _) rfl
          refine StepsOK.cons ?_ ?_
          · -- 10: Go.Op.buildSlice 23 1 #[(0, Go.Operand.tmp 65)]
            intro a w1 hR1 hF hU hsz
            have e65 : a.eval (.tmp 65) = _ := hF 9 _ _ rfl rfl (by kernel_rfl)
            rw [if_pos (by rfl)]
            intro K hK
            clear hF hU hsz
            obtain ⟨q1, q2, q3⟩ := eval_rest a
            generalize hρ : a.eval = ρ
            rw [hρ] at q1 q2 q3 e65
            clear hρ
            have u1 := OpUp_value Try.prog K
            have u2 := OpUp_enter Try.prog K
            go_simp
            exact hK _ _ ((Below.refl _ _).alloc (Nat.le_refl _) _) ⟨_, rfl, Nat.zero_le _, heap_alloc_new w1 _⟩
          exact StepsOK.nil
        case hend =>
          intro vs0 w1 hR1 hH0
          obtain ⟨vs1, rfl, hH1⟩ := hH0.eq_
          obtain ⟨vs2, rfl, hH2⟩ := hH1.eq_
          obtain ⟨vs3, rfl, hH3⟩ := hH2.eq_
          obtain ⟨vs4, rfl, hH4⟩ := hH3.eq_
          obtain ⟨vs5, rfl, hH5⟩ := hH4.eq_
          obtain ⟨vs6, rfl, hH6⟩ := hH5.eq_
          obtain ⟨vs7, rfl, hH7⟩ := hH6.eq_
          obtain ⟨vs8, rfl, hH8⟩ := hH7.eq_
          obtain ⟨vs9, rfl, hH9⟩ := hH8.eq_
          obtain ⟨vs10, rfl, hH10⟩ := hH9.eq_
          obtain ⟨v10, vs11, rfl, hv10, hH11⟩ := hH10.cons
          obtain rfl := hH11.nil
          clear hH0 hH1 hH2 hH3 hH4 hH5 hH6 hH7 hH8 hH9 hH10 hH11
          simp only [List.take_succ_cons, List.take_zero, putAll, Act.put, List.setIfInBounds_toArray, List.set_cons_zero, List.set_cons_succ]
          obtain ⟨q, rfl, hq1, hq2⟩ := hv10
          have HO1 := Lib.hid (HO.out.below (Stood.cur hR1))
          have HB1 := Lib.hid (HB.out.trans ((Stood.cur hR1).mono HB.out.size))
          have HQ1 := Lib.hid (heap_below HQ.out (Stood.cur hR1))
          have hws := (Stood.cur hR1).size
          have hqlt := heap_lt HQ1.out
          have hrd := RdW.of_heap hq2
          have hwz : W.drew.heap.size = W.heap.size := rfl
          refine stop_ ?_
          refine appW 75 88 Try.underlying75 infoWr (.tmp 57) (.tmp 66) rfl rfl w2.heap.size A ms _ d rfl hml.symm HO1.out (some ⟨q, 0, none⟩) [(z, v1)] 1 1 rfl rfl hrd (by simp; omega) (by omega) ?_
          intro B2 us d2 w5 hus hown2 hg2 _
          have hQ3 : w5.heap[p]? = some _ := (hg2.block p hqlt (fun e => by have := (HO1.out.lt p e.symm).1; omega)).trans HQ1.out
          have HU := Lib.hid (show us = (pre ++ [x]).map (fun x => gAt xs x.1) by rw [hus, HMP.out, HAT.out, HZV.out])
          have hul : us.length = pre.length + 1 := by rw [HU.out, List.length_map, List.length_append]; rfl
          have hb3 := HB1.out.grown hg2 (by have := HB1.out.size; omega) (fun j hj => by have := (HO1.out.lt j hj).1; omega)
          have hQ4 := heap_set1 1 hQ3 (.slice B2 (pre.length + 1) d2)
          simp only [List.setIfInBounds_toArray, List.set_cons_zero, List.set_cons_succ] at hQ4
          have HQ4 := Lib.hid hQ4
          have HB4 := Lib.hid (hb3.setCell (p := ⟨p, 1, none⟩) (by simp only; omega) (.slice B2 (pre.length + 1) d2))
          have HO4 := Lib.hid ((show OwnW 88 w5 w2.heap.size B2 us d2 from hown2).kept (grownBy_setAt' w5 p 1 (.slice B2 (pre.length + 1) d2)) (by
            cases hB : blk B2 with
            | none => exact .inl rfl
            | some j => exact .inr (fun e => by cases e; have h1 := (hown2.lt _ hB).1; omega)))
          have HKO := Lib.hid ((KeepsOthers.of_below (W := W) (Stood.cur hR1)).trans ((KeepsOthers.of_grownBy hg2 (fun j o e ho => own_isCells HO1.out j o e ho)).trans (KeepsOthers.setCell w5 ⟨p, 1, none⟩ (.slice B2 (pre.length + 1) d2))))
          have HKT := Lib.hid (show KeepsTwo (p + 1) (p + 2) W (w5.setCell ⟨p, 1, none⟩ (.slice B2 (pre.length + 1) d2)) from ⟨by
            rw [Below.heap_setCell _ _ _ _ (by simp), hg2.block (p + 1) (by omega) (fun e => by have := (HO1.out.lt _ e.symm).1; omega)]
            exact (Stood.cur hR1).block (p + 1) (by omega), by
            rw [Below.heap_setCell _ _ _ _ (by simp), hg2.block (p + 2) (by omega) (fun e => by have := (HO1.out.lt _ e.symm).1; omega)]
            exact (Stood.cur hR1).block (p + 2) (by omega)⟩)
          have hsz5 : w2.heap.size ≤ (w5.setCell ⟨p, 1, none⟩ (.slice B2 (pre.length + 1) d2)).heap.size := by have h1 := HKO.out.size; omega
          obtain ⟨o0, o1⟩ := cells2 hQ3
          have i0 := Lib.frozen_of_heap hQ3 0
          have i1 := Lib.frozen_of_heap hQ3 1
          clear hus hg2 hown2 hrd hQ3 hQ4 hb3 hws hq1 hq2 hR1 hqlt
          unfold Stop
          go_wp2
          refine ⟨rfl, ?_⟩
          gi_wp2
          refine ⟨HKO.out.from _, HKT.out, ⟨hsz5, B2, d2, by rw [show (pre ++ [x]).length = pre.length + 1 from by simp]; exact HQ4.out, by rw [← HU.out]; exact HO4.out, fun y hy => ?_⟩, HB4.out⟩
          rcases List.mem_append.1 hy with h | h
          · exact HNO.out y h
          · rw [List.mem_singleton.1 h]
            exact HNB.out
    case hdone =>
      rintro D ys W hD hys ⟨⟨hbs, A, d, hq, ho, hno⟩, hB⟩ hK
      have hyl : ys.length = N := by
        have := congrArg List.length hys
        simpa using this
      rw [hyl] at hq
      have HWS := Lib.hid (show gws xs N = ys.map fun x => gAt xs x.1 by
        unfold gws
        rw [← hys, List.map_map]
        rfl)
      have HNA := Lib.hid (show gAny xs N = false by
        unfold gAny
        rw [← hys, List.any_eq_false]
        intro k hk
        rw [List.mem_map] at hk
        obtain ⟨x, hx, rfl⟩ := hk
        rw [hno x hx]
        simp)
      have HGT := Lib.hid (show gtell xs = (x0, ys.map fun x => gAt xs x.1) ∧ (getR xs).isSome = true by
        have h9 := getR_some hl (by rw [g0]; exact h0) (by rw [g1]; exact h4) (by rw [HGN.out]; exact h6) (by rw [HGN.out]; exact hfit) (by rw [HGN.out]; exact HNA.out)
        rw [g0, HGN.out, HWS.out] at h9
        unfold gtell
        rw [h9]
        exact ⟨rfl, rfl⟩)
      have hml : (ys.map fun x => gAt xs x.1).length = N := by rw [List.length_map, hyl]
      have hh0 := (hB.block w.heap.size (by omega)).trans (HRES.out.1)
      have hh1 := (hB.block (w.heap.size + 1) (by omega)).trans (HRES.out.2)
      obtain ⟨y0, y1⟩ := cells2 hh0
      have y2 := Lib.cell_of_heap hh1 0
      have z0 := Lib.frozen_of_heap hh0 0
      have z1 := Lib.frozen_of_heap hh0 1
      have z2 := Lib.frozen_of_heap hh1 0
      obtain ⟨l0, l1⟩ := cells2 hq
      have HWF := Lib.hid (below_res (HW2.out.trans (hB.mono (by omega))) (Nat.le_refl _) (U x0) (.slice A N d) (.bool true))
      obtain ⟨k0, k1⟩ := res_set hh0 hh1 (U x0) (.slice A N d) (.bool true)
      have hK3 := (((KeepsOthers.setCell W ⟨w.heap.size, 0, none⟩ (U x0)).trans (KeepsOthers.setCell _ ⟨w.heap.size, 1, none⟩ (.slice A N d))).trans (KeepsOthers.setCell _ ⟨w.heap.size + 1, 0, none⟩ (.bool true))).same D _ hK rfl
      have HO3 := Lib.hid (show OwnW 88 (((W.setCell ⟨w.heap.size, 0, none⟩ (U x0)).setCell ⟨w.heap.size, 1, none⟩ (.slice A N d)).setCell ⟨w.heap.size + 1, 0, none⟩ (.bool true)) w2.heap.size A (ys.map fun x => gAt xs x.1) d from by
        have hne : ∀ k, k < w2.heap.size → (blk A = none ∨ blk A ≠ some k) := fun k hk => by
          cases hA : blk A with
          | none => exact .inl rfl
          | some j => exact .inr (fun e => by cases e; have := (ho.lt _ hA).1; omega)
        exact ((ho.kept (grownBy_setAt' _ _ 0 _) (hne _ (by omega))).kept (grownBy_setAt' _ _ 1 _) (hne _ (by omega))).kept (grownBy_setAt' _ _ 0 _) (hne _ (by omega)))
      clear hyl hh0 hh1 hq ho hno hB hys HWS HNA
      go_wp2
      generalize hw3 : (((W.setCell ⟨w.heap.size, 0, none⟩ (U x0)).setCell ⟨w.heap.size, 1, none⟩ (.slice A N d)).setCell ⟨w.heap.size + 1, 0, none⟩ (.bool true)) = w3 at *
      refine ⟨by simp, .inl ⟨_, _, rfl, run_takeDeferred hK3, ?_⟩⟩
      have m0 : (w3.putObj D (.deferred none)).heap[w.heap.size]? = _ := (World.putObj_heap_other (by omega)).trans k0
      have m1 : (w3.putObj D (.deferred none)).heap[w.heap.size + 1]? = _ := (World.putObj_heap_other (by omega)).trans k1
      have HO4 := Lib.hid (ownsRow_putObj HO3.out (.deferred none) hK3 rfl)
      have HBF := Lib.hid (HWF.out.trans (belowK_b (w := w) (Nat.le_refl _) w3 D _ (.deferred none) (by omega) hK3 rfl rfl))
      obtain ⟨n0, n1⟩ := cells2 m0
      have n2 := Lib.cell_of_heap m1 0
      refine ⟨.tuple #[.agg #[U x0, .slice A N d], .bool true], ?_, ⟨A, d, by rw [HGT.out.1, HGT.out.2, hml], by rw [HGT.out.1]; exact OwnW.rd HO4.out, fun q h => by have := (OwnW.lt HO4.out q h).1; omega⟩, HBF.out⟩
      unfold results
      rw [show Try.f95.results = #[.cell 2 77, .cell 3 4] from rfl]
      go_simp
      try rfl
    case hstop =>
      rintro D c2 pre W hD hpre ⟨⟨rfl, hany, hh0, hh1⟩, hB⟩ hK
      obtain ⟨hz1, hz2, hz3⟩ := HZ.out (getR_none6 (by rw [HGN.out]; exact hany))
      have HZ1 := Lib.hid hz1
      have HZ2 := Lib.hid hz2
      have HZ3 := Lib.hid hz3
      clear hz1 hz2 hz3 HZ
      gi_wp2
      refine ⟨by simp, .inl ⟨_, _, rfl, run_takeDeferred hK, ?_⟩⟩
      have m0 : (W.putObj D (.deferred none)).heap[w.heap.size]? = _ := (World.putObj_heap_other (by omega)).trans hh0
      have m1 : (W.putObj D (.deferred none)).heap[w.heap.size + 1]? = _ := (World.putObj_heap_other (by omega)).trans hh1
      have HBF := Lib.hid (hB.trans (belowK_b (w := w) (Nat.le_refl _) W D _ (.deferred none) (by omega) hK rfl rfl))
      obtain ⟨n0, n1⟩ := cells2 m0
      have n2 := Lib.cell_of_heap m1 0
      refine ⟨.tuple #[.agg #[U 0#64, .slice none 0 0], .bool false], ?_, ⟨none, 0, by rw [HZ1.out, HZ2.out, HZ3.out]; rfl, by rw [HZ2.out]; exact RdW.nil_, fun q h => by cases h⟩, HBF.out⟩
      unfold results
      rw [show Try.f95.results = #[.cell 2 77, .cell 3 4] from rfl]
      go_simp
      try rfl
theorem rdGet_any (xs : List (BitVec 64)) (A : Option Addr) (c : Nat) (w : World) (hr : RdU w A xs) (hc : xs.length ≤ c) (hm : c ≤ maxLen) :
    Calls Try.prog 95 #[.slice A xs.length c] w fun e w' => GetPost xs e w' ∧ Below w.heap.size w w' :=
  (rdGetF_any xs A c w hr hc hm).mono fun _ _ ⟨⟨B, d, h1, h2, _⟩, h3⟩ => ⟨⟨B, d, h1, h2⟩, h3⟩
end Go.Proofs.Ytoifejinppjeeaa
