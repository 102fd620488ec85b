/- The walks of package book: New, Room, Clear, Keep, Read. Conditions: those of MemAt; a span within it; room in the lines. -/
import Derived.Test.YtoifejinppjeeaaBookLaws
namespace Go.Proofs.Ytoifejinppjeeaa
open Go.RowKit
set_option linter.unusedVariables false
set_option linter.unusedSimpArgs false
theorem bkRoom_any (m : Nat) (f n c : Int) (w : World) (hf : SpFit f n) : Calls Try.prog 59 #[bkV m f n c] w fun e w' => e = .returned (.int .i64 (min (max ((n * 8 - 8 - 3).tdiv 2) 0) 400)) ∧ Below w.heap.size w w' := by
  obtain ⟨h0, h1, h2, h3⟩ := hf.h
  have e1 : IntKind.i64.wrap (n * 8) = n * 8 := IntWalk.i64_in _ (by omega)
  have e2 : IntKind.i64.wrap (n * 8 - 8) = n * 8 - 8 := IntWalk.i64_in _ (by omega)
  have e3 : IntKind.i64.wrap (n * 8 - 8 - 3) = n * 8 - 8 - 3 := IntWalk.i64_in _ (by omega)
  have HW := Lib.hid ((Below.refl w.heap.size w).alloc (Nat.le_refl _) (.cells #[.pointer (some ⟨m, 0, none⟩), .int .i64 f, .int .i64 n, .int .i64 c] 72))
  unfold bkV
  go_enter Try.func59, Try.ntmps59
  go_wp2
  go_ret
  exact ⟨rfl, HW.out⟩
/-- A record of too many writes is none. -/
theorem rPut_big (num : BitVec 64) (k : Nat) (L : Option Addr) (lc : Nat) (w : World) (hn : 400 < k) :
    Calls Try.prog 94 #[.agg #[U num, .slice L k lc]] w fun e w' => (∃ B d, e = .returned (.slice B 0 d) ∧ OwnU w' w.heap.size B [] d) ∧ Below w.heap.size w w' := by
  have HW := Lib.hid ((Below.refl w.heap.size w).alloc (Nat.le_refl _) (.cells #[U num, .slice L k lc] 77))
  have h4 : 400 < (k : Int) := by omega
  by_cases h0 : num = 0#64
  · subst h0
    have hv0 : (0#64 == BitVec.ofInt 64 0) = true := by decide
    go_enter Try.func94, Try.ntmps94
    go_wp2
    go_ret
    exact ⟨⟨none, 0, rfl, OwnU.nil_ _ _⟩, HW.out⟩
  have hv1 : (num == 0#64) = false := by rw [beq_eq_false_iff_ne]; exact h0
  have hv2 : (num == BitVec.ofInt 64 0) = false := by rw [beq_eq_false_iff_ne]; exact h0
  clear h0
  go_enter Try.func94, Try.ntmps94
  go_wp2
  go_ret
  exact ⟨⟨none, 0, rfl, OwnU.nil_ _ _⟩, HW.out⟩
theorem rPutX_any (num : BitVec 64) (ws : List (Int × BitVec 64)) (L : Option Addr) (lc : Nat) (w : World) (hl : RdW w L ws) :
    Calls Try.prog 94 #[.agg #[U num, .slice L ws.length lc]] w fun e w' => (∃ B d, e = .returned (.slice B (recX num ws).length d) ∧ OwnU w' w.heap.size B (recX num ws) d) ∧ Below w.heap.size w w' := by
  by_cases h : 400 < ws.length
  · have e : recX num ws = [] := by unfold recX; rw [if_pos h]
    rw [e]
    exact rPut_big num ws.length L lc w h
  · have e : recX num ws = recW num ws := by unfold recX; rw [if_neg h]
    rw [e]
    exact rPut_any num ws L lc w hl (by omega)
theorem ownU_kept {w w' : World} {own own' : Nat → Nat} {base c : Nat} {B : Option Addr} {us : List (BitVec 64)} (h : OwnU w base B us c) (h0 : ∀ q, blk B = some q → own q = 0) (hf : MFr w w' own own') : OwnU w' base B us c :=
  own_same h fun q hq => hf.block q ((h.lt q hq).2) (.inl (h0 q hq))
set_option maxRecDepth 100000 in
set_option maxHeartbeats 8000000 in
theorem bkClear_any (m : Nat) (own : Nat → Nat) (G : MG) (a : AM) (f n c : Int) (r N : Nat) (w : World) (hm : MemAt w m own G a) (hr : a.room r) (hc : a.cnt N) (hrn : r ≤ 999) (hN : N ≤ 50000) (hf : SpFit f n) :
    Calls Try.prog 58 #[bkV m f n c] w fun e w' => e = .returned (.int .i64 (a.push f n 0 [0#64]).2) ∧ MPost w m own G (a.push f n 0 [0#64]).1 w' := by
  have KP := Lib.hid (fun W own' (h : MemAt W m own' G a) hu => spPush_any m own' G a f n 0 [0#64] (some ⟨w.heap.size + 1, 0, none⟩) 1 r N W h hr hc (by simp; omega) (by omega) (by simp) hf ⟨by omega, by omega⟩ hu)
  have HM := Lib.hid hm
  clear hm hr hc hf
  generalize a.push f n 0 [0#64] = pr at *
  obtain ⟨a1, k1⟩ := pr
  have hb1 : Below w.heap.size w ((w.alloc (.cells #[.pointer (some ⟨m, 0, none⟩), .int .i64 f, .int .i64 n, .int .i64 c] 72)).alloc (.cells #[.int .u64 0] 22)) := ((Below.refl _ _).alloc (Nat.le_refl _) _).alloc (by simp) _
  have hsz : (w.alloc (.cells #[.pointer (some ⟨m, 0, none⟩), .int .i64 f, .int .i64 n, .int .i64 c] 72)).heap.size = w.heap.size + 1 := World.size_alloc _ _
  have HN := Lib.hid (heap_alloc_new (w.alloc (.cells #[.pointer (some ⟨m, 0, none⟩), .int .i64 f, .int .i64 n, .int .i64 c] 72)) (.cells #[.int .u64 0] 22))
  rw [hsz] at HN
  have HZ := Lib.hid (HM.out.fresh (w.heap.size + 1) (by omega))
  have HMB := Lib.hid (HM.out.below hb1)
  unfold bkV spV at *
  go_enter Try.func58, Try.ntmps58
  go_wp2_with fail
  refine (KP.out _ own HMB.out (fun W9 own9 hf9 => ?_)).mono ?_
  · obtain ⟨h9, _⟩ := hf9.heap HN.out HZ.out
    exact .inr ⟨_, 0, rfl, fun j hj => by
      obtain rfl : j = 0 := by simpa using hj
      exact Lib.cell_of_heap h9 0⟩
  rintro e w2 ⟨rfl, hp⟩
  have HP := Lib.hid (MPost.trans (MFr.of_below own hb1) hp)
  clear hp
  go_wp2
  go_ret
  exact ⟨rfl, HP.out⟩
set_option maxRecDepth 100000 in
set_option maxHeartbeats 8000000 in
theorem bkKeep_any (m : Nat) (own : Nat → Nat) (G : MG) (a : AM) (f n c : Int) (num : BitVec 64) (ws : List (Int × BitVec 64)) (L : Option Addr) (lc r N : Nat) (w : World) (hm : MemAt w m own G a) (hr : a.room r) (hc : a.cnt N) (hrn : r ≤ 190) (hN : N ≤ 50000) (hf : SpFit f n) (hl : RdW w L ws) :
    Calls Try.prog 54 #[bkV m f n c, .agg #[U num, .slice L ws.length lc]] w fun e w' => e = .returned (.int .i64 (a.keepB f n num ws).2) ∧ MPost w m own G (a.keepB f n num ws).1 w' := by
  have hrl := recX_len num ws
  have KPU := Lib.hid (fun W (h : RdW W L ws) => rPutX_any num ws L lc W h)
  have KWD := Lib.hid (fun W own' (h : MemAt W m own' G a) => spWord_any m own' G a f n 0 W h (room_mono hr (by omega)) hf ⟨by omega, by omega⟩)
  have KP1 := Lib.hid (fun W own' U9 uc (h : MemAt W m own' G a) hu => spPush_any m own' G a f n 8 (recX num ws) U9 uc r N W h hr hc (by omega) (by omega) (by omega) hf ⟨by omega, by omega⟩ hu)
  have KP2 := Lib.hid (fun W own' U9 (h : MemAt W m own' G (a.push f n 8 (recX num ws)).1) hu => spPush_any m own' G (a.push f n 8 (recX num ws)).1 f n 0 [num] U9 1 (r + (recX num ws).length) (N + (recX num ws).length + 2) W h (push_room hr f n 8 _) (hc.push f n 8 _) (by simp; omega) (by omega) (by simp) hf ⟨by omega, by omega⟩ hu)
  have HM := Lib.hid hm
  have HL := Lib.hid hl
  obtain ⟨hf0, hf1, hn0, hn1⟩ := hf.h
  have e1 : IntKind.i64.wrap (n * 8) = n * 8 := IntWalk.i64_in _ (by omega)
  have e2 : IntKind.i64.wrap (n * 8 - 8) = n * 8 - 8 := IntWalk.i64_in _ (by omega)
  have HDEF := Lib.hid (show a.keepB f n num ws = if (recX num ws).length = 0 ∨ 8 * n - 8 < ((recX num ws).length : Int) then (a, 1) else if (a.word f n 0).2 ≠ 0 then (a, (a.word f n 0).2) else if (a.word f n 0).1 ≠ 0#64 then (a, 15) else if (a.push f n 8 (recX num ws)).2 ≠ 0 then a.push f n 8 (recX num ws) else (a.push f n 8 (recX num ws)).1.push f n 0 [num] from rfl)
  generalize a.keepB f n num ws = R at *
  generalize recX num ws = us at *
  generalize a.word f n 0 = wd at *
  generalize a.push f n 8 us = p1 at *
  obtain ⟨v0, k0⟩ := wd
  obtain ⟨a1, k1⟩ := p1
  simp only at KP1 KP2 KWD HDEF
  generalize a1.push f n 0 [num] = p2 at *
  obtain ⟨a2, k2⟩ := p2
  simp only at KP2
  clear hm hl hr hc hf
  have hb1 : Below w.heap.size w ((w.alloc (.cells #[.pointer (some ⟨m, 0, none⟩), .int .i64 f, .int .i64 n, .int .i64 c] 72)).alloc (.cells #[U num, .slice L ws.length lc] 77)) := ((Below.refl _ _).alloc (Nat.le_refl _) _).alloc (by simp) _
  have hsz : (w.alloc (.cells #[.pointer (some ⟨m, 0, none⟩), .int .i64 f, .int .i64 n, .int .i64 c] 72)).heap.size = w.heap.size + 1 := World.size_alloc _ _
  have HN2 := Lib.hid (heap_alloc_new (w.alloc (.cells #[.pointer (some ⟨m, 0, none⟩), .int .i64 f, .int .i64 n, .int .i64 c] 72)) (.cells #[U num, .slice L ws.length lc] 77))
  rw [hsz] at HN2
  have HN1 := Lib.hid (heap_below (heap_alloc_new w (.cells #[.pointer (some ⟨m, 0, none⟩), .int .i64 f, .int .i64 n, .int .i64 c] 72)) ((Below.refl _ _).alloc (Nat.le_refl _) (.cells #[U num, .slice L ws.length lc] 77)))
  have HZ1 := Lib.hid (HM.out.fresh w.heap.size (Nat.le_refl _))
  have HZ2 := Lib.hid (HM.out.fresh (w.heap.size + 1) (by omega))
  have HM := Lib.hid (HM.out.below hb1)
  have HL := Lib.hid (HL.out.below hb1)
  have HW := Lib.hid hb1
  clear hb1 hsz
  unfold bkV spV at *
  go_enter Try.func54, Try.ntmps54
  go_wp2_with fail
  refine (KPU.out _ HL.out).mono ?_
  rintro e w2 ⟨⟨B, d, rfl, ho⟩, hb⟩
  have HO := Lib.hid ho
  have HOZ := Lib.hid (fun q (hq : blk B = some q) => HM.out.fresh q (ho.lt q hq).1)
  have HW := Lib.hid (HW.out.trans (hb.mono HW.out.size))
  have HM := Lib.hid (HM.out.below hb)
  have HN1 := Lib.hid (heap_below HN1.out hb)
  have HN2 := Lib.hid (heap_below HN2.out hb)
  clear ho hb HL KPU
  have q0 := Lib.cell_of_heap HN1.out 0
  have q1 := Lib.cell_of_heap HN1.out 1
  have q2 := Lib.cell_of_heap HN1.out 2
  have q3 := Lib.cell_of_heap HN1.out 3
  have s0 := Lib.cell_of_heap HN2.out 0
  have s1 := Lib.cell_of_heap HN2.out 1
  by_cases z1 : us.length = 0
  · have z1b : ((us.length : Int) == 0) = true := by rw [beq_iff_eq]; omega
    have HR := Lib.hid (show R = (a, 1) by rw [HDEF.out, if_pos (.inl z1)])
    clear z1
    go_wp2
    go_ret
    exact ⟨ret_int (by rw [HR.out]), by rw [HR.out]; exact ⟨own, HM.out, MFr.of_below own HW.out⟩⟩
  have z1b : ((us.length : Int) == 0) = false := by rw [beq_eq_false_iff_ne]; omega
  by_cases z2 : n * 8 - 8 < (us.length : Int)
  · skip
    have HR := Lib.hid (show R = (a, 1) by rw [HDEF.out, if_pos (.inr (by omega))])
    go_wp2
    go_ret
    exact ⟨ret_int (by rw [HR.out]), by rw [HR.out]; exact ⟨own, HM.out, MFr.of_below own HW.out⟩⟩
  have HDEF := Lib.hid (HDEF.out.trans (if_neg (show ¬ (us.length = 0 ∨ 8 * n - 8 < (us.length : Int)) by omega)))
  clear z1
  go_wp2_with fail
  refine (KWD.out _ own HM.out).mono ?_
  rintro e w3 ⟨rfl, hb⟩
  have HW := Lib.hid (HW.out.trans (hb.mono HW.out.size))
  have HM := Lib.hid (HM.out.below hb)
  have HN1 := Lib.hid (heap_below HN1.out hb)
  have HN2 := Lib.hid (heap_below HN2.out hb)
  have HO := Lib.hid (HO.out.below hb)
  clear hb KWD q0 q1 q2 q3 s0 s1
  have q0 := Lib.cell_of_heap HN1.out 0
  have q1 := Lib.cell_of_heap HN1.out 1
  have q2 := Lib.cell_of_heap HN1.out 2
  have q3 := Lib.cell_of_heap HN1.out 3
  have s0 := Lib.cell_of_heap HN2.out 0
  have s1 := Lib.cell_of_heap HN2.out 1
  by_cases z3 : ¬ k0 = 0
  · have z3b : (k0 != 0) = true := by rw [bne_iff_ne]; exact z3
    have HR := Lib.hid (show R = (a, k0) by rw [HDEF.out, if_pos z3])
    clear z3
    go_wp2
    go_ret
    exact ⟨ret_int (by rw [HR.out]), by rw [HR.out]; exact ⟨own, HM.out, MFr.of_below own HW.out⟩⟩
  obtain rfl : k0 = 0 := by omega
  have HDEF := Lib.hid (HDEF.out.trans (if_neg (fun h => h rfl)))
  by_cases z4 : ¬ v0 = 0#64
  · have z4b : (v0 != 0#64) = true := by rw [bne_iff_ne]; exact z4
    have z4c : (v0 != BitVec.ofInt 64 0) = true := by rw [bne_iff_ne]; exact z4
    have HR := Lib.hid (show R = (a, 15) by rw [HDEF.out, if_pos z4])
    clear z4
    go_wp2
    go_ret
    exact ⟨ret_int (by rw [HR.out]), by rw [HR.out]; exact ⟨own, HM.out, MFr.of_below own HW.out⟩⟩
  obtain rfl : v0 = 0#64 := Classical.not_not.1 z4
  have HDEF := Lib.hid (HDEF.out.trans (if_neg (fun h => h rfl)))
  have z4b : (0#64 != BitVec.ofInt 64 0) = false := by decide
  clear z3 z4
  go_wp2_with fail
  refine (KP1.out _ own B d HM.out (fun W9 own9 hf9 => (ownU_kept HO.out HOZ.out hf9).rd)).mono ?_
  rintro e w4 ⟨rfl, own4, hm4, hfr⟩
  have HB4 := Lib.hid (MFr.trans (MFr.of_below own HW.out) hfr)
  obtain ⟨hh1, hz1⟩ := hfr.heap HN1.out HZ1.out
  obtain ⟨hh2, hz2⟩ := hfr.heap HN2.out HZ2.out
  have HN1 := Lib.hid hh1
  have HN2 := Lib.hid hh2
  have HM := Lib.hid hm4
  clear hm4 hfr hh1 hh2 hz1 hz2 KP1 q0 q1 q2 q3 s0 s1
  have q0 := Lib.cell_of_heap HN1.out 0
  have q1 := Lib.cell_of_heap HN1.out 1
  have q2 := Lib.cell_of_heap HN1.out 2
  have q3 := Lib.cell_of_heap HN1.out 3
  have s0 := Lib.cell_of_heap HN2.out 0
  have s1 := Lib.cell_of_heap HN2.out 1
  by_cases z5 : ¬ k1 = 0
  · have z5b : (k1 != 0) = true := by rw [bne_iff_ne]; exact z5
    have HR := Lib.hid (show R = (a1, k1) by rw [HDEF.out, if_pos z5])
    clear z5
    go_wp2
    go_ret
    exact ⟨ret_int (by rw [HR.out]), by rw [HR.out]; exact ⟨own4, HM.out, HB4.out⟩⟩
  obtain rfl : k1 = 0 := by omega
  have HR := Lib.hid (show R = (a2, k2) by rw [HDEF.out, if_neg (fun h => h rfl)])
  clear z5
  have HNX := Lib.hid (heap_alloc_new w4 (.cells #[U num] 22))
  have hbx : Below w4.heap.size w4 (w4.alloc (.cells #[U num] 22)) := (Below.refl _ _).alloc (Nat.le_refl _) _
  have HZX := Lib.hid (HM.out.fresh w4.heap.size (Nat.le_refl _))
  have HM := Lib.hid (HM.out.below hbx)
  have HB4 := Lib.hid (MFr.trans HB4.out (MFr.of_below own4 hbx))
  clear hbx
  go_wp2_with fail
  refine (KP2.out _ own4 (some ⟨w4.heap.size, 0, none⟩) HM.out (fun W9 own9 hf9 => ?_)).mono ?_
  · obtain ⟨h9, _⟩ := hf9.heap HNX.out HZX.out
    exact .inr ⟨_, 0, rfl, fun j hj => by
      obtain rfl : j = 0 := by simpa using hj
      exact Lib.cell_of_heap h9 0⟩
  rintro e w5 ⟨rfl, hp⟩
  have HP := Lib.hid (MPost.trans HB4.out hp)
  clear hp q0 q1 q2 q3 s0 s1
  go_wp2
  go_ret
  exact ⟨ret_int (by rw [HR.out]), by rw [HR.out]; exact HP.out⟩
/-- What Read answers in power. -/
def RdPost (l : List (BitVec 64)) (e : Ending) (w' : World) : Prop := ∃ B d, e = .returned (.tuple #[.agg #[U (rtell l).1, .slice B (rtell l).2.length d], .bool (readR l).isSome, .int .i64 0]) ∧ RdW w' B (rtell l).2
/-- .. and the slice lies in a block from lo on. -/
def RdPostF (lo : Nat) (l : List (BitVec 64)) (e : Ending) (w' : World) : Prop := ∃ B d, e = .returned (.tuple #[.agg #[U (rtell l).1, .slice B (rtell l).2.length d], .bool (readR l).isSome, .int .i64 0]) ∧ RdW w' B (rtell l).2 ∧ ∀ q, blk B = some q → lo ≤ q
set_option maxRecDepth 100000 in
set_option maxHeartbeats 8000000 in
theorem bkReadF_on (m : Nat) (own : Nat → Nat) (G : MG) (a : AM) (f : Int) (n : Nat) (c : Int) (w : World) (hm : MemAt w m own G a) (hr : a.room 1000) (hf : SpFit f n) (ho : a.off = false) (hL : f + n ≤ a.ls.length) :
    Calls Try.prog 55 #[bkV m f n c] w fun e w' => RdPostF w.heap.size (a.allOf f (8 * n)) e w' ∧ Below w.heap.size w w' := by
  have hn1 : (n : Int) ≤ 1024 := hf.h.2.2.2
  have KA := Lib.hid (fun W own' (h : MemAt W m own' G a) => spAll_on m own' G a f n W h hr hf ho hL)
  have HM := Lib.hid hm
  have HL := Lib.hid (allOf_len a f (8 * n))
  generalize a.allOf f (8 * n) = l at *
  have HRD := Lib.hid (rdGet_sum l)
  have HBB := Lib.hid (fun W (h : Below w.heap.size w W) (v1 v2 : Value) => (h.setCell (p := ⟨w.heap.size + 1, 0, none⟩) (Nat.le_succ _) v1).setCell (p := ⟨w.heap.size + 1, 1, none⟩) (Nat.le_succ _) v2)
  have hb1 : Below w.heap.size w ((w.alloc (.cells #[.pointer (some ⟨m, 0, none⟩), .int .i64 f, .int .i64 (n : Int), .int .i64 c] 72)).alloc (.cells #[.int .u64 0, .slice none 0 0] 77)) := ((Below.refl _ _).alloc (Nat.le_refl _) _).alloc (by simp) _
  have hsz : (w.alloc (.cells #[.pointer (some ⟨m, 0, none⟩), .int .i64 f, .int .i64 (n : Int), .int .i64 c] 72)).heap.size = w.heap.size + 1 := World.size_alloc _ _
  have HN2 := Lib.hid (heap_alloc_new (w.alloc (.cells #[.pointer (some ⟨m, 0, none⟩), .int .i64 f, .int .i64 (n : Int), .int .i64 c] 72)) (.cells #[.int .u64 0, .slice none 0 0] 77))
  rw [hsz] at HN2
  have HN1 := Lib.hid (heap_below (heap_alloc_new w (.cells #[.pointer (some ⟨m, 0, none⟩), .int .i64 f, .int .i64 (n : Int), .int .i64 c] 72)) ((Below.refl _ _).alloc (Nat.le_refl _) (.cells #[.int .u64 0, .slice none 0 0] 77)))
  have HM := Lib.hid (HM.out.below hb1)
  have HW := Lib.hid hb1
  clear hb1 hsz hm hr hf ho hL
  unfold bkV spV at *
  have q0 := Lib.cell_of_heap HN1.out 0
  have q1 := Lib.cell_of_heap HN1.out 1
  have q2 := Lib.cell_of_heap HN1.out 2
  have q3 := Lib.cell_of_heap HN1.out 3
  go_enter Try.func55, Try.ntmps55
  go_wp2_with fail
  refine (KA.out _ own HM.out).mono ?_
  rintro e w2 ⟨⟨B, d, rfl, ho⟩, hb⟩
  have HV := Lib.hid ho.rd
  have hcap := ho.cap
  rw [HL.out] at hcap
  have HW := Lib.hid (HW.out.trans (hb.mono HW.out.size))
  have HN2 := Lib.hid (heap_below HN2.out hb)
  have z0 := Lib.frozen_of_heap HN2.out 0
  have z1 := Lib.frozen_of_heap HN2.out 1
  have y0 := Lib.cell_of_heap HN2.out 0
  have y1 := Lib.cell_of_heap HN2.out 1
  clear ho hb KA HM HN1 q0 q1 q2 q3
  by_cases h1 : n ≤ 1
  · have h1b : 8 * (n : Int) ≤ 8 := by omega
    have HR := Lib.hid (readR_few (l := l) (by rw [HL.out]; omega))
    have HT := Lib.hid (show rtell l = (0#64, []) by unfold rtell; rw [HR.out]; rfl)
    go_wp2
    refine bodyPost_ret (v := .tuple #[.agg #[.int .u64 0, .slice none 0 0], .bool false, .int .i64 0]) ?_ rfl ⟨⟨none, 0, by rw [HR.out, HT.out]; rfl, by rw [HT.out]; exact RdW.nil_, fun q h => by cases h⟩, HBB.out _ HW.out _ _⟩
    unfold results
    rw [show Try.f55.results = #[.cell 2 77, .tmp 3, .tmp 4] from rfl]
    go_simp
    try rfl
  have h1b : 8 < 8 * (n : Int) := by omega
  have hl0 : 0 < l.length := by rw [HL.out]; omega
  obtain ⟨b, off, rfl, hlc⟩ := HV.out.at_ hl0
  have l0 := hlc 0 hl0
  rw [Nat.add_zero] at l0
  have HV0 := Lib.hid (show l.getD 0 0#64 = l[0] from by rw [List.getD_eq_getElem?_getD, List.getElem?_eq_getElem hl0]; rfl)
  clear hlc
  by_cases h2 : l[0] = 0#64
  · have HR := Lib.hid (readR_zero (l := l) (by rw [HV0.out]; exact h2))
    have HT := Lib.hid (show rtell l = (0#64, []) by unfold rtell; rw [HR.out]; rfl)
    rw [h2] at l0
    have h2b : (0#64 == BitVec.ofInt 64 0) = true := by decide
    clear h2
    go_wp2
    refine bodyPost_ret (v := .tuple #[.agg #[.int .u64 0, .slice none 0 0], .bool false, .int .i64 0]) ?_ rfl ⟨⟨none, 0, by rw [HR.out, HT.out]; rfl, by rw [HT.out]; exact RdW.nil_, fun q h => by cases h⟩, HBB.out _ HW.out _ _⟩
    unfold results
    rw [show Try.f55.results = #[.cell 2 77, .tmp 3, .tmp 4] from rfl]
    go_simp
    try rfl
  have h2b : (l[0] == 0#64) = false := by rw [beq_eq_false_iff_ne]; exact h2
  have h2c : (l[0] == BitVec.ofInt 64 0) = false := by rw [beq_eq_false_iff_ne]; exact h2
  obtain ⟨s1, s2, s3⟩ := HRD.out (by rw [HL.out]; omega) (by rw [HV0.out]; exact h2)
  rw [HV0.out] at s2 s3
  have HS1 := Lib.hid s1
  have HS2 := Lib.hid s2
  have HS3 := Lib.hid s3
  have HD8 := Lib.hid (show (l.drop 8).length = 8 * n - 8 by rw [List.length_drop, HL.out])
  have KG := Lib.hid (fun W (hr : RdU W (some ⟨b, off + 8, none⟩) (l.drop 8)) => show Calls Try.prog 95 #[.slice (some ⟨b, off + 8, none⟩) (8 * n - 8) (d - 8)] W (fun e w' => GetPostF W.heap.size (l.drop 8) e w' ∧ Below W.heap.size W w') from by have h9 := rdGetF_any (l.drop 8) (some ⟨b, off + 8, none⟩) (d - 8) W hr (by rw [HD8.out]; omega) (Nat.le_trans (Nat.sub_le _ _) hcap.2); rwa [HD8.out] at h9)
  have HVD := Lib.hid (RdF.drop HV.out 8)
  generalize l[0] = x0 at *
  clear s1 s2 s3 h2 HRD
  go_wp2_with fail
  refine (KG.out _ HVD.out).mono ?_
  rintro e w3 ⟨⟨B2, d2, rfl, hrw, hfr⟩, hb⟩
  have HFR := Lib.hid (fun q (h : blk B2 = some q) => Nat.le_trans HW.out.size (hfr q h))
  clear hfr
  have HW := Lib.hid (HW.out.trans (hb.mono HW.out.size))
  have HN2 := Lib.hid (heap_below HN2.out hb)
  have l0 := (hb.cell (p := ⟨b, off, none⟩) (cell_lt l0)).trans l0
  clear z0 z1 y0 y1 hb KG HVD HV
  generalize l.drop 8 = xs' at hrw HS1 HS2 HS3 ⊢
  generalize (getR xs').isSome = ok at HS1 HS2 HS3 ⊢
  generalize gtell xs' = gt at hrw HS2 HS3 ⊢
  obtain ⟨gn, gw⟩ := gt
  try simp only at hrw
  try simp only at HS2
  try simp only at HS3
  have HRW := Lib.hid hrw
  have hbx : Below w3.heap.size w3 (w3.alloc (.cells #[U gn, .slice B2 gw.length d2] 77)) := (Below.refl _ _).alloc (Nat.le_refl _) _
  have HRX := Lib.hid (hrw.below hbx)
  have HNX := Lib.hid (heap_below HN2.out hbx)
  have HWX := Lib.hid (HW.out.trans (hbx.mono HW.out.size))
  have l1 := (hbx.cell (p := ⟨b, off, none⟩) (cell_lt l0)).trans l0
  have z0 := Lib.frozen_of_heap HNX.out 0
  have z1 := Lib.frozen_of_heap HNX.out 1
  have y0 := Lib.cell_of_heap HNX.out 0
  have y1 := Lib.cell_of_heap HNX.out 1
  clear hrw hbx
  cases ok with
  | false =>
    have HR := Lib.hid (HS1.out rfl)
    clear HS2 HS3 HS1
    have HT := Lib.hid (show rtell l = (0#64, []) by unfold rtell; rw [HR.out]; rfl)
    go_wp2_with fail
    go_quiet (fail)
    go_wp2
    refine bodyPost_ret (v := .tuple #[.agg #[.int .u64 0, .slice none 0 0], .bool false, .int .i64 0]) ?_ rfl ⟨⟨none, 0, by rw [HR.out, HT.out]; rfl, by rw [HT.out]; exact RdW.nil_, fun q h => by cases h⟩, HBB.out _ (below_drew HWX.out _) _ _⟩
    unfold results
    rw [show Try.f55.results = #[.cell 2 77, .tmp 3, .tmp 4] from rfl]
    go_simp
    try rfl
  | true =>
    by_cases h3 : gn = x0
    · have HR := Lib.hid (HS3.out rfl h3)
      have h3b : (gn != x0) = false := by rw [h3]; simp
      have HT := Lib.hid (show rtell l = (gn, gw) by unfold rtell; rw [HR.out]; rfl)
      clear HS2 HS3 HS1 h3
      go_wp2_with fail
      go_quiet (fail)
      go_wp2
      refine bodyPost_ret (v := .tuple #[.agg #[U gn, .slice B2 gw.length d2], .bool true, .int .i64 0]) ?_ rfl ⟨⟨B2, d2, by rw [HR.out, HT.out]; rfl, by rw [HT.out]; exact HRX.out.two (HNX.out) _ _ _, HFR.out⟩, HBB.out _ (below_drew HWX.out _) _ _⟩
      unfold results
      rw [show Try.f55.results = #[.cell 2 77, .tmp 3, .tmp 4] from rfl]
      go_simp
      try rfl
    · have HR := Lib.hid (HS2.out rfl h3)
      have h3b : (gn != x0) = true := by rw [bne_iff_ne]; exact h3
      clear HS2 HS3 HS1 h3
      have HT := Lib.hid (show rtell l = (0#64, []) by unfold rtell; rw [HR.out]; rfl)
      go_wp2_with fail
      go_quiet (fail)
      go_wp2
      refine bodyPost_ret (v := .tuple #[.agg #[.int .u64 0, .slice none 0 0], .bool false, .int .i64 0]) ?_ rfl ⟨⟨none, 0, by rw [HR.out, HT.out]; rfl, by rw [HT.out]; exact RdW.nil_, fun q h => by cases h⟩, HBB.out _ (below_drew HWX.out _) _ _⟩
      unfold results
      rw [show Try.f55.results = #[.cell 2 77, .tmp 3, .tmp 4] from rfl]
      go_simp
      try rfl
  
theorem bkRead_on (m : Nat) (own : Nat → Nat) (G : MG) (a : AM) (f : Int) (n : Nat) (c : Int) (w : World) (hm : MemAt w m own G a) (hr : a.room 1000) (hf : SpFit f n) (ho : a.off = false) (hL : f + n ≤ a.ls.length) :
    Calls Try.prog 55 #[bkV m f n c] w fun e w' => RdPost (a.allOf f (8 * n)) e w' ∧ Below w.heap.size w w' :=
  (bkReadF_on m own G a f n c w hm hr hf ho hL).mono fun _ _ ⟨⟨B, d, h1, h2, _⟩, h3⟩ => ⟨⟨B, d, h1, h2⟩, h3⟩
end Go.Proofs.Ytoifejinppjeeaa
