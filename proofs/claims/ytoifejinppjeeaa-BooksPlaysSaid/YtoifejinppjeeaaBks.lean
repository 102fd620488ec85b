/- Package books and what its laws share: plain laws, has, Next, Keep, Done, Open, stands, All, the shelf. Conditions: those of MemAt; one to eight books of four lines each in one memory. -/
import Derived.Test.YtoifejinppjeeaaBookLaws
import Derived.Test.YtoifejinppjeeaaBook
import Derived.Shelf.SlSortCmp.InsertionK
import Derived.Shelf.SlicesE.Clone
import Derived.Shelf.SlGeneric
import Derived.Test.YtoifejinppjeeaaProg
import Derived.StillTailTactics
import Derived.Sort.OwnSorted
import Derived.Sort.LotA
import Derived.Test.YtoifejinppjeeaaRecs
import Derived.Test.YtoifejinppjeeaaBegun
namespace Go.Proofs.Ytoifejinppjeeaa
open Go.RowKit
set_option linter.unusedVariables false
set_option linter.unusedSimpArgs false
abbrev Rcd := BitVec 64 × List (Int × BitVec 64)
/-- Book i has this record, or none. -/
def Has (W : Nat → BitVec 64) (i : Nat) : Option Rcd → Prop
  | none => W (32 * i) = 0#64
  | some r => W (32 * i) = r.1 ∧ 0 < (recX r.1 r.2).length ∧ (recX r.1 r.2).length ≤ 24 ∧ ∀ q, q < (recX r.1 r.2).length → W (32 * i + 8 + q) = (recX r.1 r.2).getD q 0#64
structure BkSt (n : Nat) (a : AM) (st : List (Option Rcd)) : Prop where
  clean : Clean a
  len : st.length = n
  rg : ∃ W, Rg 1 0 W (4 * n) True a ∧ ∀ i (h : i < n), Has W i (st.getD i none)
theorem recX_num {num : BitVec 64} {ws : List (Int × BitVec 64)} (h : 0 < (recX num ws).length) : num ≠ 0#64 := by
  rintro rfl
  unfold recX recW at h
  split at h
  · simp at h
  · rw [if_pos (.inl rfl)] at h; simp at h
section
variable {n : Nat} {a : AM} {st : List (Option Rcd)}
theorem BkSt.read (h : BkSt n a st) {i : Nat} (hi : i < n) : readR (a.allOf ((4 * i : Nat) : Int) (8 * 4)) = st.getD i none := by
  obtain ⟨W, hrg, hs⟩ := h.rg
  have hw := hs i hi
  have e32 : 8 * (4 * i) = 32 * i := by omega
  cases hst : st.getD i none with
  | none =>
    rw [hst] at hw
    refine read_zero (F := 4 * i) (M := 4) ?_
    rw [hrg.wd _ (by omega), e32]; exact hw
  | some r =>
    rw [hst] at hw
    obtain ⟨h1, h2, h3, h4⟩ := hw
    refine read_rec (F := 4 * i) (M := 4) (by omega) h2 ?_ fun q hq => ?_
    · rw [hrg.wd _ (by omega), e32]; exact h1
    · rw [hrg.wd _ (by omega), show 8 * (4 * i) + 8 + q = 32 * i + 8 + q by omega]; exact h4 q hq
theorem Has.other {W : Nat → BitVec 64} {i j t : Nat} {us : List (BitVec 64)} {o : Option Rcd} (h : Has W j o) (hij : i ≠ j) (ht : t + us.length ≤ 32) : Has (wrW W (8 * (4 * i) + t) us) j o := by
  cases o with
  | none =>
    show wrW _ _ _ _ = _
    rw [wrW_off (by omega)]; exact h
  | some r =>
    obtain ⟨h1, h2, h3, h4⟩ := h
    refine ⟨by rw [wrW_off (by omega)]; exact h1, h2, h3, fun q hq => ?_⟩
    rw [wrW_off (by omega)]; exact h4 q hq
theorem getD_set_self {st : List (Option Rcd)} {i : Nat} (h : i < st.length) (o : Option Rcd) : (st.set i o).getD i none = o := by
  rw [List.getD_eq_getElem?_getD, List.getElem?_set, if_pos rfl, if_pos h]; rfl
theorem getD_set_other {st : List (Option Rcd)} {i j : Nat} (h : i ≠ j) (o : Option Rcd) : (st.set i o).getD j none = st.getD j none := by
  rw [List.getD_eq_getElem?_getD, List.getElem?_set, if_neg h, ← List.getD_eq_getElem?_getD]
/-- What Keep answers, and what there is then. -/
theorem BkSt.keep (h : BkSt n a st) {i : Nat} (hi : i < n) (num : BitVec 64) (ws : List (Int × BitVec 64)) :
    (((recX num ws).length = 0 ∨ 24 < (recX num ws).length) ∧ a.keepB ((4 * i : Nat) : Int) 4 num ws = (a, 1)) ∨
    (0 < (recX num ws).length ∧ (recX num ws).length ≤ 24 ∧ st.getD i none ≠ none ∧ a.keepB ((4 * i : Nat) : Int) 4 num ws = (a, 15)) ∨
    (0 < (recX num ws).length ∧ (recX num ws).length ≤ 24 ∧ st.getD i none = none ∧ ∃ a', a.keepB ((4 * i : Nat) : Int) 4 num ws = (a', 0) ∧ BkSt n a' (st.set i (some (num, ws)))) := by
  obtain ⟨W, hrg, hs⟩ := h.rg
  by_cases h0 : (recX num ws).length = 0 ∨ 24 < (recX num ws).length
  · left
    refine ⟨h0, ?_⟩
    unfold AM.keepB
    rw [if_pos (by omega)]
  right
  have h1 : 0 < (recX num ws).length := by omega
  have h2 : (recX num ws).length ≤ 24 := by omega
  have e4 : ((4 : Nat) : Int) = 4 := rfl
  have hwd := hrg.word (f := 4 * i) (n := 4) (t := 0) (by omega) (by omega)
  have e00 : ((0 : Nat) : Int) = 0 := rfl
  rw [e4, e00, Nat.add_zero, show 8 * (4 * i) = 32 * i by omega] at hwd
  have hw := hs i hi
  cases hst : st.getD i none with
  | some r =>
    left
    rw [hst] at hw
    refine ⟨h1, h2, by simp, ?_⟩
    unfold AM.keepB
    rw [if_neg (by omega), hwd, if_neg (fun h => h rfl), if_pos]
    show W (32 * i) ≠ 0#64
    rw [hw.1]
    exact recX_num hw.2.1
  | none =>
    right
    rw [hst] at hw
    refine ⟨h1, h2, rfl, ?_⟩
    have hk := keep_law (F := 4 * i) (M := 4) (num := num) (ws := ws) h.clean hrg (by omega) (by omega) h1 (by rw [show 8 * (4 * i) = 32 * i by omega]; exact hw)
    rw [e4] at hk
    rcases hk with ⟨_, _, _, k, _⟩ | ⟨k1, k2, k3⟩
    · exact absurd trivial k
    refine ⟨_, Prod.ext rfl k1, k2, by rw [List.length_set]; exact h.len, _, k3, fun j hj => ?_⟩
    by_cases hij : i = j
    · subst hij
      rw [getD_set_self (by rw [h.len]; exact hi)]
      refine ⟨?_, h1, h2, fun q hq => ?_⟩
      · rw [show 32 * i = 8 * (4 * i) by omega, wrW_at (t := 0) ⟨by omega, by simp⟩, Nat.add_zero, Nat.sub_self]; rfl
      · rw [show 32 * i + 8 + q = 8 * (4 * i) + 8 + q by omega, wrW_off (t := 0) (by simp; omega), wrW_at ⟨by omega, by simp only at hq; omega⟩, show 8 * (4 * i) + 8 + q - (8 * (4 * i) + 8) = q by omega]
    · rw [getD_set_other hij]
      exact ((hs j hj).other hij (by omega)).other hij (by simp)
/-- Done: no record there. -/
theorem BkSt.done (h : BkSt n a st) {i : Nat} (hi : i < n) : ∃ a', a.push ((4 * i : Nat) : Int) 4 0 [0#64] = (a', 0) ∧ BkSt n a' (st.set i none) := by
  obtain ⟨W, hrg, hs⟩ := h.rg
  have e4 : ((4 : Nat) : Int) = 4 := rfl
  have e00 : ((0 : Nat) : Int) = 0 := rfl
  have hp := push_law (F := 4 * i) (M := 4) (t := 0) (us := [0#64]) h.clean hrg (by omega) (by simp) (by simp)
  rw [e4, e00] at hp
  rcases hp with ⟨_, _, _, k, _⟩ | ⟨k1, k2, k3⟩
  · exact absurd trivial k
  refine ⟨_, Prod.ext rfl k1, k2, by rw [List.length_set]; exact h.len, _, k3, fun j hj => ?_⟩
  by_cases hij : i = j
  · subst hij
    rw [getD_set_self (by rw [h.len]; exact hi)]
    show wrW _ _ _ _ = _
    rw [show 32 * i = 8 * (4 * i) by omega, wrW_at (t := 0) ⟨by omega, by simp⟩, Nat.add_zero, Nat.sub_self]; rfl
  · rw [getD_set_other hij]
    exact (hs j hj).other hij (by simp)
theorem BkSt.fell (h : BkSt n a st) (ks : List Int) : BkSt n (a.crash ks).on st := by
  obtain ⟨W, hrg, hs⟩ := h.rg
  obtain ⟨g1, g2⟩ := h.clean.fell hrg ks
  exact ⟨g2, h.len, W, g1, hs⟩
theorem BkSt.off (h : BkSt n a st) : a.off = false := by
  obtain ⟨W, hrg, _⟩ := h.rg
  exact hrg.on
theorem BkSt.alen (h : BkSt n a st) : a.ls.length = 4 * n := by
  obtain ⟨W, hrg, _⟩ := h.rg
  exact hrg.len
theorem bkSt_new (n : Nat) : BkSt n (newA (4 * n)) (List.replicate n none) := by
  refine ⟨fromA_clean _ _, List.length_replicate, _, fromA_rg 1 0 (List.replicate (8 * (4 * n)) 0#64) (4 * n) (by simp), fun i hi => ?_⟩
  have e : (List.replicate n (none : Option Rcd)).getD i none = none := by
    rw [List.getD_eq_getElem?_getD, List.getElem?_replicate]
    split <;> rfl
  rw [e]
  exact zeroW _ _
end
end Go.Proofs.Ytoifejinppjeeaa
namespace Go.Proofs.Ytoifejinppjeeaa
open Go.RowKit
set_option linter.unusedVariables false
set_option linter.unusedSimpArgs false
/-- The books' cells: book i has the lines from 4 i on, and client i. -/
def BkAt (w : World) (b off m i : Nat) : Prop :=
  w.cell? ⟨b, off + i * 4, none⟩ = some (.pointer (some ⟨m, 0, none⟩)) ∧ w.cell? ⟨b, off + i * 4 + 1, none⟩ = some (.int .i64 (((4 * i : Nat)) : Int)) ∧ w.cell? ⟨b, off + i * 4 + 2, none⟩ = some (.int .i64 4) ∧ w.cell? ⟨b, off + i * 4 + 3, none⟩ = some (.int .i64 i)
structure BksAt (w : World) (x b off c m n : Nat) (last : BitVec 64) : Prop where
  blk : w.heap[x]? = some (.cells #[.slice (some ⟨b, off, none⟩) n c, U last] 134 (0, 0))
  row : ∀ i, i < n → BkAt w b off m i
  ne : x ≠ b
section
variable {w w' : World} {x b off c m n : Nat} {last : BitVec 64}
theorem BksAt.same (h : BksAt w x b off c m n last) (h1 : w'.heap[x]? = w.heap[x]?) (h2 : w'.heap[b]? = w.heap[b]?) : BksAt w' x b off c m n last :=
  ⟨h1.trans h.blk, fun i hi => by
    obtain ⟨g1, g2, g3, g4⟩ := h.row i hi
    exact ⟨(World.cell?_of_block h2).trans g1, (World.cell?_of_block h2).trans g2, (World.cell?_of_block h2).trans g3, (World.cell?_of_block h2).trans g4⟩, h.ne⟩
theorem BksAt.lt (h : BksAt w x b off c m n last) : x < w.heap.size := heap_lt h.blk
theorem BksAt.blt (h : BksAt w x b off c m n last) (hn : 0 < n) : b < w.heap.size := cell_lt (h.row 0 hn).1
theorem BksAt.below (h : BksAt w x b off c m n last) (hn : 0 < n) (hb : Below w.heap.size w w') : BksAt w' x b off c m n last := h.same (hb.block x h.lt) (hb.block b (h.blt hn))
theorem bksHas_any (h : BksAt w x b off c m n last) (z : Int) : Calls Try.prog 97 #[.pointer (some ⟨x, 0, none⟩), .int .i64 z] w fun e w' => e = .returned (.bool (decide (0 ≤ z ∧ z < (n : Int)))) ∧ w = w' := by
  have c0 := Lib.cell_of_heap h.blk 0
  by_cases h0 : z < 0
  · have hd : decide (0 ≤ z ∧ z < (n : Int)) = false := decide_eq_false (by omega)
    rw [hd]
    clear h hd
    go_enter Try.func97, Try.ntmps97
    go_wp2
    go_ret
    exact ⟨rfl, rfl⟩
  by_cases h1 : z < (n : Int)
  · have hd : decide (0 ≤ z ∧ z < (n : Int)) = true := decide_eq_true (by omega)
    rw [hd]
    clear h hd
    go_enter Try.func97, Try.ntmps97
    go_wp2
    go_ret
    exact ⟨rfl, rfl⟩
  · have hd : decide (0 ≤ z ∧ z < (n : Int)) = false := decide_eq_false (by omega)
    rw [hd]
    clear h hd
    go_enter Try.func97, Try.ntmps97
    go_wp2
    go_ret
    exact ⟨rfl, rfl⟩
def nextN (last : BitVec 64) : BitVec 64 := if last = 18446744073709551615#64 then last else last + 1#64
theorem bksNext_any (h : BksAt w x b off c m n last) : Calls Try.prog 67 #[.pointer (some ⟨x, 0, none⟩)] w fun e w' => e = .returned (U (nextN last)) ∧ w = w' := by
  have c1 := Lib.cell_of_heap h.blk 1
  by_cases h0 : last = 18446744073709551615#64
  · have hd : nextN last = last := if_pos h0
    rw [hd]
    have hb : (last == BitVec.ofInt 64 18446744073709551615) = true := by rw [h0]; decide
    have hb2 : (last == 18446744073709551615#64) = true := by rw [h0]; decide
    clear h hd h0
    go_enter Try.func67, Try.ntmps67
    go_wp2
    go_ret
    exact ⟨rfl, rfl⟩
  · have hd : nextN last = last + 1#64 := if_neg h0
    rw [hd]
    have hb2 : (last == 18446744073709551615#64) = false := by rw [beq_eq_false_iff_ne]; exact h0
    have hb : (last == BitVec.ofInt 64 18446744073709551615) = false := by rw [beq_eq_false_iff_ne]; exact h0
    clear h hd h0
    go_enter Try.func67, Try.ntmps67
    go_wp2
    go_ret
    exact ⟨rfl, rfl⟩
end
end Go.Proofs.Ytoifejinppjeeaa
namespace Go.Proofs.Ytoifejinppjeeaa
open Go.RowKit
set_option linter.unusedVariables false
set_option linter.unusedSimpArgs false
/-- Nothing but the memory's own blocks, block x and new ones may have changed. -/
structure MFx (x : Nat) (w w' : World) (own own' : Nat → Nat) : Prop where
  os : w'.os = w.os
  tape : w'.tape = w.tape
  output : w'.output = w.output
  size : w.heap.size ≤ w'.heap.size
  block : ∀ k, k < w.heap.size → own k = 0 → k ≠ x → w'.heap[k]? = w.heap[k]?
  kept : ∀ k, k < w.heap.size → own' k = own k
theorem MFx.of_fr {x : Nat} {w w' : World} {own own' : Nat → Nat} (h : MFr w w' own own') : MFx x w w' own own' := ⟨h.os, h.tape, h.output, h.size, fun k hk h0 _ => h.block k hk (.inl h0), h.kept⟩
theorem MFx.trans {x : Nat} {a b c : World} {o p q : Nat → Nat} (h : MFx x a b o p) (k : MFx x b c p q) : MFx x a c o q :=
  ⟨k.os.trans h.os, k.tape.trans h.tape, k.output.trans h.output, Nat.le_trans h.size k.size,
   fun j hj h0 hx => (k.block j (Nat.lt_of_lt_of_le hj h.size) (by rw [h.kept j hj]; exact h0) hx).trans (h.block j hj h0 hx), fun j hj => (k.kept j (Nat.lt_of_lt_of_le hj h.size)).trans (h.kept j hj)⟩
theorem MFx.below {x B : Nat} {w w' : World} {own own' : Nat → Nat} (h : MFx x w w' own own') (hB : B ≤ w.heap.size) (h0 : ∀ k, k < B → own k = 0) (hx : B ≤ x) : Below B w w' :=
  ⟨h.os, h.tape, h.output, h.size, fun k hk => h.block k (by omega) (h0 k hk) (by omega)⟩
theorem MFx.low {x B : Nat} {w w' : World} {own own' : Nat → Nat} (h : MFx x w w' own own') (hB : B ≤ w.heap.size) (h0 : ∀ k, k < B → own k = 0) : ∀ k, k < B → own' k = 0 :=
  fun k hk => (h.kept k (by omega)).trans (h0 k hk)
theorem MFx.heap {x : Nat} {w w' : World} {own own' : Nat → Nat} {q : Nat} {o : Obj} (h : MFx x w w' own own') (hq : w.heap[q]? = some o) (h0 : own q = 0) (hx : q ≠ x) : w'.heap[q]? = some o ∧ own' q = 0 :=
  ⟨(h.block q (heap_lt hq) h0 hx).trans hq, (h.kept q (heap_lt hq)).trans h0⟩
/-- What a call of the books leaves. -/
def BkPost (w : World) (x b off c m n : Nat) (own : Nat → Nat) (G : MG) (a' : AM) (last' : BitVec 64) (w' : World) : Prop :=
  ∃ own', MemAt w' m own' G a' ∧ MFx x w w' own own' ∧ BksAt w' x b off c m n last' ∧ own' x = 0 ∧ own' b = 0
set_option maxRecDepth 100000 in
set_option maxHeartbeats 4000000 in
theorem bksDone_any (x b off c m n : Nat) (last : BitVec 64) (own : Nat → Nat) (G : MG) (a : AM) (i N : Nat) (w : World) (hb : BksAt w x b off c m n last) (hm : MemAt w m own G a) (hx : own x = 0) (hob : own b = 0) (hcl : Clean a) (hc : a.cnt N) (hN : N ≤ 50000) (hi : i < n) (hn : n ≤ 8) :
    Calls Try.prog 66 #[.pointer (some ⟨x, 0, none⟩), .int .i64 i] w fun e w' => e = .returned (.int .i64 (a.push ((4 * i : Nat) : Int) 4 0 [0#64]).2) ∧ BkPost w x b off c m n own G (a.push ((4 * i : Nat) : Int) 4 0 [0#64]).1 last w' := by
  have KH := Lib.hid (bksHas_any hb i)
  rw [decide_eq_true (show 0 ≤ (i : Int) ∧ (i : Int) < (n : Int) by omega)] at KH
  have KC := Lib.hid (bkClear_any m own G a ((4 * i : Nat) : Int) 4 i 0 N w hm hcl.room hc (by omega) hN ⟨by omega⟩)
  have c0 := Lib.cell_of_heap hb.blk 0
  obtain ⟨r0, r1, r2, r3⟩ := hb.row i hi
  have hin : (i : Int) < (n : Int) := by omega
  have HB := Lib.hid hb
  have hbl := hb.blt (by omega)
  clear hm hcl hc
  generalize a.push ((4 * i : Nat) : Int) 4 0 [0#64] = pr at *
  obtain ⟨a1, k1⟩ := pr
  unfold bkV at KC
  obtain ⟨f4, hf4⟩ : ∃ q : Nat, 4 * i = q := ⟨_, rfl⟩
  rw [hf4] at KC r1
  clear hb hf4
  go_enter Try.func66, Try.ntmps66
  go_wp2_with fail
  refine KH.out.mono ?_
  rintro e w1 ⟨rfl, rfl⟩
  go_wp2_with fail
  refine KC.out.mono ?_
  rintro e w2 ⟨rfl, own2, hm2, hfr⟩
  have HP := Lib.hid (show BkPost w x b off c m n own G a1 last w2 from ⟨own2, hm2, MFx.of_fr hfr, HB.out.same (hfr.block x HB.out.lt (.inl hx)) (hfr.block b hbl (.inl hob)), (hfr.kept x HB.out.lt).trans hx, (hfr.kept b hbl).trans hob⟩)
  clear hm2 hfr
  go_wp2
  go_ret
  exact ⟨rfl, HP.out⟩
end Go.Proofs.Ytoifejinppjeeaa
namespace Go.Proofs.Ytoifejinppjeeaa
open Go.RowKit
set_option linter.unusedVariables false
set_option linter.unusedSimpArgs false
theorem BksAt.setLast {w : World} {x b off c m n : Nat} {last : BitVec 64} (h : BksAt w x b off c m n last) (v : BitVec 64) : BksAt (w.setCell ⟨x, 1, none⟩ (U v)) x b off c m n v := by
  have hb : (w.setCell ⟨x, 1, none⟩ (U v)).heap[b]? = w.heap[b]? := Below.heap_setCell _ _ _ _ (by simpa using fun e => h.ne e.symm)
  refine ⟨?_, fun i hi => ?_, h.ne⟩
  · rw [Go.Joins.block_setCell (i := 1) h.blk]; simp
  · obtain ⟨g1, g2, g3, g4⟩ := h.row i hi
    exact ⟨(World.cell?_of_block hb).trans g1, (World.cell?_of_block hb).trans g2, (World.cell?_of_block hb).trans g3, (World.cell?_of_block hb).trans g4⟩
theorem MFx.setX {x : Nat} {w w' : World} {own own' : Nat → Nat} (h : MFx x w w' own own') (i : Nat) (v : Value) : MFx x w (w'.setCell ⟨x, i, none⟩ v) own own' :=
  ⟨h.os, h.tape, h.output, by simpa [World.setCell] using h.size, fun k hk h0 hx => (Below.heap_setCell _ _ _ _ (by simpa using hx)).trans (h.block k hk h0 hx), h.kept⟩
theorem MemAt.setX {w : World} {m x : Nat} {own : Nat → Nat} {G : MG} {a : AM} (h : MemAt w m own G a) (hx : own x = 0) (i : Nat) (v : Value) : MemAt (w.setCell ⟨x, i, none⟩ v) m own G a :=
  h.same (by simp [World.setCell]) fun q _ hq => Below.heap_setCell _ _ _ _ (by
    simp only
    rintro rfl
    exact hq hx)
set_option maxRecDepth 100000 in
set_option maxHeartbeats 4000000 in
theorem bksKeep_any (x b off c m n : Nat) (last : BitVec 64) (own : Nat → Nat) (G : MG) (a : AM) (i N : Nat) (ws : List (Int × BitVec 64)) (L : Option Addr) (lc : Nat) (w : World) (hb : BksAt w x b off c m n last) (hm : MemAt w m own G a) (hx : own x = 0) (hob : own b = 0) (hcl : Clean a) (hc : a.cnt N) (hN : N ≤ 50000) (hi : i < n) (hn : n ≤ 8) (hl : RdW w L ws) :
    Calls Try.prog 63 #[.pointer (some ⟨x, 0, none⟩), .int .i64 i, .slice L ws.length lc] w fun e w' => e = .returned (.tuple #[U (if (a.keepB ((4 * i : Nat) : Int) 4 (nextN last) ws).2 = 0 then nextN last else 0#64), .int .i64 (a.keepB ((4 * i : Nat) : Int) 4 (nextN last) ws).2]) ∧
      BkPost w x b off c m n own G (a.keepB ((4 * i : Nat) : Int) 4 (nextN last) ws).1 (if (a.keepB ((4 * i : Nat) : Int) 4 (nextN last) ws).2 = 0 then nextN last else last) w' := by
  have KH := Lib.hid (bksHas_any hb i)
  rw [decide_eq_true (show 0 ≤ (i : Int) ∧ (i : Int) < (n : Int) by omega)] at KH
  have KN := Lib.hid (bksNext_any hb)
  have KC := Lib.hid (bkKeep_any m own G a ((4 * i : Nat) : Int) 4 i (nextN last) ws L lc 0 N w hm hcl.room hc (by omega) hN ⟨by omega⟩ hl)
  have c0 := Lib.cell_of_heap hb.blk 0
  obtain ⟨r0, r1, r2, r3⟩ := hb.row i hi
  have hin : (i : Int) < (n : Int) := by omega
  have HB := Lib.hid hb
  have hbl := hb.blt (by omega)
  clear hm hcl hc hl
  generalize nextN last = nx at *
  generalize a.keepB ((4 * i : Nat) : Int) 4 nx ws = pr at *
  obtain ⟨a1, k1⟩ := pr
  unfold bkV at KC
  obtain ⟨f4, hf4⟩ : ∃ q : Nat, 4 * i = q := ⟨_, rfl⟩
  rw [hf4] at KC r1
  clear hb hf4
  by_cases hk : k1 = 0
  · subst hk
    simp only [if_true]
    go_enter Try.func63, Try.ntmps63
    go_wp2_with fail
    refine KH.out.mono ?_
    rintro e w1 ⟨rfl, rfl⟩
    go_wp2_with fail
    refine KN.out.mono ?_
    rintro e w1 ⟨rfl, rfl⟩
    go_wp2_with fail
    refine KC.out.mono ?_
    rintro e w2 ⟨rfl, own2, hm2, hfr⟩
    have HB2 := Lib.hid (HB.out.same (hfr.block x HB.out.lt (.inl hx)) (hfr.block b hbl (.inl hob)))
    have hx2 := (hfr.kept x HB.out.lt).trans hx
    have HP := Lib.hid (show BkPost w x b off c m n own G a1 nx (w2.setCell ⟨x, 1, none⟩ (U nx)) from ⟨own2, hm2.setX hx2 _ _, (MFx.of_fr hfr).setX _ _, HB2.out.setLast nx, hx2, (hfr.kept b hbl).trans hob⟩)
    have c1 := Lib.cell_of_heap HB2.out.blk 1
    have z1 : w2.frozen? ⟨x, 1, none⟩ = false := Lib.frozen_of_heap HB2.out.blk 1
    clear hm2 hfr c0 r0 r1 r2 r3
    go_wp2
    go_ret2
    exact ⟨rfl, HP.out⟩
  · have hk2 : (k1 != 0) = true := by simp [hk]
    have hk3 : (k1 == 0) = false := by simp [hk]
    rw [if_neg hk, if_neg hk]
    go_enter Try.func63, Try.ntmps63
    go_wp2_with fail
    refine KH.out.mono ?_
    rintro e w1 ⟨rfl, rfl⟩
    go_wp2_with fail
    refine KN.out.mono ?_
    rintro e w1 ⟨rfl, rfl⟩
    go_wp2_with fail
    refine KC.out.mono ?_
    rintro e w2 ⟨rfl, own2, hm2, hfr⟩
    have HP := Lib.hid (show BkPost w x b off c m n own G a1 last w2 from ⟨own2, hm2, MFx.of_fr hfr, HB.out.same (hfr.block x HB.out.lt (.inl hx)) (hfr.block b hbl (.inl hob)), (hfr.kept x HB.out.lt).trans hx, (hfr.kept b hbl).trans hob⟩)
    clear hm2 hfr
    go_wp2
    go_ret2
    exact ⟨rfl, HP.out⟩
end Go.Proofs.Ytoifejinppjeeaa
namespace Go.Proofs
open Go.Shelf
def Try.insStood_ren : Go.Shelf.Ren := ⟨fun | 20 => 132 | n => n, fun | 24 => 138 | 22 => 135 | 3 => 3 | 25 => 159 | 4 => 4 | 0 => 0 | n => n, fun | n => n⟩
theorem Try.insStood : Go.Proofs.SlLaysF0.n20 Try.prog Try.insStood_ren := {
  mixed := by kernel_rfl
  f20 := ⟨Try.f132.name, by decide, Try.func132.trans (congrArg some (by kernel_rfl))⟩
  t0 := Try.underlying0
  a0 := Try.isAgg0
  z0 := Try.sizeOf0
  v0 := Try.zeroValue0
  t3 := Try.underlying3
  a3 := Try.isAgg3
  z3 := Try.sizeOf3
  v3 := Try.zeroValue3
  t4 := Try.underlying4
  a4 := Try.isAgg4
  z4 := Try.sizeOf4
  v4 := Try.zeroValue4
  t22 := Try.underlying135
  a22 := Try.isAgg135
  z22 := Try.sizeOf135
  v22 := Try.zeroValue135
  t25 := Try.underlying159
  a25 := Try.isAgg159
  z25 := Try.sizeOf159
  v25 := Try.zeroValue159 }
def Try.cloneBook_ren : Go.Shelf.Ren := ⟨fun | 41 => 96 | n => n, fun | 22 => 90 | 23 => 72 | 4 => 4 | n => n, fun | n => n⟩
theorem Try.cloneBook : Go.Proofs.SlLaysE0.n41 Try.prog Try.cloneBook_ren := {
  mixed := by kernel_rfl
  f41 := ⟨Try.f96.name, by decide, Try.func96.trans (congrArg some (by kernel_rfl))⟩
  t4 := Try.underlying4
  a4 := Try.isAgg4
  z4 := Try.sizeOf4
  v4 := Try.zeroValue4
  t22 := Try.underlying90
  a22 := Try.isAgg90
  z22 := Try.sizeOf90
  v22 := Try.zeroValue90 }
end Go.Proofs
namespace Go.Proofs.Ytoifejinppjeeaa
open Go.RowKit
set_option linter.unusedVariables false
set_option linter.unusedSimpArgs false
def maxW (a b : BitVec 64) : BitVec 64 := if a.toNat < b.toNat then b else a
theorem max_U (ts : Array TypeId) (t : TypeId) (a b : BitVec 64) : Builtin.max_ ts t #[U a, U b] = pure (U (maxW a b)) := by
  show Builtin.max_ ts t #[.int .u64 (a.toNat : Int), .int .u64 (b.toNat : Int)] = _
  unfold Builtin.max_ maxW
  simp only [List.foldlM_cons, List.foldlM_nil, Builtin.max2]
  by_cases h : a.toNat < b.toNat
  · have h2 : ((b.toNat : Int) > (a.toNat : Int)) := by omega
    rw [if_pos h, if_pos h2]; rfl
  · have h2 : ¬ ((b.toNat : Int) > (a.toNat : Int)) := by omega
    rw [if_neg h, if_neg h2]; rfl
attribute [go_sem] max_U
def numOf (o : Option Rcd) : BitVec 64 := (o.getD (0#64, [])).1
def lastTo (st : List (Option Rcd)) (k : Nat) : BitVec 64 := (st.take k).foldl (fun acc o => maxW acc (numOf o)) 0#64
theorem lastTo_succ (st : List (Option Rcd)) (k : Nat) (h : k < st.length) : lastTo st (k + 1) = maxW (lastTo st k) (numOf (st.getD k none)) := by
  unfold lastTo
  rw [List.take_succ_eq_append_getElem h, List.foldl_append]
  rw [List.getD_eq_getElem?_getD, List.getElem?_eq_getElem h]
  rfl
/-- The cells of n books. -/
def bkCells (m : Nat) : Nat → List Value
  | 0 => []
  | n + 1 => bkCells m n ++ [.pointer (some ⟨m, 0, none⟩), .int .i64 ((4 * n : Nat) : Int), .int .i64 4, .int .i64 n]
theorem bkCells_len (m n : Nat) : (bkCells m n).length = n * 4 := by
  induction n with
  | zero => rfl
  | succ n ih => simp [bkCells, ih]; omega
theorem bkCells_at (m : Nat) : ∀ (n i : Nat), i < n → (bkCells m n)[i * 4]? = some (.pointer (some ⟨m, 0, none⟩)) ∧ (bkCells m n)[i * 4 + 1]? = some (.int .i64 ((4 * i : Nat) : Int)) ∧ (bkCells m n)[i * 4 + 2]? = some (.int .i64 4) ∧ (bkCells m n)[i * 4 + 3]? = some (.int .i64 i)
  | 0, i, h => by omega
  | n + 1, i, h => by
    have hl := bkCells_len m n
    by_cases hi : i < n
    · obtain ⟨g0, g1, g2, g3⟩ := bkCells_at m n i hi
      unfold bkCells
      rw [List.getElem?_append_left (by omega), List.getElem?_append_left (by omega), List.getElem?_append_left (by omega), List.getElem?_append_left (by omega)]
      exact ⟨g0, g1, g2, g3⟩
    · obtain rfl : i = n := by omega
      unfold bkCells
      rw [List.getElem?_append_right (by omega), List.getElem?_append_right (by omega), List.getElem?_append_right (by omega), List.getElem?_append_right (by omega), hl]
      simp [show i * 4 + 1 - i * 4 = 1 by omega, show i * 4 + 2 - i * 4 = 2 by omega, show i * 4 + 3 - i * 4 = 3 by omega]
theorem bkCells_one (m n : Nat) : ∀ u ∈ bkCells m n, u.oneCell' = true := by
  induction n with
  | zero => intro u h; cases h
  | succ n ih =>
    intro u h
    rcases List.mem_append.1 h with h | h
    · exact ih u h
    · simp at h
      rcases h with rfl | rfl | rfl | rfl <;> rfl
theorem bk_cells {w : World} {b off m n : Nat} (h : ∀ i, i < n → BkAt w b off m i) : ∀ j u, (bkCells m n)[j]? = some u → w.cell? ⟨b, off + j, none⟩ = some u := by
  intro j u hj
  have hl : j < n * 4 := by
    rcases Nat.lt_or_ge j (bkCells m n).length with h1 | h1
    · rw [bkCells_len] at h1; exact h1
    · rw [List.getElem?_eq_none h1] at hj; cases hj
  have hi : j / 4 < n := by omega
  obtain ⟨g0, g1, g2, g3⟩ := bkCells_at m n (j / 4) hi
  obtain ⟨r0, r1, r2, r3⟩ := h (j / 4) hi
  have hc : j = j / 4 * 4 ∨ j = j / 4 * 4 + 1 ∨ j = j / 4 * 4 + 2 ∨ j = j / 4 * 4 + 3 := by omega
  rcases hc with e | e | e | e
  · rw [e] at hj ⊢; rw [g0] at hj; rw [← hj]; exact r0
  · rw [e] at hj ⊢; rw [g1] at hj; rw [← hj]; exact r1
  · rw [e] at hj ⊢; rw [g2] at hj; rw [← hj]; exact r2
  · rw [e] at hj ⊢; rw [g3] at hj; rw [← hj]; exact r3
theorem infoBk : (Try.prog.info? 72).map (fun i => (i.zero, i.size, i.bytes)) = some (some (.agg #[.pointer none, .int .i64 0, .int .i64 0, .int .i64 0]), 4, 32) := by kernel_rfl
theorem clone_bk {w : World} {b off c m n : Nat} (h : ∀ i, i < n → BkAt w b off m i) (hn : n ≤ 8) (hn0 : 0 < n) :
    Calls Try.prog 96 #[.slice (some ⟨b, off, none⟩) n c] w fun e w' => (∃ b' c', e = .returned (.slice (some ⟨b', 0, none⟩) n c') ∧ w.heap.size ≤ b' ∧ b' < w'.heap.size ∧ n ≤ c' ∧ c' ≤ maxLen ∧ ∀ i, i < n → BkAt w' b' 0 m i) ∧ Below w.heap.size w w' := by
  obtain ⟨i0, hi, hz0, hz1, hz2⟩ := info_parts infoBk
  have hc := AnyE.slices_Clone Try.cloneBook i0 _ 4 32 hi hz0 hz1 hz2 rfl (by omega) Try.sizeOf72 b off n c (bkCells m n) w (bkCells_len m n) (by unfold maxLen; omega) (by omega) (bk_cells h) (bkCells_one m n)
  refine Calls.mono (show Calls Try.prog 96 _ _ _ from hc) ?_
  rintro e w' ⟨v, rfl, hown, hnn, hb⟩
  rcases hown.2 with ⟨hv, h0⟩ | ⟨g, cap, cur, hv, hg, hh, hnc, hcm, hcs, ht⟩
  · omega
  · subst hv
    refine ⟨⟨g, cap, rfl, hg, (Array.getElem?_eq_some_iff.1 hh).1, hnc, hcm, fun i hi => ?_⟩, hb⟩
    obtain ⟨g0, g1, g2, g3⟩ := bkCells_at m n i hi
    have key : ∀ j u, (bkCells m n)[j]? = some u → w'.cell? ⟨g, 0 + j, none⟩ = some u := fun j u hj => by
      have hl : j < n * 4 := by
        rcases Nat.lt_or_ge j (bkCells m n).length with h1 | h1
        · rw [bkCells_len] at h1; exact h1
        · rw [List.getElem?_eq_none h1] at hj; cases hj
      rw [cell_of_row w' g (0 + j) cur _ (0, 0) hh, Nat.zero_add, ← hj, ← ht, List.getElem?_take_of_lt hl]
      simp
    have k1 := key _ _ g1
    have k2 := key _ _ g2
    have k3 := key _ _ g3
    rw [← Nat.add_assoc] at k1 k2 k3
    exact ⟨key _ _ g0, k1, k2, k3⟩
end Go.Proofs.Ytoifejinppjeeaa
namespace Go.Proofs.Ytoifejinppjeeaa
open Go.RowKit
set_option linter.unusedVariables false
set_option linter.unusedSimpArgs false
set_option maxRecDepth 100000 in
set_option maxHeartbeats 4000000 in
theorem bksOpen_any (b off c m n : Nat) (own : Nat → Nat) (G : MG) (a : AM) (st : List (Option Rcd)) (w : World) (hr : ∀ i, i < n → BkAt w b off m i) (hm : MemAt w m own G a) (hs : BkSt n a st) (hn0 : 0 < n) (hn : n ≤ 8) :
    Calls Try.prog 62 #[.slice (some ⟨b, off, none⟩) n c] w fun e w' => (∃ x b' c', e = .returned (.tuple #[.pointer (some ⟨x, 0, none⟩), .int .i64 0]) ∧ BksAt w' x b' 0 c' m n (lastTo st n) ∧ w.heap.size ≤ x ∧ w.heap.size ≤ b') ∧ Below w.heap.size w w' := by
  have KC := Lib.hid (clone_bk (c := c) hr hn hn0)
  have HR := Lib.hid hr
  have HM := Lib.hid hm
  have HS := Lib.hid hs
  have hblt : b < w.heap.size := cell_lt (hr 0 hn0).1
  have k1 : decide ((n : Int) < 1) = false := decide_eq_false (by omega)
  have k2 : decide ((8 : Int) < n) = false := decide_eq_false (by omega)
  have k3 : decide (n < 1) = false := decide_eq_false (by omega)
  have k4 : decide (8 < n) = false := decide_eq_false (by omega)
  have HN := Lib.hid hn
  have HN0 := Lib.hid hn0
  clear hr hm hs hn hn0
  go_enter Try.func62, Try.ntmps62
  go_wp2_with fail
  refine KC.out.mono ?_
  rintro e w1 ⟨⟨b', c', rfl, hb1, hb2, hcc, hcm, hrow⟩, hb⟩
  have HB1 := Lib.hid (hb.alloc hb.size (.cells #[.slice (some ⟨b', 0, none⟩) n c', .int .u64 0] 134))
  have hal : Below w1.heap.size w1 (w1.alloc (.cells #[.slice (some ⟨b', 0, none⟩) n c', .int .u64 0] 134)) := (Below.refl _ _).alloc (Nat.le_refl _) _
  have HX := Lib.hid (show BksAt (w1.alloc (.cells #[.slice (some ⟨b', 0, none⟩) n c', .int .u64 0] 134)) w1.heap.size b' 0 c' m n 0#64 from
    ⟨heap_alloc_new w1 _, fun i hi => by
      obtain ⟨g0, g1, g2, g3⟩ := hrow i hi
      exact ⟨(hal.cell (p := ⟨b', _, none⟩) hb2).trans g0, (hal.cell (p := ⟨b', _, none⟩) hb2).trans g1, (hal.cell (p := ⟨b', _, none⟩) hb2).trans g2, (hal.cell (p := ⟨b', _, none⟩) hb2).trans g3⟩, by omega⟩)
  have HXL := Lib.hid (show w.heap.size ≤ w1.heap.size from hb.size)
  have HBL := Lib.hid (show w.heap.size ≤ b' from hb1)
  clear KC hrow hal hb hb1 hb2
  go_wp2
  generalize hx : w1.heap.size = x at HX HXL ⊢
  clear hx
  go_loopw [24] (fun i wr => ∃ k : Nat, k ≤ n ∧ i = .int .i64 k ∧ BksAt wr x b' 0 c' m n (lastTo st k) ∧ Below w.heap.size w wr) (fun i _ => n - (intOf i).toNat)
  case atStart => exact ⟨0, Nat.zero_le _, rfl, HX.out, HB1.out⟩
  case round =>
    clear HX HB1
    obtain ⟨k, hk, rfl, hbk, hbw⟩ := hrel
    have HX := Lib.hid hbk
    have HB := Lib.hid hbw
    clear hbk hbw
    by_cases hlt : k < n
    · obtain ⟨r0, r1, r2, r3⟩ := HR.out k hlt
      have r0 := (HB.out.cell (p := ⟨b, _, none⟩) hblt).trans r0
      have r1 := (HB.out.cell (p := ⟨b, _, none⟩) hblt).trans r1
      have r2 := (HB.out.cell (p := ⟨b, _, none⟩) hblt).trans r2
      have r3 := (HB.out.cell (p := ⟨b, _, none⟩) hblt).trans r3
      have e1 : IntKind.i64.wrap ((k : Int) + 1) = (k : Int) + 1 := IntWalk.i64_in _ (by have := HN.out; omega)
      obtain ⟨f4, hf4⟩ : ∃ q : Nat, 4 * k = q := ⟨_, rfl⟩
      rw [hf4] at r1
      have HRK := Lib.hid (show rtell (a.allOf ((f4 : Nat) : Int) (8 * 4)) = (st.getD k none).getD (0#64, []) by
        unfold rtell; rw [← hf4, HS.out.read hlt])
      have HBR := Lib.hid (fun W (h : Below w.heap.size w W) => show Calls Try.prog 55 #[bkV m (f4 : Int) 4 k] W fun e w' => RdPost (a.allOf (f4 : Int) (8 * 4)) e w' ∧ Below W.heap.size W w' from
        bkRead_on m own G a (f4 : Int) 4 k W (HM.out.below h) (room_mono HS.out.clean.room (by omega)) ⟨by have := HN.out; omega⟩ HS.out.off (by rw [HS.out.alen]; have := HN.out; omega))
      have HLS := Lib.hid (lastTo_succ st k (by rw [HS.out.len]; exact hlt))
      unfold RdPost at HBR
      rw [HRK.out] at HBR
      have HNV := Lib.hid (show ((st.getD k none).getD (0#64, [])).1 = numOf (st.getD k none) from rfl)
      rw [← HNV.out] at HLS
      clear hf4 HRK HNV
      generalize (st.getD k none).getD (0#64, []) = pr at *
      obtain ⟨nv, wv⟩ := pr
      simp only at HBR HLS
      have HB2 := Lib.hid (HB.out.alloc HB.out.size (.cells #[.pointer (some ⟨m, 0, none⟩), .int .i64 f4, .int .i64 4, .int .i64 k] 72))
      have hal : Below wr.heap.size wr (wr.alloc (.cells #[.pointer (some ⟨m, 0, none⟩), .int .i64 f4, .int .i64 4, .int .i64 k] 72)) := (Below.refl _ _).alloc (Nat.le_refl _) _
      have HX2 := Lib.hid (HX.out.below HN0.out hal)
      clear hal HB HX
      go_wp2_with fail
      refine (HBR.out _ HB2.out).mono ?_
      rintro e w3 ⟨⟨B9, d9, rfl, hrw⟩, hb⟩
      have HB3 := Lib.hid (HB2.out.trans (hb.mono HB2.out.size))
      have HX3 := Lib.hid (HX2.out.below HN0.out hb)
      have hal : Below w3.heap.size w3 (w3.alloc (.cells #[U nv, .slice B9 wv.length d9] 77)) := (Below.refl _ _).alloc (Nat.le_refl _) _
      have HB4 := Lib.hid (HB3.out.alloc HB3.out.size (.cells #[U nv, .slice B9 wv.length d9] 77))
      have HX4 := Lib.hid (HX3.out.below HN0.out hal)
      have HQ := Lib.hid (heap_alloc_new w3 (.cells #[U nv, .slice B9 wv.length d9] 77))
      have HQX := Lib.hid (show w3.heap.size ≠ x by have := HX3.out.lt; omega)
      clear hb hal hrw HBR HB2 HX2 HB3 HX3 r0 r1 r2 r3
      go_wp2
      generalize w3.alloc (.cells #[U nv, .slice B9 wv.length d9] 77) = w4 at *
      generalize w3.heap.size = q4 at *
      generalize lastTo st k = lk at *
      have c1 := Lib.cell_of_heap HX4.out.blk 1
      have z1 : w4.frozen? ⟨x, 1, none⟩ = false := Lib.frozen_of_heap HX4.out.blk 1
      have q0 := Lib.cell_of_heap HQ.out 0
      go_still_tail 8, (by kernel_rfl)
      change wpList _ _ _ _ _ w4.drew
      have hbd : Below w4.heap.size w4 w4.drew := (Below.refl w4.heap.size w4).drew
      have HX5 := Lib.hid (show BksAt (w4.drew.setCell ⟨x, 1, none⟩ (U (maxW lk nv))) x b' 0 c' m n (lastTo st (k + 1)) by rw [HLS.out]; exact (HX4.out.below HN0.out hbd).setLast (maxW lk nv))
      have HB5 := Lib.hid ((HB4.out.trans (hbd.mono HB4.out.size)).setCell (p := ⟨x, 1, none⟩) (show w.heap.size ≤ x from HXL.out) (U (maxW lk nv)))
      have z2 : w4.drew.frozen? ⟨x, 1, none⟩ = false := z1
      clear hbd
      go_wp2
      go_roundw
      case rel => exact ⟨k + 1, by omega, by go_num, HX5.out, HB5.out⟩
      case measure => simp [intOf]; omega
    · obtain rfl : k = n := by omega
      go_wp2
      go_ret2
      exact ⟨⟨x, b', c', rfl, HX.out, HXL.out, HBL.out⟩, HB.out⟩
end Go.Proofs.Ytoifejinppjeeaa
namespace Go.Proofs.Ytoifejinppjeeaa
open Go.RowKit
open Go.Shelf Go.Lib Go.Sort
set_option linter.unusedVariables false
set_option linter.unusedSimpArgs false
/-- A record that stands, and whose it is. -/
structure Sd where
  num : BitVec 64
  A : Option Addr
  c : Nat
  ws : List (Int × BitVec 64)
  cl : Nat
instance : Inhabited Sd := ⟨⟨0#64, none, 0, [], 0⟩⟩
def encSd (x : Sd) : List Value := [U x.num, .slice x.A x.ws.length x.c, .int .i64 x.cl]
def cmpU (a b : BitVec 64) : Int := if a.toNat < b.toNat then -1 else if b.toNat < a.toNat then 1 else 0
def cmpSd (x y : Sd) : Int := cmpU x.num y.num
theorem ltSd (x y : Sd) : ltOf cmpSd x y = decide (x.num.toNat < y.num.toNat) := by
  unfold ltOf cmpSd cmpU
  by_cases h : x.num.toNat < y.num.toNat
  · rw [if_pos h, decide_eq_true h]; rfl
  · rw [if_neg h, decide_eq_false h]
    split <;> rfl
theorem lt_U (t : TypeId) (a b : BitVec 64) : binOp .lss t (U a) (U b) = pure (.bool (decide (a.toNat < b.toNat))) := by
  show pure (Value.bool (decide ((a.toNat : Int) < (b.toNat : Int)))) = _
  congr 2; exact decide_eq_decide.2 (by omega)
set_option maxHeartbeats 1000000 in
theorem isNaN_any (a : BitVec 64) (w : World) : Calls Try.prog 118 #[U a] w fun e w' => e = .returned (.bool false) ∧ w = w' := by
  have h : (a != a) = false := by simp
  go_enter Try.func118, Try.ntmps118
  go_wp2
  go_ret
  exact ⟨rfl, rfl⟩
set_option maxHeartbeats 1000000 in
theorem cmpU_any (a b : BitVec 64) (w : World) : Calls Try.prog 111 #[U a, U b] w fun e w' => e = .returned (.int .i64 (cmpU a b)) ∧ w = w' := by
  have KA := Lib.hid (isNaN_any a w)
  have KB := Lib.hid (isNaN_any b w)
  by_cases h : a.toNat < b.toNat
  · have e : cmpU a b = -1 := if_pos h
    have h1 : (a < b) = True := eq_true h
    have h2 : decide (a < b) = true := decide_eq_true h
    rw [e]
    clear h e
    go_enter Try.func111, Try.ntmps111
    go_wp2_with fail
    refine KA.out.mono ?_
    rintro e w1 ⟨rfl, rfl⟩
    go_wp2_with fail
    refine KB.out.mono ?_
    rintro e w1 ⟨rfl, rfl⟩
    go_wp2
    go_ret
    exact ⟨rfl, rfl⟩
  · by_cases h2 : b.toNat < a.toNat
    · have e : cmpU a b = 1 := by unfold cmpU; rw [if_neg h, if_pos h2]
      have h1 : (a < b) = False := eq_false h
      have h3 : decide (a < b) = false := decide_eq_false h
      have h4 : (b < a) = True := eq_true h2
      have h5 : decide (b < a) = true := decide_eq_true h2
      rw [e]
      clear h e h2
      go_enter Try.func111, Try.ntmps111
      go_wp2_with fail
      refine KA.out.mono ?_
      rintro e w1 ⟨rfl, rfl⟩
      go_wp2_with fail
      refine KB.out.mono ?_
      rintro e w1 ⟨rfl, rfl⟩
      go_wp2
      go_ret
      exact ⟨rfl, rfl⟩
    · have e : cmpU a b = 0 := by unfold cmpU; rw [if_neg h, if_neg h2]
      have h1 : (a < b) = False := eq_false h
      have h3 : decide (a < b) = false := decide_eq_false h
      have h4 : (b < a) = False := eq_false h2
      have h5 : decide (b < a) = false := decide_eq_false h2
      rw [e]
      clear h e h2
      go_enter Try.func111, Try.ntmps111
      go_wp2_with fail
      refine KA.out.mono ?_
      rintro e w1 ⟨rfl, rfl⟩
      go_wp2_with fail
      refine KB.out.mono ?_
      rintro e w1 ⟨rfl, rfl⟩
      go_wp2
      go_ret
      exact ⟨rfl, rfl⟩
set_option maxHeartbeats 1000000 in
theorem cmpSd_any (x y : Sd) (W : World) : Calls Try.prog 110 #[.agg #[U x.num, .slice x.A x.ws.length x.c, .int .i64 x.cl], .agg #[U y.num, .slice y.A y.ws.length y.c, .int .i64 y.cl]] W fun e w' => e = .returned (.int .i64 (cmpU x.num y.num)) ∧ ∃ q os', w' = grow (W.drewN q) os' := by
  have hcon := Lib.hid (fun W' => cmpU_any x.num y.num W')
  generalize cmpU x.num y.num = r at *
  go_enter Try.func110, Try.ntmps110
  go_wp2_with fail
  refine (hcon.out _).mono ?_
  rintro e w1 ⟨rfl, hw⟩
  go_wp2
  go_ret
  refine ⟨rfl, 0, ?_⟩
  rw [← hw]
  exact ⟨_, by rw [alloc_eq_grow, alloc_eq_grow, grow_grow]; rfl⟩
theorem cmpLays (blk off size : Nat) (w : World) : CmpLays Try.prog 110 #[] encSd 3 cmpSd blk off size w :=
  fun _ _ _ _ x y => cmpSd_any x y _
end Go.Proofs.Ytoifejinppjeeaa
namespace Go.Proofs.Ytoifejinppjeeaa
open Go.RowKit
open Go.Shelf Go.Lib Go.Sort
set_option linter.unusedVariables false
set_option linter.unusedSimpArgs false
theorem swoSd : SWO (ltOf cmpSd) := ⟨fun x => by rw [ltSd]; exact decide_eq_false (Nat.lt_irrefl _), fun x y z h1 h2 => by
    rw [ltSd] at *
    exact decide_eq_true (Nat.lt_trans (of_decide_eq_true h1) (of_decide_eq_true h2)), fun x y z h1 h2 => by
    rw [ltSd] at *
    have h1 := of_decide_eq_false h1
    have h2 := of_decide_eq_false h2
    exact decide_eq_false (by omega)⟩
theorem flat_at : ∀ (D : List Sd) (j : Nat), j < D.length * 3 → (D.flatMap encSd)[j]? = some ((encSd (D[j / 3]?.getD default))[j % 3]!)
  | [], j, h => by simp at h
  | x :: D, j, h => by
    rw [List.flatMap_cons]
    by_cases h3 : j < 3
    · rw [List.getElem?_append_left (by simpa [encSd] using h3)]
      have e1 : j / 3 = 0 := by omega
      have e2 : j % 3 = j := by omega
      rw [e1, e2]
      simp only [List.getElem?_cons_zero, Option.getD_some]
      have h4 : j < (encSd x).length := by simpa [encSd] using h3
      rw [List.getElem?_eq_getElem h4]
      simp [h4]
    · have h5 : (encSd x).length = 3 := rfl
      rw [List.getElem?_append_right (by omega), h5, flat_at D (j - 3) (by simp at h; omega)]
      have e1 : j / 3 = (j - 3) / 3 + 1 := by omega
      have e2 : (j - 3) % 3 = j % 3 := by omega
      rw [e1, e2]
      simp
theorem holds_sd {w : World} {g : Nat} {cur : Array Value} {e : TypeId} {D : List Sd} (hb : w.heap[g]? = some (.cells cur e (0, 0))) (ht : cur.toList.take (D.length * 3) = D.flatMap encSd) : HoldsK encSd 3 w g 0 D.toArray := by
  intro j hj
  have hj' : j < D.length * 3 := by simpa using hj
  refine ⟨?_, by simp [World.frozen?, hb]⟩
  rw [get_flatK _ _ _ _ (by simpa using hj'), Nat.zero_add]
  have h1 := flat_at D j hj'
  rw [← ht, List.getElem?_take_of_lt hj'] at h1
  have h2 : w.cell? ⟨g, j, none⟩ = cur[j]? := by simp [World.cell?, hb]
  rw [h2]
  have h3 : cur[j]? = cur.toList[j]? := by simp
  rw [h3, h1]
  simp
/-- The slice's cells read as what stands. -/
def RdSd (w : World) (v : Value) (D : List Sd) : Prop :=
  (∃ A c, v = .slice A D.length c ∧ (D = [] ∨ ∃ g, A = some ⟨g, 0, none⟩ ∧ ∀ i, (h : i < D.length) → w.cell? ⟨g, i * 3, none⟩ = some (U D[i].num) ∧ w.cell? ⟨g, i * 3 + 1, none⟩ = some (.slice D[i].A D[i].ws.length D[i].c) ∧ w.cell? ⟨g, i * 3 + 2, none⟩ = some (.int .i64 D[i].cl)))
theorem rd_of_holds {w : World} {g cap : Nat} {D : List Sd} (h : HoldsK encSd 3 w g 0 D.toArray) : RdSd w (.slice (some ⟨g, 0, none⟩) D.length cap) D := by
  refine ⟨some ⟨g, 0, none⟩, cap, rfl, .inr ⟨g, rfl, fun i hi => ?_⟩⟩
  have k0 := (h.cell (i := i) (c := 0) (by simpa using hi) (by decide)).1
  have k1 := (h.cell (i := i) (c := 1) (by simpa using hi) (by decide)).1
  have k2 := (h.cell (i := i) (c := 2) (by simpa using hi) (by decide)).1
  have e : D.toArray[i]! = D[i] := by simp [hi]
  rw [e] at k0 k1 k2
  rw [Nat.zero_add] at k0 k1 k2
  exact ⟨k0, k1, k2⟩
theorem grownBy_sortedK {w : World} {g n : Nat} {os : Array Obj} (d : Array Sd) : w.grownBy (sortWorldK encSd 3 w g 0 n d os) (some g) := by
  unfold sortWorldK putRowK
  refine ⟨rfl, rfl, rfl, by simp, fun k hk hne => ?_⟩
  rw [heap_grow_old _ _ (by simpa using hk)]
  have : g ≠ k := fun e => hne (by rw [e])
  simp [putRow, mapBlock, Sort.ahead, Array.getElem?_modify, this]
abbrev fS : Value := .func (.func 110) #[] #[]
set_option maxHeartbeats 1000000 in
theorem insNil_any (c : Nat) (w : World) : Calls Try.prog 132 #[.slice none 0 c, .int .i64 0, .int .i64 0, fS] w fun e w' => e = .returned (.tuple #[]) ∧ w = w' := by
  go_enter Try.func132, Try.ntmps132
  go_wp2
  refine wp_loop_rounds 1 ?_
  rw [rounds_succ]
  go_wp2
  go_end0
  exact ⟨rfl, rfl⟩
theorem insSd_any (g cap : Nat) (D : List Sd) (w : World) (hH : HoldsK encSd 3 w g 0 D.toArray) (hg : g < w.heap.size) (hn : D.length < 20) :
    Calls Try.prog 132 #[.slice (some ⟨g, 0, none⟩) D.length cap, .int .i64 0, .int .i64 D.length, fS] w fun e w' => e = .returned (.tuple #[]) ∧ ∃ D', D'.Perm D ∧ (∀ i j, (hi : i < D'.length) → (hj : j < D'.length) → i < j → ¬ D'[j].num.toNat < D'[i].num.toNat) ∧ D'.length = D.length ∧ RdSd w' (.slice (some ⟨g, 0, none⟩) D'.length cap) D' ∧ w.grownBy w' (some g) := by
  have eg : ∀ args w, (callFunc 110 args).run Try.prog w = .ok (.enter 110 args) w := enters_of Try.func110 (by kernel_rfl) rfl
  have hc := AnyQ.insertionSortCmpFunc Try.insStood 3 Try.isAgg138 Try.sizeOf138 encSd (fun _ => rfl) (fun x v hv => by simp [encSd] at hv; rcases hv with rfl | rfl | rfl <;> rfl) cmpSd 110 #[] g 0 cap 0 D.toArray.size D.toArray w eg (cmpLays g 0 _ w) hH hg (Nat.zero_le _) (Nat.le_refl _) (by simp; omega)
  rw [show D.toArray.size = D.length by simp] at hc
  refine Calls.mono (show Calls Try.prog 132 _ _ _ from hc) ?_
  rintro e w' ⟨rfl, n, os, rfl⟩
  have hs := insertionSort_holds (lt := ltOf cmpSd) swoSd D.toArray 0 D.toArray.size (Nat.zero_le _) (Nat.le_refl _)
  rw [show D.toArray.size = D.length by simp] at hs
  obtain ⟨⟨hz, _, hp⟩, hso⟩ := hs
  generalize Sort.insertionSort (ltOf cmpSd) D.toArray 0 D.length = dk at *
  have hz' : dk.size = D.length := by simpa using hz
  have hx1 : dk.extract 0 D.length = dk := by rw [← hz']; simp
  have hx2 : D.toArray.extract 0 D.length = D.toArray := by simp
  rw [hx1, hx2] at hp
  have hl : dk.toList.length = D.length := by simpa using hz'
  refine ⟨rfl, dk.toList, by simpa using hp, fun i j hi hj hij => ?_, hl, ?_, grownBy_sortedK _⟩
  · have h := hso i j (Nat.zero_le _) hij (by rw [← hl]; exact hj)
    rw [ltSd] at h
    have h := of_decide_eq_false h
    have e1 : dk[i]! = dk.toList[i] := by simp at hi; simp [hi]
    have e2 : dk[j]! = dk.toList[j] := by simp at hj; simp [hj]
    rw [e1, e2] at h
    exact h
  · have hh := holdsK_sortWorldK_c encSd 3 w g 0 D.toArray dk n os hH hg (by rw [hz']; simp)
    refine rd_of_holds ?_
    simpa using hh
end Go.Proofs.Ytoifejinppjeeaa
namespace Go.Proofs.Ytoifejinppjeeaa
open Go.RowKit
open Go.Shelf Go.Lib Go.Sort
set_option linter.unusedVariables false
set_option linter.unusedSimpArgs false
/-- What a sort leaves. -/
def SortedSd (w : World) (D : List Sd) (A : Option Addr) (cap : Nat) (e : Ending) (w' : World) : Prop :=
  e = .returned (.tuple #[]) ∧ ∃ D', D'.Perm D ∧ (∀ i j, (hi : i < D'.length) → (hj : j < D'.length) → i < j → ¬ D'[j].num.toNat < D'[i].num.toNat) ∧ D'.length = D.length ∧ RdSd w' (.slice A D'.length cap) D' ∧ w.grownBy w' (blk A)
set_option maxRecDepth 10000 in
theorem insAll_any (A : Option Addr) (cap : Nat) (D : List Sd) (base : Nat) (w : World) (ho : w.ownsRow base 138 3 (.slice A D.length cap) D.length (D.flatMap encSd)) (hn : D.length < 20) :
    Calls Try.prog 132 #[.slice A D.length cap, .int .i64 0, .int .i64 D.length, fS] w fun e w' => SortedSd w D A cap e w' := by
  rcases ho.2 with ⟨hv, h0⟩ | ⟨g, c, cur, hv, hg, hh, hnc, hcm, hcs, ht⟩
  · injection hv with h1 h2 h3
    subst h1 h3
    have hD : D = [] := List.eq_nil_of_length_eq_zero h0
    subst hD
    refine (insNil_any 0 w).mono ?_
    rintro e w' ⟨rfl, rfl⟩
    exact ⟨rfl, [], List.Perm.refl _, fun i j hi => by simp at hi, rfl, ⟨none, 0, rfl, .inl rfl⟩, ⟨rfl, rfl, rfl, Nat.le_refl _, fun _ _ _ => rfl⟩⟩
  · injection hv with h1 _ h3
    subst h1 h3
    refine (insSd_any g cap D w (holds_sd hh ht) (Array.getElem?_eq_some_iff.1 hh).1 hn).mono ?_
    rintro e w' ⟨he, D', h1, h2, h3, h4, h5⟩
    exact ⟨he, D', h1, h2, h3, h4, h5⟩
set_option maxHeartbeats 2000000 in
theorem stableSd_any (A : Option Addr) (cap : Nat) (D : List Sd) (base : Nat) (w : World) (ho : w.ownsRow base 138 3 (.slice A D.length cap) D.length (D.flatMap encSd)) (hn : D.length < 20) :
    Calls Try.prog 117 #[.slice A D.length cap, .int .i64 D.length, fS] w fun e w' => SortedSd w D A cap e w' := by
  have KI := Lib.hid (insAll_any A cap D base w ho hn)
  have h1 : decide ((20 : Int) ≤ (D.length : Int)) = false := decide_eq_false (by omega)
  have h2 : decide ((20 : Int) < (D.length : Int)) = false := decide_eq_false (by omega)
  have h3 : decide (20 ≤ D.length) = false := decide_eq_false (by omega)
  have h4 : decide (20 < D.length) = false := decide_eq_false (by omega)
  clear ho hn
  go_enter Try.func117, Try.ntmps117
  go_wp2
  refine wp_loop_rounds 1 ?_
  rw [rounds_succ]
  go_wp2_with fail
  refine KI.out.mono ?_
  rintro e w1 ⟨rfl, hs⟩
  have HS := Lib.hid hs
  clear hs
  go_wp2
  refine wp_loop_rounds 1 ?_
  rw [rounds_succ]
  go_wp2
  go_end0
  exact ⟨rfl, HS.out⟩
set_option maxHeartbeats 2000000 in
theorem sortSd_any (A : Option Addr) (cap : Nat) (D : List Sd) (base : Nat) (w : World) (ho : w.ownsRow base 138 3 (.slice A D.length cap) D.length (D.flatMap encSd)) (hn : D.length < 20) :
    Calls Try.prog 109 #[.slice A D.length cap, fS] w fun e w' => SortedSd w D A cap e w' := by
  have KI := Lib.hid (stableSd_any A cap D base w ho hn)
  clear ho hn
  go_enter Try.func109, Try.ntmps109
  go_wp2_with fail
  refine KI.out.mono ?_
  rintro e w1 ⟨rfl, hs⟩
  have HS := Lib.hid hs
  clear hs
  go_wp2
  go_end0
  exact ⟨rfl, HS.out⟩
end Go.Proofs.Ytoifejinppjeeaa
namespace Go.Proofs.Ytoifejinppjeeaa
open Go.RowKit
set_option linter.unusedVariables false
set_option linter.unusedSimpArgs false
def tellS (x : Sd) : BitVec 64 × List (Int × BitVec 64) × Nat := (x.num, x.ws, x.cl)
def standF (st : List (Option Rcd)) (k : Nat) : List (BitVec 64 × List (Int × BitVec 64) × Nat) := (List.range k).filterMap fun i => (st.getD i none).map fun r => (r.1, r.2, i)
theorem standF_none {st : List (Option Rcd)} {k : Nat} (h : st.getD k none = none) : standF st (k + 1) = standF st k := by
  unfold standF
  rw [List.range_succ, List.filterMap_append]
  simp only [List.filterMap_cons, List.filterMap_nil]
  rw [h]; simp
theorem standF_some {st : List (Option Rcd)} {k : Nat} {r : Rcd} (h : st.getD k none = some r) : standF st (k + 1) = standF st k ++ [(r.1, r.2, k)] := by
  unfold standF
  rw [List.range_succ, List.filterMap_append]
  simp only [List.filterMap_cons, List.filterMap_nil]
  rw [h]; simp
theorem standF_len (st : List (Option Rcd)) (k : Nat) : (standF st k).length ≤ k := by
  unfold standF
  exact Nat.le_trans (List.length_filterMap_le _ _) (by simp)
theorem RdW.grown {w w' : World} {row : Option Nat} {A : Option Addr} {ws : List (Int × BitVec 64)} (h : RdW w A ws) (hg : w.grownBy w' row) (hne : ws ≠ [] → ∀ q, blk A = some q → row ≠ some q) : RdW w' A ws := by
  rcases h with h | ⟨b, off, rfl, hc⟩
  · exact .inl h
  · by_cases h0 : ws = []
    · exact .inl h0
    · refine .inr ⟨b, off, rfl, fun k hk => ?_⟩
      obtain ⟨h1, h2⟩ := hc k hk
      have hb : w'.heap[b]? = w.heap[b]? := hg.block b (cell_lt h1) fun e => hne h0 b rfl e.symm
      exact ⟨(World.cell?_of_block hb).trans h1, (World.cell?_of_block hb).trans h2⟩
theorem RdW.lt {w : World} {A : Option Addr} {ws : List (Int × BitVec 64)} (h : RdW w A ws) (h0 : ws ≠ []) : ∀ q, blk A = some q → q < w.heap.size := by
  intro q hq
  rcases h with h | ⟨b, off, rfl, hc⟩
  · exact absurd h h0
  · have : b = q := by simpa [blk] using hq
    subst this
    exact cell_lt (hc 0 (List.length_pos_iff.2 h0)).1
theorem infoSd : (Try.prog.info? 138).map (fun i => (i.zero, i.size, i.bytes)) = some (some (.agg #[.int .u64 0, .slice none 0 0, .int .i64 0]), 3, 40) := by kernel_rfl
theorem appSd {w : World} {ops : Array Oper} {rest : List Oper} {o : Oper} {a : Act} {Q : Exit → Act → World → Prop} (s x : Operand) (hw : Region.wanted o (yielded ops a.tmps) = true)
    (ho : o.op = .call { callee := .builtin .append, args := #[s, x], argTypes := #[135, 135] })
    (base : Nat) (A : Option Addr) (D : List Sd) (n c : Nat) (hs : a.eval s = .slice A n c) (hn : n = D.length) (hown : w.ownsRow base 138 3 (.slice A D.length c) D.length (D.flatMap encSd))
    (A2 : Option Addr) (y : Sd) (hx : a.eval x = .slice A2 1 1) (hr : Rd w A2 (encSd y)) (hb : D.length ≤ 1000) (hbase : base ≤ w.heap.size)
    (h : ∀ A' zs c' w', zs = D ++ [y] → w'.ownsRow base 138 3 (.slice A' zs.length c') zs.length (zs.flatMap encSd) → w.grownBy w' (blk A) → (blk A' = blk A ∨ blk A' = some w.heap.size) → Stop (wpList Try.prog ops Q rest (a.put o.dst (.slice A' zs.length c')) w')) :
    Stop (wpList Try.prog ops Q (o :: rest) a w) := by
  obtain ⟨i, hi, hz0, hz1, hz2⟩ := info_parts infoSd
  subst hn
  refine wpList_want hw (wp_app s x _ ho base 138 i _ 3 40 Try.underlying135 hi hz0 hz1 hz2 rfl (by omega) (by omega) A D.length c _ hs hown A2 1 1 (encSd y) hx rfl hr ?_ (by omega) hbase ?_)
  · intro u hu
    simp [encSd] at hu
    rcases hu with rfl | rfl | rfl <;> rfl
  · intro A' c' w' h2 h3 h4
    have h5 := h A' (D ++ [y]) c' w' rfl (by rw [List.length_append, List.flatMap_append]; simpa using h2) h3 h4
    rw [List.length_append] at h5
    exact h5
/-- What stands answers. -/
def StandsPost (w : World) (n : Nat) (st : List (Option Rcd)) (e : Ending) (w' : World) : Prop :=
  ∃ (D : List Sd) (A : Option Addr) (cap : Nat), e = .returned (.slice A D.length cap) ∧ (D.map tellS).Perm (standF st n) ∧ (∀ i j, (hi : i < D.length) → (hj : j < D.length) → i < j → ¬ D[j].num.toNat < D[i].num.toNat) ∧ RdSd w' (.slice A D.length cap) D ∧ (∀ s ∈ D, RdW w' s.A s.ws) ∧ Below w.heap.size w w'
/-- Between two rounds. -/
def StI (w0 : World) (st : List (Option Rcd)) (k : Nat) (D : List Sd) (A : Option Addr) (cap : Nat) (w : World) : Prop :=
  D.map tellS = standF st k ∧ w.ownsRow w0.heap.size 138 3 (.slice A D.length cap) D.length (D.flatMap encSd) ∧ (∀ s ∈ D, RdW w s.A s.ws ∧ (s.ws ≠ [] → ∀ q, blk s.A = some q → blk A ≠ some q)) ∧ Below w0.heap.size w0 w
section
variable {w0 w w' : World} {st : List (Option Rcd)} {k : Nat} {D : List Sd} {A : Option Addr} {cap : Nat}
theorem StI.len (h : StI w0 st k D A cap w) : D.length ≤ k := by
  have := standF_len st k
  rw [← h.1, List.length_map] at this
  exact this
theorem StI.below (h : StI w0 st k D A cap w) (hb : Below w.heap.size w w') : StI w0 st k D A cap w' :=
  ⟨h.1, own_below h.2.1 hb, fun s hs => ⟨(h.2.2.1 s hs).1.below hb, (h.2.2.1 s hs).2⟩, h.2.2.2.trans (hb.mono h.2.2.2.size)⟩
theorem StI.skip (h : StI w0 st k D A cap w) (hn : st.getD k none = none) : StI w0 st (k + 1) D A cap w :=
  ⟨by rw [standF_none hn]; exact h.1, h.2⟩
theorem StI.more (h : StI w0 st k D A cap w) {num : BitVec 64} {ws : List (Int × BitVec 64)} (hn : st.getD k none = some (num, ws)) {B : Option Addr} {d : Nat} (hr : RdW w B ws) (hfr : ws ≠ [] → ∀ q, blk B = some q → blk A ≠ some q)
    {A' : Option Addr} {cap' : Nat} {zs : List Sd} (hz : zs = D ++ [⟨num, B, d, ws, k⟩]) (ho : w'.ownsRow w0.heap.size 138 3 (.slice A' zs.length cap') zs.length (zs.flatMap encSd)) (hg : w.grownBy w' (blk A)) (hl : blk A' = blk A ∨ blk A' = some w.heap.size) : StI w0 st (k + 1) zs A' cap' w' := by
  obtain ⟨h1, h2, h3, h4⟩ := h
  have key : ∀ s : Sd, RdW w s.A s.ws → (s.ws ≠ [] → ∀ q, blk s.A = some q → blk A ≠ some q) → RdW w' s.A s.ws ∧ (s.ws ≠ [] → ∀ q, blk s.A = some q → blk A' ≠ some q) := by
    intro s k1 k2
    refine ⟨k1.grown hg k2, fun h0 q hq e => ?_⟩
    rcases hl with e2 | e2
    · rw [e2] at e; exact k2 h0 q hq e
    · rw [e2] at e
      injection e with e
      have := k1.lt h0 q hq
      omega
  refine ⟨?_, ho, fun s hs => ?_, h4.grown hg h4.size fun q hq => (own_lt h2 q hq).1⟩
  · rw [hz, List.map_append, h1, standF_some hn]; rfl
  · rw [hz] at hs
    rcases List.mem_append.1 hs with hs | hs
    · exact key s (h3 s hs).1 (h3 s hs).2
    · rw [List.mem_singleton.1 hs]
      exact key ⟨num, B, d, ws, k⟩ hr hfr
theorem StI.done {n : Nat} (h : StI w0 st n D A cap w) {e : Ending} (hs : SortedSd w D A cap e w') : StandsPost w0 n st (.returned (.slice A D.length cap)) w' := by
  obtain ⟨h1, h2, h3, h4⟩ := h
  obtain ⟨_, D', hp, hso, hl, hrd, hg⟩ := hs
  refine ⟨D', A, cap, by rw [hl], ?_, hso, hrd, fun s hs => ?_, h4.grown hg h4.size fun q hq => (own_lt h2 q hq).1⟩
  · rw [← h1]; exact hp.map _
  · have := h3 s (hp.subset hs)
    exact this.1.grown hg this.2
end
set_option maxRecDepth 100000 in
set_option maxHeartbeats 4000000 in
theorem bksStands_any (x b off c m n : Nat) (last : BitVec 64) (own : Nat → Nat) (G : MG) (a : AM) (st : List (Option Rcd)) (w : World) (hb : BksAt w x b off c m n last) (hm : MemAt w m own G a) (hs : BkSt n a st) (hn0 : 0 < n) (hn : n ≤ 8) :
    Calls Try.prog 98 #[.pointer (some ⟨x, 0, none⟩)] w fun e w' => StandsPost w n st e w' := by
  have HR := Lib.hid hb.row
  have HM := Lib.hid hm
  have HS := Lib.hid hs
  have hblt : b < w.heap.size := hb.blt hn0
  have c0 := Lib.cell_of_heap hb.blk 0
  have HN := Lib.hid hn
  have HN0 := Lib.hid hn0
  clear hm hs hn hn0 hb
  go_enter Try.func98, Try.ntmps98
  go_wp2
  go_loopw [3, 14] (fun v i wr => ∃ (k : Nat) (D : List Sd) (A : Option Addr) (cap : Nat), k ≤ n ∧ i = .int .i64 k ∧ v = .slice A D.length cap ∧ StI w st k D A cap wr) (fun _ i _ => n - (intOf i).toNat)
  case atStart => exact ⟨0, [], none, 0, Nat.zero_le _, rfl, rfl, rfl, World.ownsRow_nil _ _ _ _, (fun s hs => by cases hs), Below.refl _ _⟩
  case round =>
    clear c0
    obtain ⟨k, D, A, cap, hk, rfl, rfl, hi⟩ := hrel
    have HI := Lib.hid hi
    have HDL := Lib.hid hi.len
    clear hi
    by_cases hlt : k < n
    · obtain ⟨r0, r1, r2, r3⟩ := HR.out k hlt
      have HB := Lib.hid HI.out.2.2.2
      have r0 := (HB.out.cell (p := ⟨b, _, none⟩) hblt).trans r0
      have r1 := (HB.out.cell (p := ⟨b, _, none⟩) hblt).trans r1
      have r2 := (HB.out.cell (p := ⟨b, _, none⟩) hblt).trans r2
      have r3 := (HB.out.cell (p := ⟨b, _, none⟩) hblt).trans r3
      have e1 : IntKind.i64.wrap ((k : Int) + 1) = (k : Int) + 1 := IntWalk.i64_in _ (by have := HN.out; omega)
      obtain ⟨f4, hf4⟩ : ∃ q : Nat, 4 * k = q := ⟨_, rfl⟩
      rw [hf4] at r1
      have HRK := Lib.hid (show readR (a.allOf ((f4 : Nat) : Int) (8 * 4)) = st.getD k none by rw [← hf4, HS.out.read hlt])
      have HBR := Lib.hid (fun W (h : Below w.heap.size w W) => show Calls Try.prog 55 #[bkV m (f4 : Int) 4 k] W fun e w' => RdPostF W.heap.size (a.allOf (f4 : Int) (8 * 4)) e w' ∧ Below W.heap.size W w' from
        bkReadF_on m own G a (f4 : Int) 4 k W (HM.out.below h) (room_mono HS.out.clean.room (by omega)) ⟨by have := HN.out; omega⟩ HS.out.off (by rw [HS.out.alen]; have := HN.out; omega))
      unfold RdPostF rtell at HBR
      rw [HRK.out] at HBR
      clear hf4 HRK
      have hal : Below wr.heap.size wr (wr.alloc (.cells #[.pointer (some ⟨m, 0, none⟩), .int .i64 f4, .int .i64 4, .int .i64 k] 72)) := (Below.refl _ _).alloc (Nat.le_refl _) _
      have HA := Lib.hid (fun q (h : blk A = some q) => (own_lt HI.out.2.1 q h).2)
      have HI2 := Lib.hid (HI.out.below hal)
      clear hal HI HB
      cases hst : st.getD k none with
      | none =>
        rw [hst] at HBR
        simp only [Option.getD_none, Option.isSome_none] at HBR
        go_wp2_with fail
        refine (HBR.out _ HI2.out.2.2.2).mono ?_
        rintro e w3 ⟨⟨B9, d9, rfl, hrw, hfr⟩, hb⟩
        have hal : Below w3.heap.size w3 (w3.alloc (.cells #[U 0#64, .slice B9 0 d9] 77)) := (Below.refl _ _).alloc (Nat.le_refl _) _
        have HI3 := Lib.hid (((HI2.out.below hb).below hal).skip hst)
        clear hb hal hrw hfr HBR HI2 r0 r1 r2 r3
        go_wp2
        go_roundw
        case rel => exact ⟨k + 1, D, A, cap, by omega, by go_num, rfl, HI3.out⟩
        case measure => simp [intOf]; omega
      | some pr =>
        obtain ⟨nv, wv⟩ := pr
        rw [hst] at HBR
        simp only [Option.getD_some, Option.isSome_some] at HBR
        go_wp2_with fail
        refine (HBR.out _ HI2.out.2.2.2).mono ?_
        rintro e w3 ⟨⟨B9, d9, rfl, hrw, hfr⟩, hb⟩
        have hsz := hb.size
        rw [World.size_alloc] at hsz hfr
        have hal : Below w3.heap.size w3 (w3.alloc (.cells #[U nv, .slice B9 wv.length d9] 77)) := (Below.refl _ _).alloc (Nat.le_refl _) _
        have hal2 : Below (w3.alloc (.cells #[U nv, .slice B9 wv.length d9] 77)).heap.size (w3.alloc (.cells #[U nv, .slice B9 wv.length d9] 77)) ((w3.alloc (.cells #[U nv, .slice B9 wv.length d9] 77)).alloc (.cells #[U nv, .slice B9 wv.length d9, .int .i64 k] 138)) := (Below.refl _ _).alloc (Nat.le_refl _) _
        have HI3 := Lib.hid (((HI2.out.below hb).below hal).below hal2)
        have HRW := Lib.hid ((hrw.below hal).below hal2)
        have HFR := Lib.hid (show wv ≠ [] → ∀ q, blk B9 = some q → blk A ≠ some q from fun _ q hq e => by have := hfr q hq; have := HA.out q e; omega)
        have HSR := Lib.hid (show Rd ((w3.alloc (.cells #[U nv, .slice B9 wv.length d9] 77)).alloc (.cells #[U nv, .slice B9 wv.length d9, .int .i64 k] 138)) (some ⟨(w3.alloc (.cells #[U nv, .slice B9 wv.length d9] 77)).heap.size, 0, none⟩) (encSd ⟨nv, B9, d9, wv, k⟩) from
          .inr ⟨_, 0, rfl, fun j hj => by
            have h9 := Lib.cell_of_heap (heap_alloc_new (w3.alloc (.cells #[U nv, .slice B9 wv.length d9] 77)) (.cells #[U nv, .slice B9 wv.length d9, .int .i64 k] 138)) (0 + j)
            rw [h9]
            match j, hj with
            | 0, _ => rfl
            | 1, _ => rfl
            | 2, _ => rfl
            | j + 3, h => simp [encSd] at h; omega⟩)
        have HZ := Lib.hid (show w.heap.size ≤ ((w3.alloc (.cells #[U nv, .slice B9 wv.length d9] 77)).alloc (.cells #[U nv, .slice B9 wv.length d9, .int .i64 k] 138)).heap.size from HI3.out.2.2.2.size)
        clear hb hal hal2 hrw hfr HBR HI2 r0 r1 r2 r3 hsz
        go_wp2_with (first | go_skip | (at_builtin; refine stop_ ?_))
        rw [World.size_alloc] at HSR
        refine appSd (.tmp 26) (.tmp 30) rfl rfl w.heap.size A D _ cap rfl rfl HI3.out.2.1 _ ⟨nv, B9, d9, wv, k⟩ rfl HSR.out (by have := HDL.out; have := HN.out; omega) HZ.out ?_
        intro A2 zs c2 w5 hz hown hg hloc
        have HI4 := Lib.hid (HI3.out.more hst HRW.out HFR.out hz hown hg hloc)
        clear hz hown hg hloc HI3 HRW HFR HSR HZ
        unfold Stop
        go_wp2
        go_roundw
        case rel => exact ⟨k + 1, zs, A2, c2, by omega, by go_num, rfl, HI4.out⟩
        case measure => simp [intOf]; omega
    · obtain rfl : k = n := by omega
      have KS := Lib.hid (sortSd_any A cap D w.heap.size wr HI.out.2.1 (by have := HDL.out; have := HN.out; omega))
      have HDN := Lib.hid (fun e W h => HI.out.done (e := e) (w' := W) h)
      clear HI
      go_wp2_with fail
      refine KS.out.mono ?_
      rintro e w3 hs
      obtain rfl := hs.1
      have HP := Lib.hid (HDN.out _ _ hs)
      clear hs KS HDN
      go_wp2
      go_ret
      exact HP.out
end Go.Proofs.Ytoifejinppjeeaa
namespace Go.Proofs.Ytoifejinppjeeaa
open Go.RowKit
set_option linter.unusedVariables false
set_option linter.unusedSimpArgs false
def recOf (s : Sd) : Rc := (s.num, s.A, s.ws, s.c)
def encRc (x : Rc) : List Value := [U x.1, .slice x.2.1 x.2.2.1.length x.2.2.2]
theorem flatRc_at : ∀ (rs : List Rc) (i : Nat) (h : i < rs.length), (rs.flatMap encRc)[i * 2]? = some (U rs[i].1) ∧ (rs.flatMap encRc)[i * 2 + 1]? = some (.slice rs[i].2.1 rs[i].2.2.1.length rs[i].2.2.2)
  | [], i, h => by simp at h
  | x :: rs, 0, h => by simp [encRc]
  | x :: rs, i + 1, h => by
    have h5 : (encRc x).length = 2 := rfl
    have ih := flatRc_at rs i (by simpa using h)
    rw [List.flatMap_cons, List.getElem?_append_right (by omega), List.getElem?_append_right (by omega), h5, show (i + 1) * 2 - 2 = i * 2 by omega, show (i + 1) * 2 + 1 - 2 = i * 2 + 1 by omega]
    simpa using ih
theorem flatRc_len (rs : List Rc) : (rs.flatMap encRc).length = rs.length * 2 := by
  induction rs with
  | nil => rfl
  | cons x rs ih => rw [List.flatMap_cons, List.length_append, ih]; simp [encRc]; omega
theorem rdC_of_own {w : World} {base n c : Nat} {A : Option Addr} {rs : List Rc} (h : w.ownsRow base 77 2 (.slice A n c) n (rs.flatMap encRc)) (hw : ∀ r ∈ rs, RdW w r.2.1 r.2.2.1) : RdC w A rs := by
  by_cases h0 : rs = []
  · exact .inl h0
  rcases own_rd h with h1 | ⟨b, off, rfl, hc⟩
  · exfalso
    have := flatRc_len rs
    rw [h1] at this
    exact h0 (List.eq_nil_of_length_eq_zero (by simp only [List.length_nil] at this; omega))
  · refine .inr ⟨b, off, rfl, fun i hi => ?_⟩
    obtain ⟨g0, g1⟩ := flatRc_at rs i hi
    have hl := flatRc_len rs
    have k0 := hc (i * 2) (by omega)
    have k1 := hc (i * 2 + 1) (by omega)
    rw [← List.getElem?_eq_getElem] at k0 k1
    rw [g0] at k0
    rw [g1, ← Nat.add_assoc] at k1
    exact ⟨k0, k1, hw _ (List.getElem_mem hi)⟩
theorem infoRc : (Try.prog.info? 77).map (fun i => (i.zero, i.size, i.bytes)) = some (some (.agg #[.int .u64 0, .slice none 0 0]), 2, 32) := by kernel_rfl
theorem appRc {w : World} {ops : Array Oper} {rest : List Oper} {o : Oper} {a : Act} {Q : Exit → Act → World → Prop} (s x : Operand) (hw : Region.wanted o (yielded ops a.tmps) = true)
    (ho : o.op = .call { callee := .builtin .append, args := #[s, x], argTypes := #[70, 70] })
    (base : Nat) (A : Option Addr) (D : List Rc) (n c : Nat) (hs : a.eval s = .slice A n c) (hn : n = D.length) (hown : w.ownsRow base 77 2 (.slice A D.length c) D.length (D.flatMap encRc))
    (A2 : Option Addr) (y : Rc) (hx : a.eval x = .slice A2 1 1) (hr : Rd w A2 (encRc y)) (hb : D.length ≤ 1000) (hbase : base ≤ w.heap.size)
    (h : ∀ A' zs c' w', zs = D ++ [y] → w'.ownsRow base 77 2 (.slice A' zs.length c') zs.length (zs.flatMap encRc) → w.grownBy w' (blk A) → (blk A' = blk A ∨ blk A' = some w.heap.size) → Stop (wpList Try.prog ops Q rest (a.put o.dst (.slice A' zs.length c')) w')) :
    Stop (wpList Try.prog ops Q (o :: rest) a w) := by
  obtain ⟨i, hi, hz0, hz1, hz2⟩ := info_parts infoRc
  subst hn
  refine wpList_want hw (wp_app s x _ ho base 77 i _ 2 32 Try.underlying70 hi hz0 hz1 hz2 rfl (by omega) (by omega) A D.length c _ hs hown A2 1 1 (encRc y) hx rfl hr ?_ (by omega) hbase ?_)
  · intro u hu
    simp [encRc] at hu
    rcases hu with rfl | rfl <;> rfl
  · intro A' c' w' h2 h3 h4
    have h5 := h A' (D ++ [y]) c' w' rfl (by rw [List.length_append, List.flatMap_append]; simpa using h2) h3 h4
    rw [List.length_append] at h5
    exact h5
theorem RdSd.at_ {w : World} {A : Option Addr} {cap : Nat} {D : List Sd} (h : RdSd w (.slice A D.length cap) D) {i : Nat} (hi : i < D.length) : ∃ g, A = some ⟨g, 0, none⟩ ∧ g < w.heap.size ∧ w.cell? ⟨g, i * 3, none⟩ = some (U D[i].num) ∧ w.cell? ⟨g, i * 3 + 1, none⟩ = some (.slice D[i].A D[i].ws.length D[i].c) ∧ w.cell? ⟨g, i * 3 + 2, none⟩ = some (.int .i64 D[i].cl) := by
  obtain ⟨A', c', hv, h⟩ := h
  injection hv with h1 _ _
  subst h1
  rcases h with h | ⟨g, rfl, hc⟩
  · rw [h] at hi; simp at hi
  · obtain ⟨k0, k1, k2⟩ := hc i hi
    exact ⟨g, rfl, cell_lt k0, k0, k1, k2⟩
/-- What All answers. -/
def AllPost (w : World) (n : Nat) (st : List (Option Rcd)) (e : Ending) (w' : World) : Prop :=
  ∃ (D : List Sd) (A : Option Addr) (cap : Nat), e = .returned (.slice A D.length cap) ∧ D.length ≤ n ∧ (D.map tellS).Perm (standF st n) ∧ (∀ i j, (hi : i < D.length) → (hj : j < D.length) → i < j → ¬ D[j].num.toNat < D[i].num.toNat) ∧ RdC w' A (D.map recOf) ∧ Below w.heap.size w w'
set_option maxRecDepth 100000 in
set_option maxHeartbeats 4000000 in
theorem bksAll_any (x b off c m n : Nat) (last : BitVec 64) (own : Nat → Nat) (G : MG) (a : AM) (st : List (Option Rcd)) (w : World) (hb : BksAt w x b off c m n last) (hm : MemAt w m own G a) (hs : BkSt n a st) (hn0 : 0 < n) (hn : n ≤ 8) :
    Calls Try.prog 64 #[.pointer (some ⟨x, 0, none⟩)] w fun e w' => AllPost w n st e w' := by
  have KS := Lib.hid (bksStands_any x b off c m n last own G a st w hb hm hs hn0 hn)
  clear hb hm hs
  go_enter Try.func64, Try.ntmps64
  go_wp2_with fail
  refine KS.out.mono ?_
  rintro e w1 ⟨D, A, cap, rfl, hp, hso, hrd, hrw, hb⟩
  have hl : D.length ≤ n := by
    have := hp.length_eq
    rw [List.length_map] at this
    have := standF_len st n
    omega
  have HP := Lib.hid hp
  have HSO := Lib.hid hso
  have HRD := Lib.hid hrd
  have HRW := Lib.hid hrw
  have HB1 := Lib.hid hb
  have HL := Lib.hid hl
  clear hp hso hrd hrw hb KS hl hn0
  go_wp2
  go_loopw [3, 9] (fun v i wr => ∃ (k : Nat) (rs : List Rc) (B : Option Addr) (d : Nat), k ≤ D.length ∧ i = .int .i64 k ∧ v = .slice B rs.length d ∧ Go.RowKit.Hid (rs = (D.take k).map recOf) ∧ wr.ownsRow w1.heap.size 77 2 (.slice B rs.length d) rs.length (rs.flatMap encRc) ∧ Below w1.heap.size w1 wr) (fun _ i _ => D.length - (intOf i).toNat)
  case atStart => exact ⟨0, [], none, 0, Nat.zero_le _, rfl, rfl, Lib.hid rfl, World.ownsRow_nil _ _ _ _, Below.refl _ _⟩
  case round =>
    obtain ⟨k, rs, B, d, hk, rfl, rfl, hrs, hown, hbw⟩ := hrel
    have HO := Lib.hid hown
    have HB := Lib.hid hbw
    have HRS := Lib.hid hrs.out
    have HRL := Lib.hid (show rs.length ≤ 8 by have h := HL.out; rw [HRS.out, List.length_map, List.length_take]; omega)
    clear hown hbw hrs
    by_cases hlt : k < D.length
    · obtain ⟨g, rfl, hg, k0, k1, k2⟩ := HRD.out.at_ hlt
      have k0 := (HB.out.cell (p := ⟨g, _, none⟩) hg).trans k0
      have k1 := (HB.out.cell (p := ⟨g, _, none⟩) hg).trans k1
      have k2 := (HB.out.cell (p := ⟨g, _, none⟩) hg).trans k2
      have e1 : IntKind.i64.wrap ((k : Int) + 1) = (k : Int) + 1 := IntWalk.i64_in _ (by have := HL.out; omega)
      have HT := Lib.hid (show (D.take (k + 1)).map recOf = rs ++ [recOf D[k]] by rw [List.take_succ_eq_append_getElem hlt, List.map_append, HRS.out]; rfl)
      generalize D[k] = s at *
      obtain ⟨nv, B9, d9, wv, cl⟩ := s
      simp only at k0 k1 k2
      have hal : Below wr.heap.size wr (wr.alloc (.cells #[U nv, .slice B9 wv.length d9, .int .i64 cl] 138)) := (Below.refl _ _).alloc (Nat.le_refl _) _
      have hal2 : Below (wr.alloc (.cells #[U nv, .slice B9 wv.length d9, .int .i64 cl] 138)).heap.size (wr.alloc (.cells #[U nv, .slice B9 wv.length d9, .int .i64 cl] 138)) ((wr.alloc (.cells #[U nv, .slice B9 wv.length d9, .int .i64 cl] 138)).alloc (.cells #[U nv, .slice B9 wv.length d9] 77)) := (Below.refl _ _).alloc (Nat.le_refl _) _
      have HO2 := Lib.hid (own_below (own_below HO.out hal) hal2)
      have hb2 := HB.out.trans (hal.mono HB.out.size)
      have hb3 := hb2.trans (hal2.mono hb2.size)
      have HB3 := Lib.hid hb3
      have HSR := Lib.hid (show Rd ((wr.alloc (.cells #[U nv, .slice B9 wv.length d9, .int .i64 cl] 138)).alloc (.cells #[U nv, .slice B9 wv.length d9] 77)) (some ⟨(wr.alloc (.cells #[U nv, .slice B9 wv.length d9, .int .i64 cl] 138)).heap.size, 0, none⟩) (encRc (nv, B9, wv, d9)) from
        .inr ⟨_, 0, rfl, fun j hj => by
          have h9 := Lib.cell_of_heap (heap_alloc_new (wr.alloc (.cells #[U nv, .slice B9 wv.length d9, .int .i64 cl] 138)) (.cells #[U nv, .slice B9 wv.length d9] 77)) (0 + j)
          rw [h9]
          match j, hj with
          | 0, _ => rfl
          | 1, _ => rfl
          | j + 2, h => simp [encRc] at h; omega⟩)
      rw [World.size_alloc] at HSR
      clear hal hal2 hb2 hb3 HO HB
      go_wp2_with (first | go_skip | (at_builtin; refine stop_ ?_))
      refine appRc (.tmp 13) (.tmp 16) rfl rfl w1.heap.size B rs _ d rfl rfl HO2.out _ (nv, B9, wv, d9) rfl HSR.out (by have := HRL.out; omega) HB3.out.size ?_
      intro B2 zs c2 w5 hz hown hg hloc
      have HZ := Lib.hid (show zs = (D.take (k + 1)).map recOf by rw [HT.out, hz]; rfl)
      have HO5 := Lib.hid hown
      have HB5 := Lib.hid (HB3.out.grown hg HB3.out.size fun q hq => (own_lt HO2.out q hq).1)
      clear hz hown hg hloc HO2 HB3 HSR
      unfold Stop
      go_wp2
      go_roundw
      case rel => exact ⟨k + 1, zs, B2, c2, by omega, by go_num, rfl, Lib.hid HZ.out, HO5.out, HB5.out⟩
      case measure => simp [intOf]; omega
    · obtain rfl : k = D.length := by omega
      rw [List.take_length] at HRS
      have HF := Lib.hid (show AllPost w n st (.returned (.slice B rs.length d)) wr from by
        have hrl : rs.length = D.length := by rw [HRS.out, List.length_map]
        refine ⟨D, B, d, by rw [hrl], HL.out, HP.out, HSO.out, ?_, HB1.out.trans (HB.out.mono HB1.out.size)⟩
        rw [← HRS.out]
        refine rdC_of_own HO.out fun r hr => ?_
        rw [HRS.out] at hr
        obtain ⟨s, hs, rfl⟩ := List.mem_map.1 hr
        exact (HRW.out s hs).below HB.out)
      clear HO HB HRS HRD HRW HP HSO
      go_wp2
      go_ret
      exact HF.out
end Go.Proofs.Ytoifejinppjeeaa
namespace Go.Proofs.Ytoifejinppjeeaa
open Go.RowKit
set_option linter.unusedVariables false
set_option linter.unusedSimpArgs false
theorem appBk {w : World} {ops : Array Oper} {rest : List Oper} {o : Oper} {a : Act} {Q : Exit → Act → World → Prop} (s x : Operand) (hw : Region.wanted o (yielded ops a.tmps) = true)
    (ho : o.op = .call { callee := .builtin .append, args := #[s, x], argTypes := #[90, 90] })
    (base : Nat) (A : Option Addr) (m k n c : Nat) (hs : a.eval s = .slice A n c) (hn : n = k) (hown : w.ownsRow base 72 4 (.slice A k c) k (bkCells m k))
    (A2 : Option Addr) (hx : a.eval x = .slice A2 1 1) (hr : Rd w A2 [.pointer (some ⟨m, 0, none⟩), .int .i64 ((4 * k : Nat) : Int), .int .i64 4, .int .i64 k]) (hb : k ≤ 1000) (hbase : base ≤ w.heap.size)
    (h : ∀ A' c' w', w'.ownsRow base 72 4 (.slice A' (k + 1) c') (k + 1) (bkCells m (k + 1)) → w.grownBy w' (blk A) → (blk A' = blk A ∨ blk A' = some w.heap.size) → Stop (wpList Try.prog ops Q rest (a.put o.dst (.slice A' (k + 1) c')) w')) :
    Stop (wpList Try.prog ops Q (o :: rest) a w) := by
  obtain ⟨i, hi, hz0, hz1, hz2⟩ := info_parts infoBk
  subst hn
  refine wpList_want hw (wp_app s x _ ho base 72 i _ 4 32 Try.underlying90 hi hz0 hz1 hz2 rfl (by omega) (by omega) A n c _ hs hown A2 1 1 _ hx rfl hr ?_ (by omega) hbase ?_)
  · intro u hu
    simp at hu
    rcases hu with rfl | rfl | rfl | rfl <;> rfl
  · intro A' c' w' h2 h3 h4
    exact h A' c' w' h2 h3 h4
/-- What shelf answers. -/
def ShelfPost (w : World) (n : Nat) (e : Ending) (w' : World) : Prop :=
  (∃ b c m own G, e = .returned (.tuple #[.slice (some ⟨b, 0, none⟩) n c, .pointer (some ⟨m, 0, none⟩)]) ∧ MemAt w' m own G (newA (4 * n)) ∧ (∀ i, i < n → BkAt w' b 0 m i) ∧ own b = 0 ∧ b < w'.heap.size ∧ (∀ k, k < w.heap.size → own k = 0) ∧ w.heap.size ≤ b ∧ n ≤ c ∧ c ≤ maxLen) ∧ Below w.heap.size w w'
set_option maxRecDepth 100000 in
set_option maxHeartbeats 4000000 in
theorem shelf_any (n : Nat) (w : World) (hn0 : 0 < n) (hn : n ≤ 8) : Calls Try.prog 61 #[.int .i64 n, .int .i64 4] w fun e w' => ShelfPost w n e w' := by
  have KN := Lib.hid (fun W => show Calls Try.prog 20 #[.int .i64 ((n : Int) * 4)] W (fun e w' => Made W.heap.size (newA (4 * n)) e w' ∧ Below W.heap.size W w') from by
    have h := mNew_any (4 * n) W (by omega) (by omega)
    rw [show ((4 * n : Nat) : Int) = (n : Int) * 4 by omega] at h
    exact h)
  have KO := Lib.hid (fun m own G (k : Nat) (hk : k < n) W hm => spOf_yes m own G (newA (4 * n)) ((k : Int) * 4) 4 W hm (by rw [newA_len]; exact decide_eq_true ⟨by omega, by omega, by omega, by omega⟩))
  have KB := Lib.hid (fun m (k : Nat) W => bkNew_any m ((k : Int) * 4) 4 (k : Int) W)
  have e2 : IntKind.i64.wrap ((n : Int) * 4) = (n : Int) * 4 := IntWalk.i64_in _ (by omega)
  have HN := Lib.hid hn
  have HN0 := Lib.hid hn0
  clear hn hn0
  obtain ⟨a0, hA0⟩ : ∃ q, newA (4 * n) = q := ⟨_, rfl⟩
  rw [hA0] at KN KO
  have HA0 := Lib.hid hA0
  clear hA0
  go_enter Try.func61, Try.ntmps61
  go_wp2_with fail
  refine (KN.out _).mono ?_
  rintro e w1 ⟨⟨m, own, G, rfl, hm, hlow⟩, hb⟩
  have HM := Lib.hid hm
  have HLOW := Lib.hid hlow
  have HB1 := Lib.hid hb
  clear hm hlow hb KN
  go_wp2
  go_loopw [8, 9] (fun v i wr => ∃ (k : Nat) (A : Option Addr) (c : Nat), k ≤ n ∧ i = .int .i64 k ∧ v = .slice A k c ∧ wr.ownsRow w1.heap.size 72 4 (.slice A k c) k (bkCells m k) ∧ Below w1.heap.size w1 wr) (fun _ i _ => n - (intOf i).toNat)
  case atStart => exact ⟨0, none, 0, Nat.zero_le _, rfl, rfl, World.ownsRow_nil _ _ _ _, Below.refl _ _⟩
  case round =>
    obtain ⟨k, A, c, hk, rfl, rfl, hown, hbw⟩ := hrel
    have HO := Lib.hid hown
    have HB := Lib.hid hbw
    clear hown hbw
    by_cases hlt : k < n
    · have e1 : IntKind.i64.wrap ((k : Int) + 1) = (k : Int) + 1 := IntWalk.i64_in _ (by have := HN.out; omega)
      have e3 : IntKind.i64.wrap ((k : Int) * 4) = (k : Int) * 4 := IntWalk.i64_in _ (by have := HN.out; omega)
      have KOk := Lib.hid (KO.out m own G k hlt wr (HM.out.below HB.out))
      unfold spV at KOk
      have KBk := Lib.hid (fun W => KB.out m k W)
      unfold spV bkV at KBk
      have HKL := Lib.hid (show k ≤ 8 by have := HN.out; omega)
      go_wp2_with fail
      refine KOk.out.mono ?_
      rintro e w2 ⟨rfl, hb⟩
      have HO2 := Lib.hid (own_below HO.out hb)
      have HB2 := Lib.hid (HB.out.trans (hb.mono HB.out.size))
      have hal : Below w2.heap.size w2 (w2.alloc (.cells #[.pointer (some ⟨m, 0, none⟩), .int .i64 ((k : Int) * 4), .int .i64 4] 29)) := (Below.refl _ _).alloc (Nat.le_refl _) _
      have HO3 := Lib.hid (own_below HO2.out hal)
      have HB3 := Lib.hid (HB2.out.trans (hal.mono HB2.out.size))
      clear hb hal HO HB HO2 HB2 KOk
      go_wp2_with fail
      refine (KBk.out _).mono ?_
      rintro e w4 ⟨rfl, hb⟩
      have HO4 := Lib.hid (own_below HO3.out hb)
      have HB4 := Lib.hid (HB3.out.trans (hb.mono HB3.out.size))
      have hal : Below w4.heap.size w4 (w4.alloc (.cells #[.pointer (some ⟨m, 0, none⟩), .int .i64 ((k : Int) * 4), .int .i64 4, .int .i64 k] 72)) := (Below.refl _ _).alloc (Nat.le_refl _) _
      have HO5 := Lib.hid (own_below HO4.out hal)
      have HB5 := Lib.hid (HB4.out.trans (hal.mono HB4.out.size))
      have HSR := Lib.hid (show Rd (w4.alloc (.cells #[.pointer (some ⟨m, 0, none⟩), .int .i64 ((k : Int) * 4), .int .i64 4, .int .i64 k] 72)) (some ⟨w4.heap.size, 0, none⟩) [.pointer (some ⟨m, 0, none⟩), .int .i64 ((4 * k : Nat) : Int), .int .i64 4, .int .i64 k] from
        .inr ⟨_, 0, rfl, fun j hj => by
          have h9 := Lib.cell_of_heap (heap_alloc_new w4 (.cells #[.pointer (some ⟨m, 0, none⟩), .int .i64 ((k : Int) * 4), .int .i64 4, .int .i64 k] 72)) (0 + j)
          rw [h9]
          match j, hj with
          | 0, _ => rfl
          | 1, _ =>
            show some (Value.int .i64 ((k : Int) * 4)) = some (Value.int .i64 ((4 * k : Nat) : Int))
            congr 2; omega
          | 2, _ => rfl
          | 3, _ => rfl
          | j + 4, h => simp at h; omega⟩)
      clear hb hal HO3 HB3 HO4 HB4 KBk
      go_wp2_with (first | go_skip | (at_builtin; refine stop_ ?_))
      refine appBk (.tmp 39) (.tmp 43) rfl rfl w1.heap.size A m k _ c rfl rfl HO5.out _ rfl HSR.out (by have := HKL.out; omega) HB5.out.size ?_
      intro B2 c2 w5 hown hg hloc
      have HO6 := Lib.hid hown
      have HB6 := Lib.hid (HB5.out.grown hg HB5.out.size fun q hq => (own_lt HO5.out q hq).1)
      clear hown hg hloc HO5 HB5 HSR
      unfold Stop
      go_wp2
      go_roundw
      case rel => exact ⟨k + 1, B2, c2, by omega, by go_num, rfl, HO6.out, HB6.out⟩
      case measure => simp [intOf]; omega
    · obtain rfl : k = n := by omega
      obtain ⟨g, hA, hg1, hg2⟩ := own_form HO.out HN0.out
      subst hA
      have HF := Lib.hid (show ShelfPost w k (.returned (.tuple #[.slice (some ⟨g, 0, none⟩) k c, .pointer (some ⟨m, 0, none⟩)])) wr from by
        obtain ⟨hcc, hcm⟩ := own_cap HO.out
        refine ⟨⟨g, c, m, own, G, rfl, by rw [HA0.out]; exact HM.out.below HB.out, fun i hi => ?_, HM.out.fresh g hg1, hg2, HLOW.out, Nat.le_trans HB1.out.size hg1, hcc, hcm⟩, HB1.out.trans (HB.out.mono HB1.out.size)⟩
        rcases own_rd HO.out with h | ⟨b, off, hA, hc⟩
        · exfalso
          have h1 := bkCells_len m k
          rw [h] at h1
          simp only [List.length_nil] at h1
          omega
        · have e1 : g = b := by injection hA with h; injection h
          have e2 : 0 = off := by injection hA with h; injection h
          subst e1 e2
          have hl := bkCells_len m k
          obtain ⟨g0, g1, g2, g3⟩ := bkCells_at m k i hi
          have k0 := hc (i * 4) (by omega)
          have k1 := hc (i * 4 + 1) (by omega)
          have k2 := hc (i * 4 + 2) (by omega)
          have k3 := hc (i * 4 + 3) (by omega)
          rw [← List.getElem?_eq_getElem] at k0 k1 k2 k3
          rw [g0] at k0
          rw [g1, ← Nat.add_assoc] at k1
          rw [g2, ← Nat.add_assoc] at k2
          rw [g3, ← Nat.add_assoc] at k3
          exact ⟨k0, k1, k2, k3⟩)
      clear HO HM HB HB1
      go_wp2
      go_ret2
      exact HF.out
end Go.Proofs.Ytoifejinppjeeaa
namespace Go.Proofs.Ytoifejinppjeeaa
open Go.RowKit
set_option linter.unusedVariables false
set_option linter.unusedSimpArgs false
theorem BkAt.same {w w' : World} {b off m i : Nat} (h : BkAt w b off m i) (hb : w'.heap[b]? = w.heap[b]?) : BkAt w' b off m i := by
  obtain ⟨g1, g2, g3, g4⟩ := h
  exact ⟨(World.cell?_of_block hb).trans g1, (World.cell?_of_block hb).trans g2, (World.cell?_of_block hb).trans g3, (World.cell?_of_block hb).trans g4⟩
structure BoI (n : Nat) (w0 : World) (x b2 c2 b m : Nat) (G : MG) (k : Nat) (own : Nat → Nat) (a : AM) (st : List (Option Rcd)) (last : BitVec 64) (A : Option Addr) (ks : List Int) (cap : Nat) (w : World) : Prop where
  bk : BksAt w x b2 0 c2 m n last
  mem : MemAt w m own G a
  s : BkSt n a st
  cn : a.cnt (2000 * k)
  ox : own x = 0
  ob2 : own b2 = 0
  ob : own b = 0
  n0 : 0 < n
  row : ∀ i, i < n → BkAt w b 0 m i
  low : ∀ q, q < w0.heap.size → own q = 0
  bel : Below w0.heap.size w0 w
  ints : OwnF I6 3 w w0.heap.size A ks cap
  ai : ∀ q, blk A = some q → own q = 0 ∧ q ≠ x ∧ q ≠ b2 ∧ q ≠ b
  xb : x ≠ b
  xlo : w0.heap.size ≤ x
section
variable {n : Nat} {w0 w w' : World} {x b2 c2 b m : Nat} {G : MG} {k : Nat} {own own' : Nat → Nat} {a a' : AM} {st st' : List (Option Rcd)} {last last' : BitVec 64} {A A' : Option Addr} {ks : List Int} {cap cap' : Nat}
theorem BoI.blt (h : BoI n w0 x b2 c2 b m G k own a st last A ks cap w) : b < w.heap.size := cell_lt (h.row 0 h.n0).1
theorem BoI.below (h : BoI n w0 x b2 c2 b m G k own a st last A ks cap w) (hb : Below w.heap.size w w') : BoI n w0 x b2 c2 b m G k own a st last A ks cap w' :=
  { h with bk := h.bk.below h.n0 hb, mem := h.mem.below hb, row := fun i hi => (h.row i hi).same (hb.block b h.blt), bel := h.bel.trans (hb.mono h.bel.size), ints := h.ints.below hb }
theorem BoI.keep (h : BoI n w0 x b2 c2 b m G k own a st last A ks cap w) (hp : BkPost w x b2 0 c2 m n own G a' last' w') (hs : BkSt n a' st') (hc : a'.cnt (2000 * (k + 1))) : ∃ own', BoI n w0 x b2 c2 b m G (k + 1) own' a' st' last' A ks cap w' := by
  obtain ⟨own', hm, hf, hbk, hx, hb2⟩ := hp
  refine ⟨own', hbk, hm, hs, hc, hx, hb2, (hf.kept b h.blt).trans h.ob, h.n0, fun i hi => (h.row i hi).same (hf.block b h.blt h.ob h.xb.symm), hf.low h.bel.size h.low, h.bel.trans (hf.below h.bel.size h.low h.xlo), own_same h.ints fun q hq => hf.block q (own_lt h.ints q hq).2 (h.ai q hq).1 (h.ai q hq).2.1, fun q hq => ?_, h.xb, h.xlo⟩
  obtain ⟨g1, g2⟩ := h.ai q hq
  exact ⟨(hf.kept q (own_lt h.ints q hq).2).trans g1, g2⟩
theorem BoI.app {z : Int} {zs : List Int} (h : BoI n w0 x b2 c2 b m G k own a st last A ks cap w) (ho : OwnF I6 3 w' w0.heap.size A' zs cap') (hg : w.grownBy w' (blk A)) (hl : blk A' = blk A ∨ blk A' = some w.heap.size) : BoI n w0 x b2 c2 b m G k own a st last A' zs cap' w' := by
  have ne : ∀ q, q = x ∨ q = b2 ∨ q = b → some q ≠ blk A := fun q hq e => by
    obtain ⟨_, g1, g2, g3⟩ := h.ai q e.symm
    rcases hq with rfl | rfl | rfl
    · exact g1 rfl
    · exact g2 rfl
    · exact g3 rfl
  have hb2 := h.bk.blt h.n0
  have hxl := h.bk.lt
  refine ⟨h.bk.same (hg.block x hxl (ne x (.inl rfl))) (hg.block b2 hb2 (ne b2 (.inr (.inl rfl)))), h.mem.same hg.size fun q hq h0 => hg.block q hq fun e => h0 (h.ai q e.symm).1, h.s, h.cn, h.ox, h.ob2, h.ob, h.n0, fun i hi => (h.row i hi).same (hg.block b h.blt (ne b (.inr (.inr rfl)))), h.low, h.bel.grown hg h.bel.size fun q hq => (own_lt h.ints q hq).1, ho, fun q hq => ?_, h.xb, h.xlo⟩
  rcases hl with e | e
  · exact h.ai q (e ▸ hq)
  · rw [e] at hq
    injection hq with hq
    subst hq
    exact ⟨h.mem.fresh _ (Nat.le_refl _), by omega, by omega, by have := h.blt; omega⟩
theorem BoI.fell (h : BoI n w0 x b2 c2 b m G k own a st last A ks cap w) (kk : List Int) (hm : MemAt w' m own' G (a.crash kk).on) (hf : MFr w w' own own') : BoI n w0 x b2 c2 b m G k own' (a.crash kk).on st last A ks cap w' := by
  have hx := MFx.of_fr (x := x) hf
  refine ⟨h.bk.same (hf.block x h.bk.lt (.inl h.ox)) (hf.block b2 (h.bk.blt h.n0) (.inl h.ob2)), hm, h.s.fell kk, (h.cn.crash' kk).on, (hf.kept x h.bk.lt).trans h.ox, (hf.kept b2 (h.bk.blt h.n0)).trans h.ob2, (hf.kept b h.blt).trans h.ob, h.n0, fun i hi => (h.row i hi).same (hf.block b h.blt (.inl h.ob)), hf.low h.bel.size h.low, h.bel.trans (hf.below h.bel.size h.low), own_same h.ints fun q hq => hf.block q (own_lt h.ints q hq).2 (.inl (h.ai q hq).1), fun q hq => ?_, h.xb, h.xlo⟩
  obtain ⟨g1, g2⟩ := h.ai q hq
  exact ⟨(hf.kept q (own_lt h.ints q hq).2).trans g1, g2⟩
end
end Go.Proofs.Ytoifejinppjeeaa
namespace Go.Proofs.Ytoifejinppjeeaa
open Go.RowKit
set_option linter.unusedVariables false
set_option linter.unusedSimpArgs false
abbrev Tl := BitVec 64 × List (Int × BitVec 64) × Nat
theorem sorted_perm_eq {α : Type} (f : α → Nat) : ∀ (m l : List α), l.Perm m → l.Pairwise (fun x y => ¬ f y < f x) → m.Pairwise (fun x y => f x < f y) → l = m
  | [], l, h, _, _ => List.Perm.eq_nil h
  | y :: m, l, h, h1, h2 => by
    cases l with
    | nil => exact absurd h.symm.eq_nil (by simp)
    | cons x l =>
      rw [List.pairwise_cons] at h1 h2
      have hx : x ∈ y :: m := h.subset (List.mem_cons_self ..)
      have hy : y ∈ x :: l := h.symm.subset (List.mem_cons_self ..)
      have e : x = y := by
        rcases List.mem_cons.1 hx with e | hx
        · exact e
        rcases List.mem_cons.1 hy with e | hy
        · exact e.symm
        have k1 := h2.1 x hx
        have k2 := h1.1 y hy
        exact absurd k1 k2
      subst e
      rw [sorted_perm_eq f m l ((List.perm_cons x).1 h) h1.2 h2.2]
theorem standF_set {st : List (Option Rcd)} {c : Nat} (hn : st.getD c none = none) (hl : c < st.length) (r : Rcd) : ∀ k, c < k → (standF (st.set c (some r)) k).Perm (standF st k ++ [(r.1, r.2, c)])
  | 0, h => by omega
  | k + 1, h => by
    have heq : ∀ j, j ≤ c → standF (st.set c (some r)) j = standF st j := by
      intro j
      induction j with
      | zero => intro _; rfl
      | succ j ihj =>
        intro hj
        have e : (st.set c (some r)).getD j none = st.getD j none := getD_set_other (by omega) _
        cases hs : st.getD j none with
        | none =>
          rw [hs] at e
          rw [standF_none e, standF_none hs, ihj (by omega)]
        | some q =>
          rw [hs] at e
          rw [standF_some e, standF_some hs, ihj (by omega)]
    by_cases hk : k = c
    · subst hk
      have h1 : (st.set k (some r)).getD k none = some r := getD_set_self hl _
      rw [standF_some h1, heq k (Nat.le_refl _), standF_none hn]
    · have ih := standF_set hn hl r k (by omega)
      have e : (st.set c (some r)).getD k none = st.getD k none := getD_set_other (by omega) _
      cases hs : st.getD k none with
      | none =>
        rw [hs] at e
        rw [standF_none e, standF_none hs]
        exact ih
      | some q =>
        rw [hs] at e
        rw [standF_some e, standF_some hs, List.append_assoc]
        refine (ih.append_right _).trans ?_
        rw [List.append_assoc]
        exact List.Perm.append_left _ (List.perm_append_comm)
theorem standF_clear {st : List (Option Rcd)} {c : Nat} {r : Rcd} (hn : st.getD c none = some r) (hl : c < st.length) : ∀ k, c < k → (standF st k).Perm (standF (st.set c none) k ++ [(r.1, r.2, c)])
  | k, h => by
    have h1 : (st.set c none).getD c none = none := getD_set_self hl _
    have h2 := standF_set h1 (by rw [List.length_set]; exact hl) r k h
    have h3 : (st.set c none).set c (some r) = st := by
      rw [List.set_set]
      apply List.ext_getElem?
      intro j
      rw [List.getElem?_set]
      split
      · rename_i e
        subst e
        have := hn
        rw [List.getD_eq_getElem?_getD, List.getElem?_eq_getElem hl] at this
        rw [List.getElem?_eq_getElem hl]
        simpa using this.symm
      · rfl
    rw [h3] at h2
    exact h2
/-- What has been kept, in order: KL; the numbers are 1, 2, ..; each has one write, at its client's number. -/
structure KeptI (t : Nat) (st : List (Option Rcd)) (last : BitVec 64) (KL : List Tl) (ks : List Int) : Prop where
  len : KL.length = t
  few : t ≤ 20
  perm : KL.Perm (standF st 4)
  nums : ∀ j, (h : j < KL.length) → KL[j].1 = BitVec.ofNat 64 (j + 1)
  last : last = BitVec.ofNat 64 t
  ks : ks = KL.map fun x => (x.2.2 : Int)
  ws : ∀ x ∈ KL, ∃ v, x.2.1 = [((x.2.2 : Int), v)]
theorem keptI_new : KeptI 0 (List.replicate 4 none) 0#64 [] [] := by
  refine ⟨rfl, by omega, ?_, fun j h => by simp at h, rfl, rfl, fun x h => by cases h⟩
  have : standF (List.replicate 4 none) 4 = [] := by decide
  rw [this]
theorem nextN_of {t : Nat} (h : t ≤ 20) : nextN (BitVec.ofNat 64 t) = BitVec.ofNat 64 (t + 1) := by
  unfold nextN
  rw [if_neg]
  · rw [BitVec.ofNat_add]
  · intro e
    have := congrArg BitVec.toNat e
    simp only [BitVec.toNat_ofNat] at this
    omega
theorem KeptI.more {t : Nat} {st : List (Option Rcd)} {last : BitVec 64} {KL : List Tl} {ks : List Int} (h : KeptI t st last KL ks) (ht : t < 20) (hl : st.length = 4) {c : Nat} (hc : c < 4) (hn : st.getD c none = none) (v : BitVec 64) :
    KeptI (t + 1) (st.set c (some (nextN last, [((c : Int), v)]))) (nextN last) (KL ++ [(nextN last, [((c : Int), v)], c)]) (ks ++ [(c : Int)]) := by
  obtain ⟨h1, h2, h3, h4, h5, h6, h7⟩ := h
  have hx : nextN last = BitVec.ofNat 64 (t + 1) := by rw [h5]; exact nextN_of h2
  refine ⟨by simp [h1], by omega, ?_, fun j hj => ?_, hx, by rw [h6]; simp, fun x hx => ?_⟩
  · exact (h3.append_right _).trans (standF_set hn (by rw [hl]; exact hc) (nextN last, [((c : Int), v)]) 4 hc).symm
  · by_cases hjl : j < KL.length
    · rw [List.getElem_append_left hjl]; exact h4 j hjl
    · have : j = KL.length := by simp at hj; omega
      subst this
      rw [List.getElem_append_right (Nat.le_refl _)]
      simp only [Nat.sub_self, List.getElem_cons_zero]
      rw [hx, h1]
  · rcases List.mem_append.1 hx with hx | hx
    · exact h7 x hx
    · rw [List.mem_singleton.1 hx]; exact ⟨v, rfl⟩
/-- What All tells then. -/
theorem KeptI.all {t : Nat} {st : List (Option Rcd)} {last : BitVec 64} {KL : List Tl} {ks : List Int} (h : KeptI t st last KL ks) {D : List Sd} (hp : (D.map tellS).Perm (standF st 4)) (hs : ∀ i j, (hi : i < D.length) → (hj : j < D.length) → i < j → ¬ D[j].num.toNat < D[i].num.toNat) :
    D.map tellS = KL ∧ D.length = ks.length ∧ ∀ i, (hi : i < D.length) → ∃ v, D[i].ws = [((D[i].cl : Int), v)] ∧ ks[i]? = some (D[i].cl : Int) := by
  obtain ⟨h1, h2, h3, h4, h5, h6, h7⟩ := h
  have e : D.map tellS = KL := by
    refine sorted_perm_eq (fun x => x.1.toNat) KL _ (hp.trans h3.symm) ?_ ?_
    · rw [List.pairwise_iff_getElem]
      intro i j hi hj hij
      simp only [List.length_map] at hi hj
      simp only [List.getElem_map]
      exact hs i j hi hj hij
    · rw [List.pairwise_iff_getElem]
      intro i j hi hj hij
      rw [h4 i hi, h4 j hj]
      simp only [BitVec.toNat_ofNat]
      omega
  refine ⟨e, ?_, fun i hi => ?_⟩
  · rw [h6, ← e]; simp
  · have hm : tellS D[i] ∈ KL := by rw [← e]; exact List.mem_map_of_mem (List.getElem_mem hi)
    obtain ⟨v, hv⟩ := h7 _ hm
    refine ⟨v, hv, ?_⟩
    rw [h6, ← e, List.map_map, List.getElem?_map, List.getElem?_eq_getElem hi]
    rfl
end Go.Proofs.Ytoifejinppjeeaa
