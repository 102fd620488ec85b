/- The walk of the statement PmemSure. Condition: the slices can be read. -/
import Derived.Test.YtoifejinppjeeaaPmLaw
import Derived.Test.YtoifejinppjeeaaActs4
import Derived.BigGuard
namespace Go.Proofs.Ytoifejinppjeeaa
open Go.RowKit
set_option linter.unusedVariables false
set_option linter.unusedSimpArgs false
/-- Four lines, in power, n stores so far. -/
structure InvB (n : Nat) (a : AM) : Prop where
  len : a.ls.length = 4
  on : a.off = false
  fuse : a.fuse = 0
  room : a.room n
  ss : ∀ i, i < 4 → (a.ln i).ss.length = 8
  c1 : 0 ≤ a.n1 ∧ a.n1 ≤ n
  c2 : 0 ≤ a.n2 ∧ a.n2 ≤ 1
  c3 : 0 ≤ a.n3 ∧ a.n3 ≤ 1
theorem InvB.fit {n : Nat} {a : AM} (h : InvB n a) (hn : n ≤ 1000) : a.fit := by
  have h1 := h.c1
  have h2 := h.c2
  have h3 := h.c3
  exact ⟨by rw [h.fuse]; omega, by omega, by omega, by omega⟩
theorem InvB.has {n : Nat} {a : AM} (h : InvB n a) (z : Int) : a.has (z % 32) = true := by
  have hz0 := Int.emod_nonneg z (b := 32) (by omega)
  have hz1 := Int.emod_lt_of_pos z (b := 32) (by omega)
  exact decide_eq_true (by rw [h.len]; omega)
theorem InvB.store {n : Nat} {a : AM} (h : InvB n a) (z : Int) (v : BitVec 64) : a.store (z % 32) v = (a.store1 (z % 32) v, 0) ∧ InvB (n + 1) (a.store1 (z % 32) v) := by
  refine ⟨store_ok h.on h.fuse (h.has z), (store1_len _ _ _).trans h.len, h.on, h.fuse, store1_room h.room _ _, fun i hi => ?_, ?_, h.c2, h.c3⟩
  · rw [store1_ln (h.has z)]
    split
    · have hz0 := Int.emod_nonneg z (b := 32) (by omega)
      have hz1 := Int.emod_lt_of_pos z (b := 32) (by omega)
      exact h.ss _ (by omega)
    · exact h.ss i hi
  · have := h.c1
    show 0 ≤ a.n1 + 1 ∧ a.n1 + 1 ≤ ((n + 1 : Nat) : Int)
    omega
theorem invB_new : InvB 0 (newA 4) :=
  ⟨newA_len 4, rfl, rfl, newA_room 4 0, fun i hi => by rw [newA_ln 4 i hi]; rfl, by simp [newA, fromA], by simp [newA, fromA], by simp [newA, fromA]⟩
theorem flushL_four {ls : List Ln} (h : ls.length = 4) : flushL ls [0, 1, 2, 3] = ls.map Ln.flush := by
  match ls, h with
  | [a, b, c, d], _ => rfl
theorem map_mem {P : Ln → Prop} {f : Ln → Ln} {ls : List Ln} (h : ∀ l ∈ ls, P (f l)) : ∀ l ∈ ls.map f, P l := fun l hl => by
  rw [List.mem_map] at hl
  obtain ⟨x, hx, rfl⟩ := hl
  exact h x hx
/-- All are flushed; then all are sure. -/
theorem InvB.flush {n : Nat} {a : AM} (h : InvB n a) (h0 : a.n2 = 0) : a.flush [0, 1, 2, 3] = ({ a with ls := a.ls.map Ln.flush, n2 := a.n2 + 1 }, 0) ∧ InvB n { a with ls := a.ls.map Ln.flush, n2 := a.n2 + 1 } := by
  refine ⟨?_, (List.length_map _).trans h.len, h.on, h.fuse, fun l hl => ?_, fun i hi => ?_, h.c1, ?_, h.c3⟩
  · rw [flush_ok h.on h.fuse, flushL_four h.len]
    simp only [List.any_cons, List.any_nil, Bool.or_false, AM.none, h.len]
    decide
  · exact map_mem (P := fun l => l.os.length ≤ n) (f := Ln.flush) (fun l hl => h.room l hl) l hl
  · have hg := get_ln (a := a) (i := i) (by rw [h.len]; exact hi)
    have h1 : ({ a with ls := a.ls.map Ln.flush, n2 := a.n2 + 1 } : AM).ls[i]? = some (a.ln i).flush := by simp only [List.getElem?_map, hg]; rfl
    rw [ln_get h1]
    exact h.ss i hi
  · simp only; omega
/-- Fenced behind that: nothing is open. -/
structure InvC (a2 : AM) (ov : List Bool) (n : Nat) (a : AM) : Prop where
  b : InvB n a
  same : ∀ i, i < 4 → (a.ln i).ss = (a2.ln i).ss
  opn : ∀ i, i < 4 → ∀ s ∈ (a.ln i).os, ∀ j : Nat, s.1 = (j : Int) → ov.getD (8 * i + j) false = true
theorem InvB.fence {n : Nat} {a : AM} (h : InvB n a) (h0 : a.n3 = 0) (hf : ∀ l ∈ a.ls, l.fl = l.os.length) : a.fence = ({ a with ls := a.ls.map Ln.fence, n3 := a.n3 + 1 }, 0) ∧ InvB 0 { a with ls := a.ls.map Ln.fence, n1 := 0, n3 := a.n3 + 1 } ∧ InvB n { a with ls := a.ls.map Ln.fence, n3 := a.n3 + 1 } ∧ ∀ i, i < 4 → (({ a with ls := a.ls.map Ln.fence, n3 := a.n3 + 1 } : AM).ln i).os = [] := by
  have key : ∀ i, i < 4 → (a.ls.map Ln.fence)[i]? = some (a.ln i).fence := fun i hi => by
    rw [List.getElem?_map, get_ln (by rw [h.len]; exact hi)]; rfl
  have ho : ∀ l ∈ a.ls.map Ln.fence, l.os.length ≤ 0 := map_mem (P := fun l => l.os.length ≤ 0) (f := Ln.fence) (fun l hl => by
    show (l.os.drop l.fl).length ≤ 0
    rw [hf l hl, List.drop_length]; exact Nat.le_refl _)
  have hs : ∀ i, i < 4 → ((a.ln i).fence).ss.length = 8 := fun i hi => (doW_len _ _).trans (h.ss i hi)
  refine ⟨fence_ok h.on h.fuse, ⟨(List.length_map _).trans h.len, h.on, h.fuse, ho, fun i hi => ?_, by simp, h.c2, by simp only; omega⟩, ⟨(List.length_map _).trans h.len, h.on, h.fuse, fun l hl => Nat.le_trans (ho l hl) (Nat.zero_le _), fun i hi => ?_, h.c1, h.c2, by simp only; omega⟩, fun i hi => ?_⟩
  · rw [ln_get (a := { a with ls := a.ls.map Ln.fence, n1 := 0, n3 := a.n3 + 1 }) (key i hi)]; exact hs i hi
  · rw [ln_get (a := { a with ls := a.ls.map Ln.fence, n3 := a.n3 + 1 }) (key i hi)]; exact hs i hi
  · rw [ln_get (a := { a with ls := a.ls.map Ln.fence, n3 := a.n3 + 1 }) (key i hi)]
    have := ho _ (List.mem_of_getElem? (key i hi))
    exact List.eq_nil_of_length_eq_zero (by omega)
theorem ov_set {ov : List Bool} {p q : Nat} (h : ov.getD q false = true) (hp : p < ov.length) : (ov.set p true).getD q false = true := by
  rw [List.getD_eq_getElem?_getD, List.getElem?_set]
  split
  · simp [hp]
  · rw [List.getD_eq_getElem?_getD] at h; exact h
theorem InvC.store {a2 : AM} {ov : List Bool} {n : Nat} {a : AM} (h : InvC a2 ov n a) (hov : ov.length = 32) (z : Int) (v : BitVec 64) : a.store (z % 32) v = (a.store1 (z % 32) v, 0) ∧ InvC a2 (ov.set (z % 32).toNat true) (n + 1) (a.store1 (z % 32) v) := by
  have hz0 := Int.emod_nonneg z (b := 32) (by omega)
  have hz1 := Int.emod_lt_of_pos z (b := 32) (by omega)
  obtain ⟨h1, h2⟩ := h.b.store z v
  refine ⟨h1, h2, fun i hi => ?_, fun i hi s hs j ej => ?_⟩
  · rw [store1_ln (h.b.has z)]
    split
    · rename_i e; rw [e]; exact h.same i hi
    · exact h.same i hi
  · rw [store1_ln (h.b.has z)] at hs
    split at hs
    · rename_i e
      rcases List.mem_append.1 hs with h3 | h3
      · rw [e] at h3
        exact ov_set (h.opn i hi s h3 j ej) (by omega)
      · rw [List.mem_singleton.1 h3] at ej
        simp only at ej
        have e9 : (z % 32).toNat = 8 * i + j := by omega
        rw [List.getD_eq_getElem?_getD, e9, List.getElem?_set_self (by omega)]; rfl
    · exact ov_set (h.opn i hi s hs j ej) (by omega)
/-- What was not stored over is behind a fall as it was. -/
theorem InvC.fallen {a2 : AM} {ov : List Bool} {n : Nat} {a : AM} (h : InvC a2 ov n a) (h2 : InvB n a2 ∨ ∃ k, InvB k a2) (ho : ∀ i, i < 4 → (a2.ln i).os = []) (ks : List Int) (p : Nat) (hp : p < 32) (hov : ov.getD p false = false) : (a.crash ks).on.words.getD p 0#64 = a2.words.getD p 0#64 := by
  have hl2 : a2.ls.length = 4 := by rcases h2 with h2 | ⟨k, h2⟩ <;> exact h2.len
  have hl : (a.crash ks).on.ls.length = 4 := (crash_len a ks).trans h.b.len
  have hi : p / 8 < 4 := by omega
  have w1 := words_get (a.crash ks).on (p / 8) (p % 8) (by omega) (by rw [hl]; omega)
  have w2 := words_get a2 (p / 8) (p % 8) (by omega) (by rw [hl2]; omega)
  rw [show 8 * (p / 8) + p % 8 = p by omega] at w1 w2
  rw [List.getD_eq_getElem?_getD, List.getD_eq_getElem?_getD, w1, w2]
  show (((a.crash ks).on.ln (p / 8)).at_ _) = ((a2.ln (p / 8)).at_ _)
  rw [at_eq _ _ (by omega), at_eq _ _ (by omega), ho _ hi]
  have hg := get_ln (a := a) (i := p / 8) (by rw [h.b.len]; exact hi)
  obtain ⟨z, hz⟩ := crashL_get a.ls ks (p / 8) _ hg
  have hln : (a.crash ks).on.ln (p / 8) = if (a.ln (p / 8)).os = [] then a.ln (p / 8) else (a.ln (p / 8)).fall z := by
    refine ln_get ?_
    show (a.crash ks).ls[p / 8]? = _
    rw [crash_on ks h.b.on]
    exact hz
  rw [hln]
  show _ = (a2.ln (p / 8)).ss.getD (p % 8) 0#64
  rw [← h.same _ hi]
  split
  · rename_i e; rw [e]; rfl
  · show lastV ((doW _ _).getD (p % 8) 0#64) [] (p % 8) = _
    show (doW _ _).getD (p % 8) 0#64 = _
    have hsl := h.b.ss _ hi
    rw [List.getD_eq_getElem?_getD, doW_get _ (List.getElem?_eq_getElem (show p % 8 < (a.ln (p / 8)).ss.length by omega)), List.getD_eq_getElem?_getD, List.getElem?_eq_getElem (show p % 8 < (a.ln (p / 8)).ss.length by omega)]
    show lastV _ _ _ = _
    rcases lastV_or ((a.ln (p / 8)).os.take (fallN z (a.ln (p / 8)).os.length)) ((a.ln (p / 8)).ss[p % 8]'(by omega)) (p % 8) with e | ⟨s, h3, h4, _⟩
    · exact e
    · have := h.opn _ hi s (List.mem_of_mem_take h3) (p % 8) h4
      rw [show 8 * (p / 8) + p % 8 = p by omega, hov] at this
      cases this
/-- What the law has beside the memory: the words as they were, the places stored over. -/
structure Loc (w : World) (own : Nat → Nat) (B : Option Addr) (us : List (BitVec 64)) (q : Nat) (ov : List Bool) : Prop where
  rd : RdU w B us
  bz : ∀ k, blk B = some k → own k = 0 ∧ k < w.heap.size
  ov : w.heap[q]? = some (.cells (ov.map Value.bool).toArray 46 (0, 0))
  oz : own q = 0
  ne : blk B ≠ some q
theorem Loc.mfr {w w' : World} {own own' : Nat → Nat} {B : Option Addr} {us : List (BitVec 64)} {q : Nat} {ov : List Bool} (h : Loc w own B us q ov) (hf : MFr w w' own own') : Loc w' own' B us q ov :=
  ⟨rd_same (f := U) h.rd fun k hk => hf.block k (h.bz k hk).2 (.inl (h.bz k hk).1), fun k hk => ⟨(hf.kept k (h.bz k hk).2).trans (h.bz k hk).1, Nat.lt_of_lt_of_le (h.bz k hk).2 hf.size⟩, (hf.block q (heap_lt h.ov) (.inl h.oz)).trans h.ov, (hf.kept q (heap_lt h.ov)).trans h.oz, h.ne⟩
theorem Loc.below {w w' : World} {own : Nat → Nat} {B : Option Addr} {us : List (BitVec 64)} {q : Nat} {ov : List Bool} (h : Loc w own B us q ov) (hb : Below w.heap.size w w') : Loc w' own B us q ov := h.mfr (MFr.of_below own hb)
theorem Loc.at_ {w : World} {own : Nat → Nat} {B : Option Addr} {us : List (BitVec 64)} {q : Nat} {ov : List Bool} (h : Loc w own B us q ov) (i : Nat) (hi : i < ov.length) : w.cell? ⟨q, i, none⟩ = some (.bool (ov.getD i false)) := by
  rw [Lib.cell_of_heap h.ov i]
  simp [hi]
theorem Loc.fz {w : World} {own : Nat → Nat} {B : Option Addr} {us : List (BitVec 64)} {q : Nat} {ov : List Bool} (h : Loc w own B us q ov) (i : Nat) : w.frozen? ⟨q, i, none⟩ = false := Lib.frozen_of_heap h.ov i
theorem Loc.set {w : World} {own : Nat → Nat} {B : Option Addr} {us : List (BitVec 64)} {q : Nat} {ov : List Bool} (h : Loc w own B us q ov) (i : Nat) : Loc (w.setCell ⟨q, i, none⟩ (.bool true)) own B us q (ov.set i true) := by
  have hs : ∀ k, k ≠ q → (w.setCell ⟨q, i, none⟩ (.bool true)).heap[k]? = w.heap[k]? := fun k hk => Below.heap_setCell _ _ _ _ (by simpa using hk)
  refine ⟨rd_same (f := U) h.rd fun k hk => hs k (by rintro rfl; exact h.ne hk), fun k hk => ⟨(h.bz k hk).1, by have := (h.bz k hk).2; simpa [World.setCell] using this⟩, ?_, h.oz, h.ne⟩
  rw [Go.Joins.block_setCell (i := i) h.ov, List.setIfInBounds_toArray, List.map_set]
theorem MemAt.setBox {w : World} {m : Nat} {own : Nat → Nat} {G : MG} {a : AM} (h : MemAt w m own G a) {q i : Nat} {v : Value} (hq : own q = 0) : MemAt (w.setCell ⟨q, i, none⟩ v) m own G a :=
  h.same (by simp [World.setCell]) fun k _ hk => Below.heap_setCell _ _ _ _ (by simp; rintro rfl; exact hk hq)
set_option maxRecDepth 100000 in
set_option maxHeartbeats 8000000 in
theorem PmemSure_walk (l : List Ac) (L : Option Addr) (lc : Nat) (mo : List Ac) (M : Option Addr) (mc : Nat) (ks : List Int) (K : Option Addr) (kc : Nat) (w : World) (hl : RdA w L l ∧ AcFit l) (hlc : l.length ≤ lc) (hlm : lc ≤ maxLen) (hm : RdA w M mo ∧ AcFit mo) (hmc : mo.length ≤ mc) (hmm : mc ≤ maxLen) (hk : RdF I6 w K ks ∧ ∀ z ∈ ks, -9223372036854775808 ≤ z ∧ z ≤ 9223372036854775807) (hkc : ks.length ≤ kc) (hkm : kc ≤ maxLen) :
    Calls Try.prog 4 #[.slice L l.length lc, .slice M mo.length mc, .slice K ks.length kc] w fun e w' => e = .returned (.bool true) ∧ Below w.heap.size w w' := by
  have KA := Lib.hid (fun W => pmAwake_any W)
  have KN := Lib.hid (fun W => show Calls Try.prog 20 #[.int .i64 4] W (fun e w' => Made W.heap.size (newA 4) e w' ∧ Below W.heap.size W w') from mNew_any 4 W (by omega) (by omega))
  have HL := Lib.hid hl.1
  have HMO := Lib.hid hm.1
  have HK := Lib.hid hk.1
  have HKM := Lib.hid hkm
  clear hl hm hk hlm hmm hkm
  by_cases q1 : 30 < (l.length : Int)
  · skip
    have HW := Lib.hid (Below.refl w.heap.size w)
    go_enter Try.func4, Try.ntmps4
    go_wp2_with fail
    refine (KA.out _).mono ?_
    rintro e w1 ⟨rfl, hb⟩
    have HW := Lib.hid (HW.out.trans (hb.mono HW.out.size))
    clear hb
    go_wp2
    go_ret
    exact ⟨rfl, HW.out⟩
  by_cases q2 : 30 < (mo.length : Int)
  · skip
    have HW := Lib.hid (Below.refl w.heap.size w)
    go_enter Try.func4, Try.ntmps4
    go_wp2_with fail
    refine (KA.out _).mono ?_
    rintro e w1 ⟨rfl, hb⟩
    have HW := Lib.hid (HW.out.trans (hb.mono HW.out.size))
    clear hb
    go_wp2
    go_ret
    exact ⟨rfl, HW.out⟩
  by_cases q3 : 10 < (ks.length : Int)
  · skip
    have HW := Lib.hid (Below.refl w.heap.size w)
    go_enter Try.func4, Try.ntmps4
    go_wp2_with fail
    refine (KA.out _).mono ?_
    rintro e w1 ⟨rfl, hb⟩
    have HW := Lib.hid (HW.out.trans (hb.mono HW.out.size))
    clear hb
    go_wp2
    go_ret
    exact ⟨rfl, HW.out⟩
  have HW := Lib.hid (Below.refl w.heap.size w)
  go_enter Try.func4, Try.ntmps4
  go_wp2_with fail
  refine (KA.out _).mono ?_
  rintro e w1 ⟨rfl, hb⟩
  have HW := Lib.hid (HW.out.trans (hb.mono HW.out.size))
  clear hb
  go_wp2_with fail
  refine (KN.out _).mono ?_
  rintro e w2 ⟨⟨m, own, G, rfl, hm, hlow⟩, hb⟩
  have HLOW := Lib.hid (fun k (hk : k < w.heap.size) => hlow k (Nat.lt_of_lt_of_le hk HW.out.size))
  have HW := Lib.hid (HW.out.trans (hb.mono HW.out.size))
  clear hb
  have HM := Lib.hid hm
  clear hm hlow
  have HINV := Lib.hid invB_new
  have HC0 := Lib.hid (show (newA 4).n2 = 0 ∧ (newA 4).n3 = 0 from ⟨rfl, rfl⟩)
  generalize newA 4 = a0 at *
  go_wp2
  go_loopw [9] (fun i wr => ∃ k : Nat, k ≤ l.length ∧ i = .int .i64 k ∧ ∃ own' a', MemAt wr m own' G a' ∧ InvB k a' ∧ (a'.n2 = 0 ∧ a'.n3 = 0) ∧ (∀ k, k < w.heap.size → own' k = 0) ∧ Below w.heap.size w wr) (fun i _ => l.length - (intOf i).toNat)
  case atStart => exact ⟨0, Nat.zero_le _, rfl, own, a0, HM.out, HINV.out, HC0.out, HLOW.out, HW.out⟩
  case round =>
    clear HM HINV HLOW HW HC0 KN KA
    obtain ⟨k, hk, rfl, own, a, hm, hinv, hc0, hlow, hw⟩ := hrel
    have HM := Lib.hid hm
    have HINV := Lib.hid hinv
    have HLOW := Lib.hid hlow
    have HW := Lib.hid hw
    have HC0 := Lib.hid hc0
    clear hm hinv hlow hw hc0
    by_cases hlt : k < l.length
    · obtain ⟨lb, lo, rfl, hlc⟩ := HL.out.at_ hlt
      obtain ⟨_, k1, k2, _⟩ := (hlc k hlt).below HW.out
      clear hlc
      generalize l[k] = x at *
      obtain ⟨op, at_, v, Lx, nx, cx⟩ := x
      simp only at k1 k2
      have hst := HINV.out.store at_ v
      obtain ⟨hst1, hinv1⟩ := hst
      have KS := Lib.hid (fun (W : World) (h : Below wr.heap.size wr W) => mStore_any m own G a (at_ % 32) v W (HM.out.below h) (room_mono HINV.out.room (by omega)) (HINV.out.fit (by omega)))
      rw [hst1] at KS
      have HINV1 := Lib.hid hinv1
      clear hst1 hinv1
      have e0 : IntKind.i64.wrap ((k : Int) + 1) = (k : Int) + 1 := IntWalk.i64_in _ (by omega)
      go_wp2_with fail
      apply wp_region_last 121 (Eqs _ :: Eqs _ :: Eqs _ :: Eqs _ :: Eqs _ :: Eqs _ :: Eqs _ :: Eqs _ :: Eqs _ :: Eqs _ :: Eqs _ :: Eqs _ :: []) rfl (by kernel_rfl) (by rfl) (stab_cons (stab_eq _) (stab_cons (stab_eq _) (stab_cons (stab_eq _) (stab_cons (stab_eq _) (stab_cons (stab_eq _) (stab_cons (stab_eq _) (stab_cons (stab_eq _) (stab_cons (stab_eq _) (stab_cons (stab_eq _) (stab_cons (stab_eq _) (stab_cons (stab_eq _) (stab_cons (stab_eq _) stab_nil)))))))))))) (by kernel_rfl) (by kernel_rfl) (by kernel_rfl)
      case hstep =>
        simp only [List.dropLast_cons_cons, List.dropLast_singleton]
        refine StepsOK.cons ?_ ?_
        · -- 0: Go.Op.move (Go.Operand.tmp 7)
          intro a w1 hR1 hF hU hsz
          have e7 : a.eval (.tmp 7) = _ := hU 7 (by kernel_rfl)
          rw [if_pos (by rfl)]
          intro K hK
          clear hF hU hsz
          obtain ⟨q1, q2, q3⟩ := eval_rest a
          generalize hρ : a.eval = ρ
          rw [hρ] at q1 q2 q3 e7
          clear hρ
          have u1 := OpUp_value Try.prog K
          have u2 := OpUp_enter Try.prog K
          go_simp
          exact hK _ _ (Stood.refl _) rfl
        refine StepsOK.cons ?_ ?_
        · -- 1: Go.Op.move (Go.Operand.tmp 0)
          intro a w1 hR1 hF hU hsz
          have e0 : a.eval (.tmp 0) = _ := hU 0 (by kernel_rfl)
          rw [if_pos (by rfl)]
          intro K hK
          clear hF hU hsz
          obtain ⟨q1, q2, q3⟩ := eval_rest a
          generalize hρ : a.eval = ρ
          rw [hρ] at q1 q2 q3 e0
          clear hρ
          have u1 := OpUp_value Try.prog K
          have u2 := OpUp_enter Try.prog K
          go_simp
          exact hK _ _ (Stood.refl _) rfl
        refine StepsOK.cons ?_ ?_
        · -- 2: Go.Op.move (Go.Operand.tmp 9)
          intro a w1 hR1 hF hU hsz
          have e9 : a.eval (.tmp 9) = _ := hU 9 (by kernel_rfl)
          rw [if_pos (by rfl)]
          intro K hK
          clear hF hU hsz
          obtain ⟨q1, q2, q3⟩ := eval_rest a
          generalize hρ : a.eval = ρ
          rw [hρ] at q1 q2 q3 e9
          clear hρ
          have u1 := OpUp_value Try.prog K
          have u2 := OpUp_enter Try.prog K
          go_simp
          exact hK _ _ (Stood.refl _) rfl
        refine StepsOK.cons ?_ ?_
        · -- 3: Go.Op.indexAddr 38 (Go.Operand.tmp 41) (Go.Operand.tmp 42)
          intro a w1 hR1 hF hU hsz
          have e41 : a.eval (.tmp 41) = _ := hF 1 _ _ rfl rfl (by kernel_rfl)
          have e42 : a.eval (.tmp 42) = _ := hF 2 _ _ rfl rfl (by kernel_rfl)
          rw [if_pos (by rfl)]
          intro K hK
          clear hF hU hsz
          obtain ⟨q1, q2, q3⟩ := eval_rest a
          generalize hρ : a.eval = ρ
          rw [hρ] at q1 q2 q3 e41 e42
          clear hρ
          have u1 := OpUp_value Try.prog K
          have u2 := OpUp_enter Try.prog K
          go_simp
          exact hK _ _ (Stood.refl _) rfl
        refine StepsOK.cons ?_ ?_
        · -- 4: Go.Op.fieldAddr 41 (Go.Operand.tmp 43) 1
          intro a w1 hR1 hF hU hsz
          have e43 : a.eval (.tmp 43) = _ := hF 3 _ _ rfl rfl (by kernel_rfl)
          rw [if_pos (by rfl)]
          intro K hK
          clear hF hU hsz
          obtain ⟨q1, q2, q3⟩ := eval_rest a
          generalize hρ : a.eval = ρ
          rw [hρ] at q1 q2 q3 e43
          clear hρ
          have u1 := OpUp_value Try.prog K
          have u2 := OpUp_enter Try.prog K
          go_simp
          exact hK _ _ (Stood.refl _) rfl
        refine StepsOK.cons ?_ ?_
        · -- 5: Go.Op.load 3 (Go.Operand.tmp 44)
          intro a w1 hR1 hF hU hsz
          have e44 : a.eval (.tmp 44) = _ := hF 4 _ _ rfl rfl (by kernel_rfl)
          rw [if_pos (by rfl)]
          intro K hK
          clear hF hU hsz
          have hz1 := ((Stood.cur hR1).cell (cell_lt k1)).trans k1
          obtain ⟨q1, q2, q3⟩ := eval_rest a
          generalize hρ : a.eval = ρ
          rw [hρ] at q1 q2 q3 e44
          clear hρ
          have u1 := OpUp_value Try.prog K
          have u2 := OpUp_enter Try.prog K
          go_simp
          exact hK _ _ (Stood.refl _) rfl
        refine StepsOK.cons ?_ ?_
        · -- 6: Go.Op.binOp Go.BinOp.and 3 (Go.Operand.tmp 45) (Go.Operand.const (Go.Value.int G
          intro a w1 hR1 hF hU hsz
          have e45 : a.eval (.tmp 45) = _ := hF 5 _ _ rfl rfl (by kernel_rfl)
          rw [if_pos (by rfl)]
          intro K hK
          clear hF hU hsz
          obtain ⟨q1, q2, q3⟩ := eval_rest a
          generalize hρ : a.eval = ρ
          rw [hρ] at q1 q2 q3 e45
          clear hρ
          have u1 := OpUp_value Try.prog K
          have u2 := OpUp_enter Try.prog K
          go_simp
          exact hK _ _ (Stood.refl _) rfl
        refine StepsOK.cons ?_ ?_
        · -- 7: Go.Op.move (Go.Operand.tmp 0)
          intro a w1 hR1 hF hU hsz
          have e0 : a.eval (.tmp 0) = _ := hU 0 (by kernel_rfl)
          rw [if_pos (by rfl)]
          intro K hK
          clear hF hU hsz
          obtain ⟨q1, q2, q3⟩ := eval_rest a
          generalize hρ : a.eval = ρ
          rw [hρ] at q1 q2 q3 e0
          clear hρ
          have u1 := OpUp_value Try.prog K
          have u2 := OpUp_enter Try.prog K
          go_simp
          exact hK _ _ (Stood.refl _) rfl
        refine StepsOK.cons ?_ ?_
        · -- 8: Go.Op.move (Go.Operand.tmp 9)
          intro a w1 hR1 hF hU hsz
          have e9 : a.eval (.tmp 9) = _ := hU 9 (by kernel_rfl)
          rw [if_pos (by rfl)]
          intro K hK
          clear hF hU hsz
          obtain ⟨q1, q2, q3⟩ := eval_rest a
          generalize hρ : a.eval = ρ
          rw [hρ] at q1 q2 q3 e9
          clear hρ
          have u1 := OpUp_value Try.prog K
          have u2 := OpUp_enter Try.prog K
          go_simp
          exact hK _ _ (Stood.refl _) rfl
        refine StepsOK.cons ?_ ?_
        · -- 9: Go.Op.indexAddr 38 (Go.Operand.tmp 47) (Go.Operand.tmp 48)
          intro a w1 hR1 hF hU hsz
          have e47 : a.eval (.tmp 47) = _ := hF 7 _ _ rfl rfl (by kernel_rfl)
          have e48 : a.eval (.tmp 48) = _ := hF 8 _ _ rfl rfl (by kernel_rfl)
          rw [if_pos (by rfl)]
          intro K hK
          clear hF hU hsz
          obtain ⟨q1, q2, q3⟩ := eval_rest a
          generalize hρ : a.eval = ρ
          rw [hρ] at q1 q2 q3 e47 e48
          clear hρ
          have u1 := OpUp_value Try.prog K
          have u2 := OpUp_enter Try.prog K
          go_simp
          exact hK _ _ (Stood.refl _) rfl
        refine StepsOK.cons ?_ ?_
        · -- 10: Go.Op.fieldAddr 41 (Go.Operand.tmp 49) 2
          intro a w1 hR1 hF hU hsz
          have e49 : a.eval (.tmp 49) = _ := hF 9 _ _ rfl rfl (by kernel_rfl)
          rw [if_pos (by rfl)]
          intro K hK
          clear hF hU hsz
          obtain ⟨q1, q2, q3⟩ := eval_rest a
          generalize hρ : a.eval = ρ
          rw [hρ] at q1 q2 q3 e49
          clear hρ
          have u1 := OpUp_value Try.prog K
          have u2 := OpUp_enter Try.prog K
          go_simp
          exact hK _ _ (Stood.refl _) rfl
        refine StepsOK.cons ?_ ?_
        · -- 11: Go.Op.load 22 (Go.Operand.tmp 50)
          intro a w1 hR1 hF hU hsz
          have e50 : a.eval (.tmp 50) = _ := hF 10 _ _ rfl rfl (by kernel_rfl)
          rw [if_pos (by rfl)]
          intro K hK
          clear hF hU hsz
          have hz1 := ((Stood.cur hR1).cell (cell_lt k2)).trans k2
          obtain ⟨q1, q2, q3⟩ := eval_rest a
          generalize hρ : a.eval = ρ
          rw [hρ] at q1 q2 q3 e50
          clear hρ
          have u1 := OpUp_value Try.prog K
          have u2 := OpUp_enter Try.prog K
          go_simp
          exact hK _ _ (Stood.refl _) rfl
        exact StepsOK.nil
      case hend =>
        intro vs0 w1 hR1 hH0
        obtain ⟨vs1, rfl, hH1⟩ := hH0.eq_
        obtain ⟨vs2, rfl, hH2⟩ := hH1.eq_
        obtain ⟨vs3, rfl, hH3⟩ := hH2.eq_
        obtain ⟨vs4, rfl, hH4⟩ := hH3.eq_
        obtain ⟨vs5, rfl, hH5⟩ := hH4.eq_
        obtain ⟨vs6, rfl, hH6⟩ := hH5.eq_
        obtain ⟨vs7, rfl, hH7⟩ := hH6.eq_
        obtain ⟨vs8, rfl, hH8⟩ := hH7.eq_
        obtain ⟨vs9, rfl, hH9⟩ := hH8.eq_
        obtain ⟨vs10, rfl, hH10⟩ := hH9.eq_
        obtain ⟨vs11, rfl, hH11⟩ := hH10.eq_
        obtain ⟨vs12, rfl, hH12⟩ := hH11.eq_
        obtain rfl := hH12.nil
        clear hH0 hH1 hH2 hH3 hH4 hH5 hH6 hH7 hH8 hH9 hH10 hH11 hH12
        simp only [List.dropLast_cons_cons, List.dropLast_singleton, putAll, Act.put, List.setIfInBounds_toArray, List.set_cons_zero, List.set_cons_succ]

        have hb := (Stood.cur hR1)
        have KS := Lib.hid (KS.out w1 hb)
        have HW := Lib.hid (HW.out.trans (hb.mono HW.out.size))
        clear hb hR1 k1 k2
        go_wp2_with fail
        refine KS.out.mono ?_
        rintro e w2 ⟨rfl, own1, hm2, hfr⟩
        have HLOWn := Lib.hid (hfr.low HW.out.size HLOW.out)
        have HW := Lib.hid (HW.out.trans (hfr.below HW.out.size HLOW.out))
        have HM := Lib.hid hm2
        clear hm2 hfr KS
        go_wp2
        go_roundw
        case rel => exact ⟨k + 1, by omega, by go_num, own1, _, HM.out, HINV1.out, HC0.out, HLOWn.out, HW.out⟩
        case measure => simp [intOf]; omega
    · obtain rfl : k = l.length := by omega
      clear hlt hk
      obtain ⟨hfl1, hfl2⟩ := HINV.out.flush HC0.out.1
      have hfall : ∀ x ∈ ({ a with ls := a.ls.map Ln.flush, n2 := a.n2 + 1 } : AM).ls, x.fl = x.os.length := map_mem (P := fun l => l.fl = l.os.length) (f := Ln.flush) (fun x _ => rfl)
      obtain ⟨hfe1, hfe2, hfe3, hfe4⟩ := hfl2.fence HC0.out.2 hfall
      have KF := Lib.hid (fun (W : World) (hb : Below wr.heap.size wr W) (hr : ∀ W9 own9, MFr W W9 own own9 → RdF I6 W9 (some ⟨wr.heap.size, 0, none⟩) [0, 1, 2, 3]) => mFlush_any m own G a [0, 1, 2, 3] (some ⟨wr.heap.size, 0, none⟩) 4 W (HM.out.below hb) (room_mono HINV.out.room (by omega)) (HINV.out.fit (by omega)) hr (by simp))
      rw [hfl1] at KF
      have KE := Lib.hid (fun (W : World) (own9 : Nat → Nat) h => mFence_any m own9 G { a with ls := a.ls.map Ln.flush, n2 := a.n2 + 1 } W h (room_mono hfl2.room (by omega)) (hfl2.fit (by omega)))
      rw [hfe1] at KE
      have HI3 := Lib.hid hfe3
      have HO4 := Lib.hid hfe4
      have HFZ := Lib.hid (HM.out.fresh _ (Nat.le_refl _))
      have HBX := Lib.hid (heap_alloc_new wr (.cells #[.int .i64 0, .int .i64 1, .int .i64 2, .int .i64 3] 3))
      have hba : Below wr.heap.size wr (wr.alloc (.cells #[.int .i64 0, .int .i64 1, .int .i64 2, .int .i64 3] 3)) := (Below.refl _ _).alloc (Nat.le_refl _) _
      have KF := Lib.hid (KF.out _ hba (fun W9 own9 hf9 => by
        obtain ⟨h9, _⟩ := hf9.heap HBX.out HFZ.out
        exact .inr ⟨wr.heap.size, 0, rfl, fun j hj => by
          have hj4 : j < 4 := hj
          match j, hj4 with
          | 0, _ => exact Lib.cell_of_heap h9 0
          | 1, _ => exact Lib.cell_of_heap h9 1
          | 2, _ => exact Lib.cell_of_heap h9 2
          | 3, _ => exact Lib.cell_of_heap h9 3⟩))
      have HW := Lib.hid (HW.out.trans (hba.mono HW.out.size))
      clear hfl1 hfl2 hfall hfe1 hfe2 hfe3 hfe4 hba HBX HFZ
      have HLN := Lib.hid HI3.out.len
      generalize ({ a with ls := (a.ls.map Ln.flush).map Ln.fence, n2 := a.n2 + 1, n3 := a.n3 + 1 } : AM) = a2 at *
      generalize ({ a with ls := a.ls.map Ln.flush, n2 := a.n2 + 1 } : AM) = a1 at *
      clear HM HINV
      go_wp2_with fail
      refine (KF.out).mono ?_
      rintro e w11 ⟨rfl, own11, hm2, hfr⟩
      have HLOWn := Lib.hid (hfr.low HW.out.size HLOW.out)
      have HW := Lib.hid (HW.out.trans (hfr.below HW.out.size HLOW.out))
      have HM := Lib.hid hm2
      clear hm2 hfr
      have HLOW := HLOWn
      clear HLOWn
      have KE := Lib.hid (KE.out _ _ HM.out)
      go_wp2_with fail
      refine (KE.out).mono ?_
      rintro e w12 ⟨rfl, own12, hm2, hfr⟩
      have HLOWn := Lib.hid (hfr.low HW.out.size HLOW.out)
      have HW := Lib.hid (HW.out.trans (hfr.below HW.out.size HLOW.out))
      have HM := Lib.hid hm2
      clear hm2 hfr
      have HLOW := HLOWn
      clear HLOWn
      have KW := Lib.hid (mWords_any m own12 G a2 w12 HM.out (room_mono HI3.out.room (by omega)))
      rw [HLN.out] at KW
      have HUL := Lib.hid (show a2.words.length = 32 by unfold AM.words; rw [words_len, HLN.out])
      have HI0 := Lib.hid (show InvC a2 (List.replicate 32 false) l.length a2 from ⟨HI3.out, fun _ _ => rfl, fun i hi s hs => by rw [HO4.out i hi] at hs; cases hs⟩)
      go_wp2_with fail
      refine KW.out.mono ?_
      rintro e w13 ⟨⟨B, d, rfl, ho⟩, hb⟩
      have HUO := Lib.hid (show ∀ q, blk B = some q → own12 q = 0 ∧ q < w13.heap.size from fun q hq => ⟨HM.out.fresh q (ho.lt q hq).1, (ho.lt q hq).2⟩)
      have HU := Lib.hid ho.rd
      have HM := Lib.hid (HM.out.below hb)
      have HW := Lib.hid (HW.out.trans (hb.mono HW.out.size))
      clear ho hb KW
      have HLOC := Lib.hid (show Loc (w13.alloc (.cells #[.bool false, .bool false, .bool false, .bool false, .bool false, .bool false, .bool false, .bool false, .bool false, .bool false, .bool false, .bool false, .bool false, .bool false, .bool false, .bool false, .bool false, .bool false, .bool false, .bool false, .bool false, .bool false, .bool false, .bool false, .bool false, .bool false, .bool false, .bool false, .bool false, .bool false, .bool false, .bool false] 46)) own12 B a2.words w13.heap.size (List.replicate 32 false) from
        ⟨HU.out.below ((Below.refl _ _).alloc (Nat.le_refl _) _), fun k hk => ⟨(HUO.out k hk).1, by have := (HUO.out k hk).2; simp; omega⟩, by rw [heap_alloc_new]; rfl, HM.out.fresh _ (Nat.le_refl _), fun e => by have := (HUO.out _ e).2; omega⟩)
      have HQW := Lib.hid (show w.heap.size ≤ w13.heap.size from HW.out.size)
      have hba : Below w13.heap.size w13 (w13.alloc (.cells #[.bool false, .bool false, .bool false, .bool false, .bool false, .bool false, .bool false, .bool false, .bool false, .bool false, .bool false, .bool false, .bool false, .bool false, .bool false, .bool false, .bool false, .bool false, .bool false, .bool false, .bool false, .bool false, .bool false, .bool false, .bool false, .bool false, .bool false, .bool false, .bool false, .bool false, .bool false, .bool false] 46)) := (Below.refl _ _).alloc (Nat.le_refl _) _
      have HM := Lib.hid (HM.out.below hba)
      have HW := Lib.hid (HW.out.trans (hba.mono HW.out.size))
      clear hba HUO HU
      go_wp2
      skip
      generalize (w13.alloc (.cells #[.bool false, .bool false, .bool false, .bool false, .bool false, .bool false, .bool false, .bool false, .bool false, .bool false, .bool false, .bool false, .bool false, .bool false, .bool false, .bool false, .bool false, .bool false, .bool false, .bool false, .bool false, .bool false, .bool false, .bool false, .bool false, .bool false, .bool false, .bool false, .bool false, .bool false, .bool false, .bool false] 46)) = w14 at *
      generalize w13.heap.size = q at *
      go_loopw [12] (fun i wr => ∃ (k : Nat) (ov : List Bool), k ≤ mo.length ∧ i = .int .i64 k ∧ ov.length = 32 ∧ ∃ own' a', MemAt wr m own' G a' ∧ InvC a2 ov (l.length + k) a' ∧ Loc wr own' B a2.words q ov ∧ (∀ k, k < w.heap.size → own' k = 0) ∧ Below w.heap.size w wr) (fun i _ => mo.length - (intOf i).toNat)
      case atStart => exact ⟨0, List.replicate 32 false, Nat.zero_le _, rfl, rfl, own12, a2, HM.out, HI0.out, HLOC.out, HLOW.out, HW.out⟩
      case round =>
        clear HM HLOW HW HI0 HLOC
        obtain ⟨k, ov, hk, rfl, hovl, own, a, hm, hinv, hloc, hlow, hw⟩ := hrel
        have HM := Lib.hid hm
        have HINV := Lib.hid hinv
        have HLOC := Lib.hid hloc
        have HLOW := Lib.hid hlow
        have HW := Lib.hid hw
        have HOVL := Lib.hid hovl
        clear hm hinv hloc hlow hw hovl
        by_cases hlt : k < mo.length
        · obtain ⟨lb, lo, rfl, hlc⟩ := HMO.out.at_ hlt
          have HAC := Lib.hid (fun (W : World) (h : Below w.heap.size w W) => (hlc k hlt).below h)
          clear hlc
          generalize mo[k] = x at *
          obtain ⟨op, at_, v, Lx, nx, cx⟩ := x
          unfold AcAt at HAC
          simp only at HAC
          obtain ⟨_, k1, k2, _⟩ := HAC.out wr HW.out
          obtain ⟨hst1, hinv1⟩ := HINV.out.store HOVL.out at_ v
          have KS := Lib.hid (fun (W : World) (h : Below wr.heap.size wr W) => mStore_any m own G a (at_ % 32) v W (HM.out.below h) (room_mono HINV.out.b.room (by omega)) (HINV.out.b.fit (by omega)))
          rw [hst1] at KS
          have HINV1 := Lib.hid hinv1
          clear hst1 hinv1
          have e0 : IntKind.i64.wrap ((k : Int) + 1) = (k : Int) + 1 := IntWalk.i64_in _ (by omega)
          have z0 := Int.emod_nonneg at_ (b := 32) (by omega)
          have z1 := Int.emod_lt_of_pos at_ (b := 32) (by omega)
          go_wp2_with fail
          apply wp_region_last 121 (Eqs _ :: Eqs _ :: Eqs _ :: Eqs _ :: Eqs _ :: Eqs _ :: Eqs _ :: Eqs _ :: Eqs _ :: Eqs _ :: Eqs _ :: Eqs _ :: []) rfl (by kernel_rfl) (by rfl) (stab_cons (stab_eq _) (stab_cons (stab_eq _) (stab_cons (stab_eq _) (stab_cons (stab_eq _) (stab_cons (stab_eq _) (stab_cons (stab_eq _) (stab_cons (stab_eq _) (stab_cons (stab_eq _) (stab_cons (stab_eq _) (stab_cons (stab_eq _) (stab_cons (stab_eq _) (stab_cons (stab_eq _) stab_nil)))))))))))) (by kernel_rfl) (by kernel_rfl) (by kernel_rfl)
          case hstep =>
            simp only [List.dropLast_cons_cons, List.dropLast_singleton]
            refine StepsOK.cons ?_ ?_
            · -- 0: Go.Op.move (Go.Operand.tmp 7)
              intro a w1 hR1 hF hU hsz
              have e7 : a.eval (.tmp 7) = _ := hU 7 (by kernel_rfl)
              rw [if_pos (by rfl)]
              intro K hK
              clear hF hU hsz
              obtain ⟨q1, q2, q3⟩ := eval_rest a
              generalize hρ : a.eval = ρ
              rw [hρ] at q1 q2 q3 e7
              clear hρ
              have u1 := OpUp_value Try.prog K
              have u2 := OpUp_enter Try.prog K
              go_simp
              exact hK _ _ (Stood.refl _) rfl
            refine StepsOK.cons ?_ ?_
            · -- 1: Go.Op.move (Go.Operand.tmp 1)
              intro a w1 hR1 hF hU hsz
              have e1 : a.eval (.tmp 1) = _ := hU 1 (by kernel_rfl)
              rw [if_pos (by rfl)]
              intro K hK
              clear hF hU hsz
              obtain ⟨q1, q2, q3⟩ := eval_rest a
              generalize hρ : a.eval = ρ
              rw [hρ] at q1 q2 q3 e1
              clear hρ
              have u1 := OpUp_value Try.prog K
              have u2 := OpUp_enter Try.prog K
              go_simp
              exact hK _ _ (Stood.refl _) rfl
            refine StepsOK.cons ?_ ?_
            · -- 2: Go.Op.move (Go.Operand.tmp 12)
              intro a w1 hR1 hF hU hsz
              have e12 : a.eval (.tmp 12) = _ := hU 12 (by kernel_rfl)
              rw [if_pos (by rfl)]
              intro K hK
              clear hF hU hsz
              obtain ⟨q1, q2, q3⟩ := eval_rest a
              generalize hρ : a.eval = ρ
              rw [hρ] at q1 q2 q3 e12
              clear hρ
              have u1 := OpUp_value Try.prog K
              have u2 := OpUp_enter Try.prog K
              go_simp
              exact hK _ _ (Stood.refl _) rfl
            refine StepsOK.cons ?_ ?_
            · -- 3: Go.Op.indexAddr 38 (Go.Operand.tmp 68) (Go.Operand.tmp 69)
              intro a w1 hR1 hF hU hsz
              have e68 : a.eval (.tmp 68) = _ := hF 1 _ _ rfl rfl (by kernel_rfl)
              have e69 : a.eval (.tmp 69) = _ := hF 2 _ _ rfl rfl (by kernel_rfl)
              rw [if_pos (by rfl)]
              intro K hK
              clear hF hU hsz
              obtain ⟨q1, q2, q3⟩ := eval_rest a
              generalize hρ : a.eval = ρ
              rw [hρ] at q1 q2 q3 e68 e69
              clear hρ
              have u1 := OpUp_value Try.prog K
              have u2 := OpUp_enter Try.prog K
              go_simp
              exact hK _ _ (Stood.refl _) rfl
            refine StepsOK.cons ?_ ?_
            · -- 4: Go.Op.fieldAddr 41 (Go.Operand.tmp 70) 1
              intro a w1 hR1 hF hU hsz
              have e70 : a.eval (.tmp 70) = _ := hF 3 _ _ rfl rfl (by kernel_rfl)
              rw [if_pos (by rfl)]
              intro K hK
              clear hF hU hsz
              obtain ⟨q1, q2, q3⟩ := eval_rest a
              generalize hρ : a.eval = ρ
              rw [hρ] at q1 q2 q3 e70
              clear hρ
              have u1 := OpUp_value Try.prog K
              have u2 := OpUp_enter Try.prog K
              go_simp
              exact hK _ _ (Stood.refl _) rfl
            refine StepsOK.cons ?_ ?_
            · -- 5: Go.Op.load 3 (Go.Operand.tmp 71)
              intro a w1 hR1 hF hU hsz
              have e71 : a.eval (.tmp 71) = _ := hF 4 _ _ rfl rfl (by kernel_rfl)
              rw [if_pos (by rfl)]
              intro K hK
              clear hF hU hsz
              have hz1 := ((Stood.cur hR1).cell (cell_lt k1)).trans k1
              obtain ⟨q1, q2, q3⟩ := eval_rest a
              generalize hρ : a.eval = ρ
              rw [hρ] at q1 q2 q3 e71
              clear hρ
              have u1 := OpUp_value Try.prog K
              have u2 := OpUp_enter Try.prog K
              go_simp
              exact hK _ _ (Stood.refl _) rfl
            refine StepsOK.cons ?_ ?_
            · -- 6: Go.Op.binOp Go.BinOp.and 3 (Go.Operand.tmp 72) (Go.Operand.const (Go.Value.int G
              intro a w1 hR1 hF hU hsz
              have e72 : a.eval (.tmp 72) = _ := hF 5 _ _ rfl rfl (by kernel_rfl)
              rw [if_pos (by rfl)]
              intro K hK
              clear hF hU hsz
              obtain ⟨q1, q2, q3⟩ := eval_rest a
              generalize hρ : a.eval = ρ
              rw [hρ] at q1 q2 q3 e72
              clear hρ
              have u1 := OpUp_value Try.prog K
              have u2 := OpUp_enter Try.prog K
              go_simp
              exact hK _ _ (Stood.refl _) rfl
            refine StepsOK.cons ?_ ?_
            · -- 7: Go.Op.move (Go.Operand.tmp 1)
              intro a w1 hR1 hF hU hsz
              have e1 : a.eval (.tmp 1) = _ := hU 1 (by kernel_rfl)
              rw [if_pos (by rfl)]
              intro K hK
              clear hF hU hsz
              obtain ⟨q1, q2, q3⟩ := eval_rest a
              generalize hρ : a.eval = ρ
              rw [hρ] at q1 q2 q3 e1
              clear hρ
              have u1 := OpUp_value Try.prog K
              have u2 := OpUp_enter Try.prog K
              go_simp
              exact hK _ _ (Stood.refl _) rfl
            refine StepsOK.cons ?_ ?_
            · -- 8: Go.Op.move (Go.Operand.tmp 12)
              intro a w1 hR1 hF hU hsz
              have e12 : a.eval (.tmp 12) = _ := hU 12 (by kernel_rfl)
              rw [if_pos (by rfl)]
              intro K hK
              clear hF hU hsz
              obtain ⟨q1, q2, q3⟩ := eval_rest a
              generalize hρ : a.eval = ρ
              rw [hρ] at q1 q2 q3 e12
              clear hρ
              have u1 := OpUp_value Try.prog K
              have u2 := OpUp_enter Try.prog K
              go_simp
              exact hK _ _ (Stood.refl _) rfl
            refine StepsOK.cons ?_ ?_
            · -- 9: Go.Op.indexAddr 38 (Go.Operand.tmp 74) (Go.Operand.tmp 75)
              intro a w1 hR1 hF hU hsz
              have e74 : a.eval (.tmp 74) = _ := hF 7 _ _ rfl rfl (by kernel_rfl)
              have e75 : a.eval (.tmp 75) = _ := hF 8 _ _ rfl rfl (by kernel_rfl)
              rw [if_pos (by rfl)]
              intro K hK
              clear hF hU hsz
              obtain ⟨q1, q2, q3⟩ := eval_rest a
              generalize hρ : a.eval = ρ
              rw [hρ] at q1 q2 q3 e74 e75
              clear hρ
              have u1 := OpUp_value Try.prog K
              have u2 := OpUp_enter Try.prog K
              go_simp
              exact hK _ _ (Stood.refl _) rfl
            refine StepsOK.cons ?_ ?_
            · -- 10: Go.Op.fieldAddr 41 (Go.Operand.tmp 76) 2
              intro a w1 hR1 hF hU hsz
              have e76 : a.eval (.tmp 76) = _ := hF 9 _ _ rfl rfl (by kernel_rfl)
              rw [if_pos (by rfl)]
              intro K hK
              clear hF hU hsz
              obtain ⟨q1, q2, q3⟩ := eval_rest a
              generalize hρ : a.eval = ρ
              rw [hρ] at q1 q2 q3 e76
              clear hρ
              have u1 := OpUp_value Try.prog K
              have u2 := OpUp_enter Try.prog K
              go_simp
              exact hK _ _ (Stood.refl _) rfl
            refine StepsOK.cons ?_ ?_
            · -- 11: Go.Op.load 22 (Go.Operand.tmp 77)
              intro a w1 hR1 hF hU hsz
              have e77 : a.eval (.tmp 77) = _ := hF 10 _ _ rfl rfl (by kernel_rfl)
              rw [if_pos (by rfl)]
              intro K hK
              clear hF hU hsz
              have hz1 := ((Stood.cur hR1).cell (cell_lt k2)).trans k2
              obtain ⟨q1, q2, q3⟩ := eval_rest a
              generalize hρ : a.eval = ρ
              rw [hρ] at q1 q2 q3 e77
              clear hρ
              have u1 := OpUp_value Try.prog K
              have u2 := OpUp_enter Try.prog K
              go_simp
              exact hK _ _ (Stood.refl _) rfl
            exact StepsOK.nil
          case hend =>
            intro vs0 w1 hR1 hH0
            obtain ⟨vs1, rfl, hH1⟩ := hH0.eq_
            obtain ⟨vs2, rfl, hH2⟩ := hH1.eq_
            obtain ⟨vs3, rfl, hH3⟩ := hH2.eq_
            obtain ⟨vs4, rfl, hH4⟩ := hH3.eq_
            obtain ⟨vs5, rfl, hH5⟩ := hH4.eq_
            obtain ⟨vs6, rfl, hH6⟩ := hH5.eq_
            obtain ⟨vs7, rfl, hH7⟩ := hH6.eq_
            obtain ⟨vs8, rfl, hH8⟩ := hH7.eq_
            obtain ⟨vs9, rfl, hH9⟩ := hH8.eq_
            obtain ⟨vs10, rfl, hH10⟩ := hH9.eq_
            obtain ⟨vs11, rfl, hH11⟩ := hH10.eq_
            obtain ⟨vs12, rfl, hH12⟩ := hH11.eq_
            obtain rfl := hH12.nil
            clear hH0 hH1 hH2 hH3 hH4 hH5 hH6 hH7 hH8 hH9 hH10 hH11 hH12
            simp only [List.dropLast_cons_cons, List.dropLast_singleton, putAll, Act.put, List.setIfInBounds_toArray, List.set_cons_zero, List.set_cons_succ]

            have hb := (Stood.cur hR1)
            have KS := Lib.hid (KS.out w1 hb)
            have HLOC := Lib.hid (HLOC.out.below hb)
            have HW := Lib.hid (HW.out.trans (hb.mono HW.out.size))
            clear hb hR1 k1 k2
            go_wp2_with fail
            refine KS.out.mono ?_
            rintro e w2 ⟨rfl, own1, hm2, hfr⟩
            have HLOWn := Lib.hid (hfr.low HW.out.size HLOW.out)
            have HW := Lib.hid (HW.out.trans (hfr.below HW.out.size HLOW.out))
            have HLOC := Lib.hid (HLOC.out.mfr hfr)
            have HM := Lib.hid hm2
            clear hm2 hfr KS
            obtain ⟨_, k1, _⟩ := HAC.out w2 HW.out
            obtain ⟨p, hp⟩ : ∃ p : Nat, at_ % 32 = (p : Int) := ⟨(at_ % 32).toNat, by omega⟩
            have hp32 : (p : Int) < 32 := by omega
            have HPN := Lib.hid (show (at_ % 32).toNat = p by omega)
            have o9 := HLOC.out.at_ p (by rw [HOVL.out]; omega)
            have i9 := HLOC.out.fz p
            have HLS := Lib.hid (HLOC.out.set p)
            have HMS := Lib.hid (HM.out.setBox (q := q) (i := p) (v := .bool true) HLOC.out.oz)
            have HWS := Lib.hid (HW.out.setCell (p := ⟨q, p, none⟩) HQW.out (.bool true))
            rw [HPN.out] at HINV1
            go_wp2
            go_roundw
            case rel => exact ⟨k + 1, ov.set p true, by omega, by go_num, by rw [List.length_set]; exact HOVL.out, own1, _, HMS.out, HINV1.out, HLS.out, HLOWn.out, HWS.out⟩
            case measure => simp [intOf]; omega
        · obtain rfl : k = mo.length := by omega
          clear hlt hk
          have KC := Lib.hid (mCrash_any m own G a ks K kc wr HM.out (room_mono HINV.out.b.room (by omega)) (fun W own9 hf9 => HK.out.below (HW.out.trans (hf9.below HW.out.size HLOW.out))) hkc HKM.out)
          go_wp2_with fail
          refine KC.out.mono ?_
          rintro e w21 ⟨rfl, own21, hm2, hfr⟩
          have HLOC := Lib.hid (HLOC.out.mfr hfr)
          have HLOWn := Lib.hid (hfr.low HW.out.size HLOW.out)
          have HW := Lib.hid (HW.out.trans (hfr.below HW.out.size HLOW.out))
          have HM := Lib.hid hm2
          have HLOW := HLOWn
          clear hm2 hfr HLOWn KC
          go_wp2_with fail
          refine (mOn_any HM.out).mono ?_
          rintro e w22 ⟨rfl, own22, hm2, hfr⟩
          have HLOC := Lib.hid (HLOC.out.mfr hfr)
          have HLOWn := Lib.hid (hfr.low HW.out.size HLOW.out)
          have HW := Lib.hid (HW.out.trans (hfr.below HW.out.size HLOW.out))
          have HM := Lib.hid hm2
          have HLOW := HLOWn
          clear hm2 hfr HLOWn
          have hcl : (a.crash ks).on.ls.length = 4 := (crash_len a ks).trans HINV.out.b.len
          have KW := Lib.hid (mWords_any m own22 G (a.crash ks).on w22 HM.out (crash_room (room_mono HINV.out.b.room (by omega)) ks))
          rw [hcl] at KW
          have HVL := Lib.hid (show (a.crash ks).on.words.length = 32 by unfold AM.words; rw [words_len, hcl])
          have HFAL := Lib.hid (fun p hp ho => HINV.out.fallen (.inr ⟨_, HI3.out⟩) HO4.out ks p hp ho)
          generalize (a.crash ks).on.words = vs at *
          generalize a2.words = us at *
          clear hcl
          go_wp2_with fail
          refine KW.out.mono ?_
          rintro e w23 ⟨⟨C, c9, rfl, ho⟩, hb⟩
          have HV := Lib.hid ho.rd
          have HLOC := Lib.hid (HLOC.out.below hb)
          have HW := Lib.hid (HW.out.trans (hb.mono HW.out.size))
          clear ho hb KW
          go_wp2
          go_loopw [14] (fun i wr => ∃ k : Nat, k ≤ 32 ∧ i = .int .i64 k ∧ Drawn w23 wr) (fun i _ => 32 - (intOf i).toNat)
          case atStart => exact ⟨0, by omega, rfl, Drawn.refl _⟩
          case round =>
            obtain ⟨p, hp, rfl, hd⟩ := hrel
            have HD := Lib.hid hd
            clear hd
            by_cases hp32 : p < 32
            · have hp32' : (p : Int) < 32 := by omega
              have hpu : p < us.length := by rw [HUL.out]; exact hp32
              have hpv : p < vs.length := by rw [HVL.out]; exact hp32
              have HLOCw := Lib.hid (HLOC.out.below (HD.out.below _))
              obtain ⟨ub, uo, rfl, huc⟩ := HLOCw.out.rd.at_ hpu
              obtain ⟨vb, vo, rfl, hvc⟩ := (HV.out.drawn HD.out).at_ hpv
              have hu1 := huc p hpu
              have hv1 := hvc p hpv
              have ho1 := HLOCw.out.at_ p (by rw [HOVL.out]; exact hp32)
              have hfa := HFAL.out p hp32
              have gv : vs.getD p 0#64 = vs[p] := by rw [List.getD_eq_getElem?_getD, List.getElem?_eq_getElem hpv]; rfl
              have gu : us.getD p 0#64 = us[p] := by rw [List.getD_eq_getElem?_getD, List.getElem?_eq_getElem hpu]; rfl
              rw [gv, gu] at hfa
              have HFA := Lib.hid (show ov.getD p false = false → vs[p] = us[p] from hfa)
              clear gv gu
              have e9 : IntKind.i64.wrap ((p : Int) + 1) = (p : Int) + 1 := IntWalk.i64_in _ (by omega)
              clear huc hvc hfa
              generalize us[p] = u at *
              generalize vs[p] = v at *
              clear hpu hpv
              generalize ov.getD p false = ob at *
              cases ob with
              | true =>
                clear hu1 hv1
                go_wp2
                go_quiet (fail)
                go_wp2
                go_roundw
                case rel => exact ⟨p + 1, by omega, by go_num, HD.out.trans (Drawn.some_ _ _)⟩
                case measure => simp [intOf]; omega
              | false =>
                obtain rfl := HFA.out rfl
                have hvv : (v != v) = false := by simp
                go_wp2
                go_quiet (fail)
                go_wp2
                go_roundw
                case rel => exact ⟨p + 1, by omega, by go_num, HD.out.trans (Drawn.some_ _ _)⟩
                case measure => simp [intOf]; omega
            · obtain rfl : p = 32 := by omega
              have HW := Lib.hid (HW.out.trans ((HD.out.below _).mono HW.out.size))
              go_wp2
              go_ret
              exact ⟨rfl, HW.out⟩
end Go.Proofs.Ytoifejinppjeeaa
