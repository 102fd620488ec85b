/- Keep, Done of a client that is not there. No condition. -/
import Derived.Test.YtoifejinppjeeaaBks
import Derived.Test.YtoifejinppjeeaaShelfSort
import Derived.Shelf.SortM.Plain
import Derived.Shelf.SortM.SortNone
import Derived.Sort.OwnSortedInts
import Derived.Test.YtoifejinppjeeaaWrites15
namespace Go.Proofs.Ytoifejinppjeeaa
open Go.RowKit
set_option linter.unusedVariables false
set_option linter.unusedSimpArgs false
theorem bksKeep_no {w : World} {x b off c m n : Nat} {last : BitVec 64} (h : BksAt w x b off c m n last) (z : Int) (hz : ¬ (0 ≤ z ∧ z < (n : Int))) (L : Option Addr) (k lc : Nat) :
    Calls Try.prog 63 #[.pointer (some ⟨x, 0, none⟩), .int .i64 z, .slice L k lc] w fun e w' => e = .returned (.tuple #[.int .u64 0, .int .i64 1]) ∧ w = w' := by
  have KH := Lib.hid (bksHas_any h z)
  rw [decide_eq_false hz] at KH
  clear h hz
  go_enter Try.func63, Try.ntmps63
  go_wp2_with fail
  refine KH.out.mono ?_
  rintro e w1 ⟨rfl, rfl⟩
  go_wp2
  go_ret2
  exact ⟨rfl, rfl⟩
theorem bksDone_no {w : World} {x b off c m n : Nat} {last : BitVec 64} (h : BksAt w x b off c m n last) (z : Int) (hz : ¬ (0 ≤ z ∧ z < (n : Int))) :
    Calls Try.prog 66 #[.pointer (some ⟨x, 0, none⟩), .int .i64 z] w fun e w' => e = .returned (.int .i64 1) ∧ w = w' := by
  have KH := Lib.hid (bksHas_any h z)
  rw [decide_eq_false hz] at KH
  clear h hz
  go_enter Try.func66, Try.ntmps66
  go_wp2_with fail
  refine KH.out.mono ?_
  rintro e w1 ⟨rfl, rfl⟩
  go_wp2
  go_ret
  exact ⟨rfl, rfl⟩
end Go.Proofs.Ytoifejinppjeeaa
namespace Go.Proofs.Ytoifejinppjeeaa
open Go.RowKit
open Go.Shelf Go.Lib Go.Sort
set_option linter.unusedVariables false
set_option linter.unusedSimpArgs false
def heldL (st : List (Option Rcd)) (n : Nat) : List Int := (standF st n).map fun x => (x.2.2 : Int)
theorem standF_cl (st : List (Option Rcd)) : ∀ n, (standF st n).Pairwise (fun x y => x.2.2 < y.2.2) ∧ ∀ x ∈ standF st n, x.2.2 < n
  | 0 => ⟨List.Pairwise.nil, fun x h => by cases h⟩
  | n + 1 => by
    obtain ⟨h1, h2⟩ := standF_cl st n
    cases hs : st.getD n none with
    | none => rw [standF_none hs]; exact ⟨h1, fun x hx => Nat.lt_succ_of_lt (h2 x hx)⟩
    | some r =>
      rw [standF_some hs]
      refine ⟨?_, fun x hx => ?_⟩
      · rw [List.pairwise_append]
        refine ⟨h1, List.pairwise_singleton _ _, fun x hx y hy => ?_⟩
        rw [List.mem_singleton.1 hy]
        exact h2 x hx
      · rcases List.mem_append.1 hx with hx | hx
        · exact Nat.lt_succ_of_lt (h2 x hx)
        · rw [List.mem_singleton.1 hx]; exact Nat.lt_succ_self _
theorem held_sorted (st : List (Option Rcd)) (n : Nat) (D : List Sd) (hp : (D.map tellS).Perm (standF st n)) : (D.map fun s => (s.cl : Int)).mergeSort (fun x y => decide (x ≤ y)) = heldL st n := by
  have e : (D.map fun s => (s.cl : Int)) = (D.map tellS).map fun x => (x.2.2 : Int) := by rw [List.map_map]; rfl
  have hnn : ∀ x ∈ (D.map fun s => (s.cl : Int)), 0 ≤ x := by
    intro x hx
    obtain ⟨s, _, rfl⟩ := List.mem_map.1 hx
    omega
  have hperm : ((D.map fun s => (s.cl : Int)).mergeSort (fun x y => decide (x ≤ y))).Perm (D.map fun s => (s.cl : Int)) := List.mergeSort_perm _ _
  refine sorted_perm_eq Int.toNat (heldL st n) _ ?_ ?_ ?_
  · refine hperm.trans ?_
    rw [e]
    exact hp.map _
  · have hs := List.pairwise_mergeSort (le := fun x y : Int => decide (x ≤ y)) (fun a b c h1 h2 => decide_eq_true (Int.le_trans (of_decide_eq_true h1) (of_decide_eq_true h2))) (fun a b => by
      rcases Int.le_total a b with h | h
      · simp [h]
      · simp [h]) (D.map fun s => (s.cl : Int))
    refine hs.imp_of_mem fun {a b} ha hb h => ?_
    have h := of_decide_eq_true h
    have h1 := hnn a (hperm.subset ha)
    have h2 := hnn b (hperm.subset hb)
    omega
  · unfold heldL
    rw [List.pairwise_map]
    refine (standF_cl st n).1.imp fun {a b} h => ?_
    omega
theorem sortI_any (A : Option Addr) (cap : Nat) (zs : List Int) (base : Nat) (w : World) (ho : OwnF I6 3 w base A zs cap) (hn : zs.length ≤ 1000) :
    Calls Try.prog 99 #[.slice A zs.length cap] w fun e w' => e = .returned (.tuple #[]) ∧ OwnF I6 3 w' base A (zs.mergeSort fun x y => decide (x ≤ y)) cap ∧ w.grownBy w' (blk A) := by
  rcases ho.2 with ⟨hv, h0⟩ | ⟨g, c, cur, hv, hg, hh, hnc, hcm, hcs, ht⟩
  · injection hv with h1 h2 h3
    subst h1 h3
    have hz : zs = [] := List.eq_nil_of_length_eq_zero h0
    subst hz
    have hc := AnyM.slices_Sort_int_none Try.sortInt none 0 w
    refine Calls.mono (show Calls Try.prog 99 _ _ _ from hc) ?_
    rintro e w' ⟨rfl, rfl⟩
    exact ⟨rfl, by simpa using ho, ⟨rfl, rfl, rfl, Nat.le_refl _, fun _ _ _ => rfl⟩⟩
  · injection hv with h1 _ h3
    subst h1 h3
    rw [Nat.mul_one] at ht
    have hH := holds_of_blockI (ss := zs) hh ht
    have hc := AnyM.slices_Sort_int Try.sortInt g 0 cap zs w hH (Array.getElem?_eq_some_iff.1 hh).1 (by omega)
    refine Calls.mono (show Calls Try.prog 99 _ _ _ from hc) ?_
    rintro e w' ⟨rfl, n, os, rfl⟩
    refine ⟨rfl, ?_, grownBy_sortedI _⟩
    have h := ownsRow_sortedI (w := w) (base := base) (g := g) (cap := cap) (n := n) (e := 3) (os := os) (cur := cur) (ss := zs) (ts := zs.mergeSort fun x y => decide (x ≤ y)) (List.length_mergeSort _) hg hh hnc hcm hcs
    unfold OwnF
    rw [List.length_mergeSort]
    exact h
/-- What Held answers. -/
def HeldPost (w : World) (n : Nat) (st : List (Option Rcd)) (e : Ending) (w' : World) : Prop :=
  ∃ (A : Option Addr) (cap : Nat), e = .returned (.slice A (heldL st n).length cap) ∧ RdF I6 w' A (heldL st n) ∧ Below w.heap.size w w'
set_option maxRecDepth 100000 in
set_option maxHeartbeats 4000000 in
theorem bksHeld_any (x b off c m n : Nat) (last : BitVec 64) (own : Nat → Nat) (G : MG) (a : AM) (st : List (Option Rcd)) (w : World) (hb : BksAt w x b off c m n last) (hm : MemAt w m own G a) (hs : BkSt n a st) (hn0 : 0 < n) (hn : n ≤ 8) :
    Calls Try.prog 65 #[.pointer (some ⟨x, 0, none⟩)] w fun e w' => HeldPost w n st e w' := by
  have KS := Lib.hid (bksStands_any x b off c m n last own G a st w hb hm hs hn0 hn)
  clear hb hm hs
  go_enter Try.func65, Try.ntmps65
  go_wp2_with fail
  refine KS.out.mono ?_
  rintro e w1 ⟨D, A, cap, rfl, hp, hso, hrd, hrw, hb⟩
  have hl : D.length ≤ n := by
    have := hp.length_eq
    rw [List.length_map] at this
    have := standF_len st n
    omega
  have HS := Lib.hid (held_sorted st n D hp)
  have HRD := Lib.hid hrd
  have HB1 := Lib.hid hb
  have HL := Lib.hid hl
  clear hp hso hrd hrw hb KS hl hn0
  go_wp2
  go_loopw [3, 9] (fun v i wr => ∃ (k : Nat) (rs : List Int) (B : Option Addr) (d : Nat), k ≤ D.length ∧ i = .int .i64 k ∧ v = .slice B rs.length d ∧ Go.RowKit.Hid (rs = (D.take k).map fun s => (s.cl : Int)) ∧ OwnF I6 3 wr w1.heap.size B rs d ∧ Below w1.heap.size w1 wr) (fun _ i _ => D.length - (intOf i).toNat)
  case atStart => exact ⟨0, [], none, 0, Nat.zero_le _, rfl, rfl, Lib.hid rfl, OwnF.nil_ _ _, Below.refl _ _⟩
  case round =>
    obtain ⟨k, rs, B, d, hk, rfl, rfl, hrs, hown, hbw⟩ := hrel
    have HO := Lib.hid hown
    have HB := Lib.hid hbw
    have HRS := Lib.hid hrs.out
    have HRL := Lib.hid (show rs.length ≤ 8 by have h := HL.out; rw [HRS.out, List.length_map, List.length_take]; omega)
    clear hown hbw hrs
    by_cases hlt : k < D.length
    · obtain ⟨g, rfl, hg, k0, k1, k2⟩ := HRD.out.at_ hlt
      have k0 := (HB.out.cell (p := ⟨g, _, none⟩) hg).trans k0
      have k1 := (HB.out.cell (p := ⟨g, _, none⟩) hg).trans k1
      have k2 := (HB.out.cell (p := ⟨g, _, none⟩) hg).trans k2
      have e1 : IntKind.i64.wrap ((k : Int) + 1) = (k : Int) + 1 := IntWalk.i64_in _ (by have := HL.out; omega)
      have HT := Lib.hid (show (D.take (k + 1)).map (fun s => (s.cl : Int)) = rs ++ [(D[k].cl : Int)] by rw [List.take_succ_eq_append_getElem hlt, List.map_append, HRS.out]; rfl)
      generalize D[k] = s at *
      obtain ⟨nv, B9, d9, wv, cl⟩ := s
      simp only at k0 k1 k2 HT
      have hal : Below wr.heap.size wr (wr.alloc (.cells #[U nv, .slice B9 wv.length d9, .int .i64 cl] 138)) := (Below.refl _ _).alloc (Nat.le_refl _) _
      have hal2 : Below (wr.alloc (.cells #[U nv, .slice B9 wv.length d9, .int .i64 cl] 138)).heap.size (wr.alloc (.cells #[U nv, .slice B9 wv.length d9, .int .i64 cl] 138)) ((wr.alloc (.cells #[U nv, .slice B9 wv.length d9, .int .i64 cl] 138)).alloc (.cells #[.int .i64 cl] 3)) := (Below.refl _ _).alloc (Nat.le_refl _) _
      have HO2 := Lib.hid ((HO.out.below hal).below hal2)
      have hb2 := HB.out.trans (hal.mono HB.out.size)
      have HB3 := Lib.hid (hb2.trans (hal2.mono hb2.size))
      have HRN := Lib.hid (show RdF I6 ((wr.alloc (.cells #[U nv, .slice B9 wv.length d9, .int .i64 cl] 138)).alloc (.cells #[.int .i64 cl] 3)) (some ⟨(wr.alloc (.cells #[U nv, .slice B9 wv.length d9, .int .i64 cl] 138)).heap.size, 0, none⟩) [(cl : Int)] from RdF.new1 _ _ _)
      rw [World.size_alloc] at HRN
      clear hal hal2 hb2 HO HB
      go_wp2_with (first | go_skip | (at_builtin; refine stop_ ?_))
      refine appF (f := I6) (fun _ => rfl) 39 3 (.int .i64 0) 8 rfl (by decide) (by decide) Try.underlying39 infoInt (.tmp 13) (.tmp 16) rfl rfl w1.heap.size B rs _ d rfl rfl HO2.out _ [(cl : Int)] 1 1 rfl rfl HRN.out (by have := HRL.out; simp; omega) HB3.out.size ?_
      intro B2 zs c2 w5 hz hown hg2 hloc
      have HZ := Lib.hid (show zs = (D.take (k + 1)).map (fun s => (s.cl : Int)) by rw [HT.out, hz])
      have HO5 := Lib.hid hown
      have HB5 := Lib.hid (HB3.out.grown hg2 HB3.out.size fun q hq => (own_lt HO2.out q hq).1)
      clear hz hown hg2 hloc HO2 HB3 HRN
      unfold Stop
      go_wp2
      go_roundw
      case rel => exact ⟨k + 1, zs, B2, c2, by omega, by go_num, rfl, Lib.hid HZ.out, HO5.out, HB5.out⟩
      case measure => simp [intOf]; omega
    · obtain rfl : k = D.length := by omega
      rw [List.take_length] at HRS
      have KS := Lib.hid (sortI_any B d rs w1.heap.size wr HO.out (by have := HRL.out; omega))
      rw [HRS.out, HS.out, ← HRS.out] at KS
      have HLN := Lib.hid (show rs.length = (heldL st n).length by rw [← HS.out, ← HRS.out, List.length_mergeSort])
      have HGR := Lib.hid (fun q hq => (own_lt HO.out q hq).1)
      clear HO HRS HRD HS
      go_wp2_with fail
      refine KS.out.mono ?_
      rintro e w5 ⟨rfl, hown, hg⟩
      have HF := Lib.hid (show HeldPost w n st (.returned (.slice B rs.length d)) w5 from ⟨B, d, by rw [HLN.out], OwnF.rd hown, HB1.out.trans ((HB.out.grown hg HB.out.size HGR.out).mono HB1.out.size)⟩)
      clear hown hg KS HB
      go_wp2
      go_ret
      exact HF.out
end Go.Proofs.Ytoifejinppjeeaa
namespace Go.Proofs.Ytoifejinppjeeaa
open Go.RowKit
set_option linter.unusedVariables false
set_option linter.unusedSimpArgs false
def gst (st : List (Option Rcd)) (i : Nat) : Option Rcd := st.getD i none
theorem mem_standF (st : List (Option Rcd)) (n : Nat) (x : Tl) : x ∈ standF st n ↔ x.2.2 < n ∧ st.getD x.2.2 none = some (x.1, x.2.1) := by
  unfold standF
  rw [List.mem_filterMap]
  constructor
  · rintro ⟨i, hi, h⟩
    rw [List.mem_range] at hi
    cases hs : st.getD i none with
    | none => rw [hs] at h; cases h
    | some r =>
      rw [hs] at h
      simp only [Option.map_some] at h
      injection h with h
      subst h
      exact ⟨hi, hs⟩
  · rintro ⟨h1, h2⟩
    refine ⟨x.2.2, List.mem_range.2 h1, ?_⟩
    rw [h2]; rfl
theorem standF_pre (st : List (Option Rcd)) (k : Nat) : ∀ n, k ≤ n → ∃ r, standF st n = standF st k ++ r
  | 0, h => by
    obtain rfl : k = 0 := by omega
    exact ⟨[], by simp⟩
  | n + 1, h => by
    by_cases hk : k = n + 1
    · subst hk; exact ⟨[], by simp⟩
    · obtain ⟨r, hr⟩ := standF_pre st k n (by omega)
      cases hs : st.getD n none with
      | none => exact ⟨r, by rw [standF_none hs, hr]⟩
      | some q => exact ⟨r ++ [(q.1, q.2, n)], by rw [standF_some hs, hr, List.append_assoc]⟩
theorem held_at {st : List (Option Rcd)} {n k : Nat} {r : Rcd} (hk : k < n) (hs : st.getD k none = some r) : (heldL st n)[(standF st k).length]? = some (k : Int) := by
  obtain ⟨q, hq⟩ := standF_pre st (k + 1) n (by omega)
  unfold heldL
  rw [hq, standF_some hs, List.map_append, List.map_append, List.append_assoc, List.getElem?_append_right (by simp)]
  simp
theorem held_len (st : List (Option Rcd)) (n : Nat) : (heldL st n).length = (standF st n).length := by unfold heldL; rw [List.length_map]
theorem standF_cnt (st : List (Option Rcd)) (k : Nat) : (standF st (k + 1)).length = (standF st k).length + (if (st.getD k none).isSome then 1 else 0) := by
  cases hs : st.getD k none with
  | none => rw [standF_none hs]; rfl
  | some r => rw [standF_some hs, List.length_append]; rfl
structure PlI (n k : Nat) (st : List (Option Rcd)) (L : Nat) (hv : List Rc) : Prop where
  slen : st.length = n
  hlen : hv.length = n
  few : L ≤ k
  nil : ∀ i, (h : i < n) → st.getD i none = none → (hv[i]'(by omega)).1 = 0#64
  som : ∀ i r, (h : i < n) → st.getD i none = some r → (hv[i]'(by omega)).1 = r.1 ∧ (hv[i]'(by omega)).2.2.1 = r.2
  num : ∀ i r, i < n → st.getD i none = some r → 1 ≤ r.1.toNat ∧ r.1.toNat ≤ L
  dis : ∀ i j r s, i < n → j < n → st.getD i none = some r → st.getD j none = some s → r.1 = s.1 → i = j
section
variable {n k : Nat} {st : List (Option Rcd)} {L : Nat} {hv : List Rc}
theorem PlI.mono (h : PlI n k st L hv) : PlI n (k + 1) st L hv := { h with few := Nat.le_succ_of_le h.few }
theorem plI_new (n : Nat) : PlI n 0 (List.replicate n none) 0 (List.replicate n (0#64, none, [], 0)) := by
  have e : ∀ i, (List.replicate n (none : Option Rcd)).getD i none = none := fun i => by
    rw [List.getD_eq_getElem?_getD, List.getElem?_replicate]
    split <;> rfl
  refine ⟨List.length_replicate, List.length_replicate, Nat.le_refl _, fun i h _ => by simp, fun i r h hs => ?_, fun i r h hs => ?_, fun i j r s h _ hs => ?_⟩
  all_goals rw [e] at hs; cases hs
theorem PlI.keep (h : PlI n k st L hv) (hk : k < 40) {c : Nat} (hc : c < n) (hn : st.getD c none = none) (ws : List (Int × BitVec 64)) (B : Option Addr) (d : Nat) :
    PlI n (k + 1) (st.set c (some (BitVec.ofNat 64 (L + 1), ws))) (L + 1) (hv.set c (BitVec.ofNat 64 (L + 1), B, ws, d)) := by
  have hL := h.few
  have hnum : (BitVec.ofNat 64 (L + 1)).toNat = L + 1 := by simp only [BitVec.toNat_ofNat]; omega
  have hcs : c < st.length := by rw [h.slen]; exact hc
  have key : ∀ i r, i < n → (st.set c (some (BitVec.ofNat 64 (L + 1), ws))).getD i none = some r → (i = c ∧ r = (BitVec.ofNat 64 (L + 1), ws)) ∨ (i ≠ c ∧ st.getD i none = some r) := by
    intro i r hi hs
    by_cases e : i = c
    · subst e
      rw [getD_set_self hcs] at hs
      injection hs with hs
      exact .inl ⟨rfl, hs.symm⟩
    · rw [getD_set_other (fun e2 => e e2.symm)] at hs
      exact .inr ⟨e, hs⟩
  refine ⟨by rw [List.length_set]; exact h.slen, by rw [List.length_set]; exact h.hlen, by omega, fun i hi hs => ?_, fun i r hi hs => ?_, fun i r hi hs => ?_, fun i j r s hi hj hs ht e => ?_⟩
  · by_cases e : c = i
    · subst e
      rw [getD_set_self hcs] at hs; cases hs
    · rw [getD_set_other e] at hs
      rw [List.getElem_set_ne e]
      exact h.nil i hi hs
  · rcases key i r hi hs with ⟨rfl, rfl⟩ | ⟨e, hs⟩
    · rw [List.getElem_set_self]; exact ⟨rfl, rfl⟩
    · rw [List.getElem_set_ne (fun e2 => e e2.symm)]
      exact h.som i r hi hs
  · rcases key i r hi hs with ⟨rfl, rfl⟩ | ⟨e, hs⟩
    · simp only [hnum]; omega
    · have := h.num i r hi hs; omega
  · rcases key i r hi hs with ⟨q1, q2⟩ | ⟨e1, hs2⟩
    · rcases key j s hj ht with ⟨q3, q4⟩ | ⟨e2, ht2⟩
      · rw [q1, q3]
      · have h9 := h.num j s hj ht2
        have e := congrArg BitVec.toNat e
        rw [q2] at e
        simp only [hnum] at e
        omega
    · rcases key j s hj ht with ⟨q3, q4⟩ | ⟨e2, ht2⟩
      · have h9 := h.num i r hi hs2
        have e := congrArg BitVec.toNat e
        rw [q4] at e
        simp only [hnum] at e
        omega
      · exact h.dis i j r s hi hj hs2 ht2 e
theorem PlI.done (h : PlI n k st L hv) {c : Nat} (hc : c < n) : PlI n (k + 1) (st.set c none) L (hv.set c (0#64, none, [], 0)) := by
  have hcs : c < st.length := by rw [h.slen]; exact hc
  have key : ∀ i r, i < n → (st.set c none).getD i none = some r → i ≠ c ∧ st.getD i none = some r := by
    intro i r hi hs
    by_cases e : i = c
    · subst e
      rw [getD_set_self hcs] at hs; cases hs
    · rw [getD_set_other (fun e2 => e e2.symm)] at hs
      exact ⟨e, hs⟩
  refine ⟨by rw [List.length_set]; exact h.slen, by rw [List.length_set]; exact h.hlen, Nat.le_succ_of_le h.few, fun i hi hs => ?_, fun i r hi hs => ?_, fun i r hi hs => h.num i r hi (key i r hi hs).2, fun i j r s hi hj hs ht e => h.dis i j r s hi hj (key i r hi hs).2 (key j s hj ht).2 e⟩
  · by_cases e : c = i
    · subst e; rw [List.getElem_set_self]
    · rw [getD_set_other e] at hs
      rw [List.getElem_set_ne e]
      exact h.nil i hi hs
  · obtain ⟨e, hs⟩ := key i r hi hs
    rw [List.getElem_set_ne (fun e2 => e e2.symm)]
    exact h.som i r hi hs
theorem maxW_le {a b : BitVec 64} {L : Nat} (ha : a.toNat ≤ L) (hb : b.toNat ≤ L) : (maxW a b).toNat ≤ L := by unfold maxW; split <;> assumption
theorem PlI.last_le (h : PlI n k st L hv) : ∀ j, j ≤ n → (lastTo st j).toNat ≤ L
  | 0, _ => by unfold lastTo; simp
  | j + 1, hj => by
    rw [lastTo_succ st j (by rw [h.slen]; omega)]
    refine maxW_le (h.last_le j (by omega)) ?_
    cases hs : st.getD j none with
    | none => exact Nat.zero_le _
    | some r => exact (h.num j r (by omega) hs).2
theorem last_ge : ∀ j i r, i < j → j ≤ st.length → st.getD i none = some r → r.1.toNat ≤ (lastTo st j).toNat
  | 0, i, r, hi, _, _ => by omega
  | j + 1, i, r, hi, hj, hs => by
    rw [lastTo_succ st j (by omega)]
    by_cases e : i = j
    · subst e
      rw [hs]
      show r.1.toNat ≤ (maxW _ r.1).toNat
      unfold maxW; split <;> omega
    · have ih := last_ge j i r (by omega) (by omega) hs
      unfold maxW
      split <;> omega
theorem PlI.fell (h : PlI n k st L hv) : PlI n (k + 1) st (lastTo st n).toNat hv :=
  { h with few := by have := h.last_le n (Nat.le_refl _); have := h.few; omega, num := fun i r hi hs => ⟨(h.num i r hi hs).1, last_ge n i r hi (Nat.le_of_eq h.slen.symm) hs⟩ }
theorem PlI.numOf_eq (h : PlI n k st L hv) {i : Nat} (hi : i < n) : (hv[i]'(by have := h.hlen; omega)).1 = numOf (st.getD i none) := by
  cases hs : st.getD i none with
  | none => exact h.nil i hi hs
  | some r => exact (h.som i r hi hs).1
/-- What All tells: whose each record is; their numbers rise. -/
theorem PlI.all (h : PlI n k st L hv) {D : List Sd} (hp : (D.map tellS).Perm (standF st n)) (hs : ∀ i j, (hi : i < D.length) → (hj : j < D.length) → i < j → ¬ D[j].num.toNat < D[i].num.toNat) :
    D.length = (standF st n).length ∧ (∀ i, (hi : i < D.length) → D[i].cl < n ∧ st.getD D[i].cl none = some (D[i].num, D[i].ws)) ∧ (∀ i j, (hi : i < D.length) → (hj : j < D.length) → i < j → D[i].num.toNat < D[j].num.toNat) := by
  have hm : ∀ i, (hi : i < D.length) → D[i].cl < n ∧ st.getD D[i].cl none = some (D[i].num, D[i].ws) := by
    intro i hi
    have h1 : tellS D[i] ∈ standF st n := hp.subset (List.mem_map_of_mem (List.getElem_mem hi))
    exact (mem_standF st n _).1 h1
  have hnd : (D.map tellS).Nodup := by
    refine (hp.nodup_iff).2 ?_
    refine (standF_cl st n).1.imp fun {a b} hab e => ?_
    subst e
    exact Nat.lt_irrefl _ hab
  refine ⟨by have := hp.length_eq; rw [List.length_map] at this; exact this, hm, fun i j hi hj hij => ?_⟩
  have h1 := hs i j hi hj hij
  by_cases e : D[i].num.toNat = D[j].num.toNat
  · exfalso
    have e2 : D[i].num = D[j].num := BitVec.eq_of_toNat_eq e
    obtain ⟨a1, a2⟩ := hm i hi
    obtain ⟨b1, b2⟩ := hm j hj
    have ec := h.dis _ _ _ _ a1 b1 a2 b2 e2
    rw [ec, b2] at a2
    injection a2 with a2
    have et : (D.map tellS)[i]'(by simpa using hi) = (D.map tellS)[j]'(by simpa using hj) := by
      simp only [List.getElem_map]
      unfold tellS
      rw [ec]
      have h8 := congrArg Prod.fst a2
      have h9 := congrArg Prod.snd a2
      simp only at h8 h9
      rw [h8, h9]
    exact (List.pairwise_iff_getElem.1 hnd) i j (by simpa using hi) (by simpa using hj) hij et
  · omega
end
end Go.Proofs.Ytoifejinppjeeaa
namespace Go.Proofs.Ytoifejinppjeeaa
open Go.RowKit
set_option linter.unusedVariables false
set_option linter.unusedSimpArgs false
theorem infoHv : (Try.prog.info? 107).map (fun i => (i.zero, i.size, i.bytes)) = some (some (.agg #[.int .u64 0, .slice none 0 0]), 2, 32) := by kernel_rfl
def rc0 : Rc := (0#64, none, [], 0)
def hvCells (n : Nat) : Array Value := ((List.replicate n rc0).flatMap encRc).toArray
theorem made_1 : madeCells (Value.agg #[.int .u64 0, .slice none 0 0]).cells (1 * 2) = hvCells 1 := by kernel_rfl
theorem made_2 : madeCells (Value.agg #[.int .u64 0, .slice none 0 0]).cells (2 * 2) = hvCells 2 := by kernel_rfl
theorem made_3 : madeCells (Value.agg #[.int .u64 0, .slice none 0 0]).cells (3 * 2) = hvCells 3 := by kernel_rfl
theorem made_4 : madeCells (Value.agg #[.int .u64 0, .slice none 0 0]).cells (4 * 2) = hvCells 4 := by kernel_rfl
theorem made_5 : madeCells (Value.agg #[.int .u64 0, .slice none 0 0]).cells (5 * 2) = hvCells 5 := by kernel_rfl
theorem made_6 : madeCells (Value.agg #[.int .u64 0, .slice none 0 0]).cells (6 * 2) = hvCells 6 := by kernel_rfl
theorem made_7 : madeCells (Value.agg #[.int .u64 0, .slice none 0 0]).cells (7 * 2) = hvCells 7 := by kernel_rfl
theorem made_8 : madeCells (Value.agg #[.int .u64 0, .slice none 0 0]).cells (8 * 2) = hvCells 8 := by kernel_rfl
theorem make_hv (n : Nat) (h0 : 0 < n) (h : n ≤ 8) (w : World) : (Instr.makeSlice 103 (.int .i64 (n : Int)) (.int .i64 (n : Int))).run Try.prog w =
    .ok (.slice (some ⟨w.heap.size, 0, none⟩) n n) (w.alloc (.cells (hvCells n) 107)) := by
  obtain ⟨i, hi, hz0, hz1, hz2⟩ := info_parts infoHv
  have hr := run_make (P := Try.prog) w 103 107 i _ Try.underlying103 hi hz0 .i64 .i64 n n (by omega) (Int.le_refl _) (by rw [hz2]; omega) (by omega)
  simp only [Int.toNat_natCast] at hr
  rw [hr, hz1]
  have e : madeCells (Value.agg #[.int .u64 0, .slice none 0 0]).cells (n * 2) = hvCells n := by
    have hc : n = 1 ∨ n = 2 ∨ n = 3 ∨ n = 4 ∨ n = 5 ∨ n = 6 ∨ n = 7 ∨ n = 8 := by omega
    rcases hc with rfl | rfl | rfl | rfl | rfl | rfl | rfl | rfl
    · exact made_1
    · exact made_2
    · exact made_3
    · exact made_4
    · exact made_5
    · exact made_6
    · exact made_7
    · exact made_8
  rw [e]
/-- The row in block g reads so. -/
def HvAt (w : World) (g : Nat) (hv : List Rc) : Prop :=
  ∃ cs, w.heap[g]? = some (.cells cs 107 (0, 0)) ∧ cs.size = hv.length * 2 ∧ ∀ i, (h : i < hv.length) → cs[i * 2]? = some (U hv[i].1) ∧ cs[i * 2 + 1]? = some (.slice hv[i].2.1 hv[i].2.2.1.length hv[i].2.2.2)
section
variable {w w' : World} {g : Nat} {hv : List Rc}
theorem hv_new (w : World) (n : Nat) : HvAt (w.alloc (.cells (hvCells n) 107)) w.heap.size (List.replicate n rc0) := by
  refine ⟨hvCells n, heap_alloc_new w _, ?_, fun i h => ?_⟩
  · unfold hvCells; rw [List.size_toArray, flatRc_len]
  · obtain ⟨h1, h2⟩ := flatRc_at (List.replicate n rc0) i h
    unfold hvCells
    exact ⟨by simpa using h1, by simpa using h2⟩
theorem HvAt.lt (h : HvAt w g hv) : g < w.heap.size := by
  obtain ⟨cs, h1, _⟩ := h
  exact heap_lt h1
theorem HvAt.same (h : HvAt w g hv) (hb : w'.heap[g]? = w.heap[g]?) : HvAt w' g hv := by
  obtain ⟨cs, h1, h2, h3⟩ := h
  exact ⟨cs, hb.trans h1, h2, h3⟩
theorem HvAt.below (h : HvAt w g hv) (hb : Below w.heap.size w w') : HvAt w' g hv := h.same (hb.block g h.lt)
theorem HvAt.cell (h : HvAt w g hv) {i : Nat} (hi : i < hv.length) : w.cell? ⟨g, i * 2, none⟩ = some (U hv[i].1) ∧ w.cell? ⟨g, i * 2 + 1, none⟩ = some (.slice hv[i].2.1 hv[i].2.2.1.length hv[i].2.2.2) := by
  obtain ⟨cs, h1, h2, h3⟩ := h
  obtain ⟨k0, k1⟩ := h3 i hi
  exact ⟨(Lib.cell_of_heap h1 _).trans k0, (Lib.cell_of_heap h1 _).trans k1⟩
theorem HvAt.fz (h : HvAt w g hv) (i : Nat) : w.frozen? ⟨g, i, none⟩ = false := by
  obtain ⟨cs, h1, _⟩ := h
  exact Lib.frozen_of_heap h1 i
theorem HvAt.set (h : HvAt w g hv) {c : Nat} (hc : c < hv.length) (r : Rc) : HvAt ((w.setCell ⟨g, c * 2, none⟩ (U r.1)).setCell ⟨g, c * 2 + 1, none⟩ (.slice r.2.1 r.2.2.1.length r.2.2.2)) g (hv.set c r) := by
  obtain ⟨cs, h1, h2, h3⟩ := h
  have b1 := Go.Joins.block_setCell (i := c * 2) (v := U r.1) h1
  have b2 := Go.Joins.block_setCell (i := c * 2 + 1) (v := .slice r.2.1 r.2.2.1.length r.2.2.2) b1
  refine ⟨_, b2, by simp [h2], fun i hi => ?_⟩
  have hi' : i < hv.length := by simpa using hi
  by_cases e : c = i
  · subst e
    rw [List.getElem_set_self]
    constructor
    · rw [Array.getElem?_setIfInBounds, if_neg (by omega), Array.getElem?_setIfInBounds, if_pos rfl, if_pos (by omega)]
    · rw [Array.getElem?_setIfInBounds, if_pos rfl, if_pos (by simp; omega)]
  · rw [List.getElem_set_ne e]
    obtain ⟨k0, k1⟩ := h3 i hi'
    constructor
    · rw [Array.getElem?_setIfInBounds, if_neg (by omega), Array.getElem?_setIfInBounds, if_neg (by omega)]; exact k0
    · rw [Array.getElem?_setIfInBounds, if_neg (by omega), Array.getElem?_setIfInBounds, if_neg (by omega)]; exact k1
end
end Go.Proofs.Ytoifejinppjeeaa
namespace Go.Proofs.Ytoifejinppjeeaa
open Go.RowKit
set_option linter.unusedVariables false
set_option linter.unusedSimpArgs false
/-- Writes that no call of the books turns. -/
def Apt (own : Nat → Nat) (x g : Nat) (A : Option Addr) (ws : List (Int × BitVec 64)) : Prop := ws ≠ [] → ∀ q, blk A = some q → own q = 0 ∧ q ≠ x ∧ q ≠ g
structure PlM (n : Nat) (w0 : World) (x b2 c2 b m : Nat) (G : MG) (k : Nat) (own : Nat → Nat) (a : AM) (st : List (Option Rcd)) (last : BitVec 64) (g : Nat) (hv : List Rc) (w : World) : Prop where
  bo : BoI n w0 x b2 c2 b m G k own a st last none [] 0 w
  hat : HvAt w g hv
  og : own g = 0
  gx : g ≠ x
  gb2 : g ≠ b2
  gb : g ≠ b
  glo : w0.heap.size ≤ g
  rd : ∀ r ∈ hv, RdW w r.2.1 r.2.2.1 ∧ Apt own x g r.2.1 r.2.2.1
section
variable {n : Nat} {w0 w w' : World} {x b2 c2 b m : Nat} {G : MG} {k : Nat} {own own' : Nat → Nat} {a a' : AM} {st st' : List (Option Rcd)} {last last' : BitVec 64} {g : Nat} {hv : List Rc}
theorem PlM.below (h : PlM n w0 x b2 c2 b m G k own a st last g hv w) (hb : Below w.heap.size w w') : PlM n w0 x b2 c2 b m G k own a st last g hv w' :=
  { h with bo := h.bo.below hb, hat := h.hat.below hb, rd := fun r hr => ⟨(h.rd r hr).1.below hb, (h.rd r hr).2⟩ }
theorem RdW.same {A : Option Addr} {ws : List (Int × BitVec 64)} (h : RdW w A ws) (hs : ws ≠ [] → ∀ q, blk A = some q → w'.heap[q]? = w.heap[q]?) : RdW w' A ws := by
  rcases h with h | ⟨b, off, rfl, hc⟩
  · exact .inl h
  · by_cases h0 : ws = []
    · exact .inl h0
    · exact .inr ⟨b, off, rfl, fun i hi => ⟨(World.cell?_of_block (hs h0 b rfl)).trans (hc i hi).1, (World.cell?_of_block (hs h0 b rfl)).trans (hc i hi).2⟩⟩
theorem RdW.turn {A : Option Addr} {ws : List (Int × BitVec 64)} (h : RdW w A ws) (ha : Apt own x g A ws) (hf : MFx x w w' own own') : RdW w' A ws ∧ Apt own' x g A ws :=
  ⟨h.same fun h0 q hq => hf.block q (h.lt h0 q hq) (ha h0 q hq).1 (ha h0 q hq).2.1, fun h0 q hq => ⟨(hf.kept q (h.lt h0 q hq)).trans (ha h0 q hq).1, (ha h0 q hq).2⟩⟩
/-- A call that turns the memory and the books' own box. -/
theorem PlM.turn (h : PlM n w0 x b2 c2 b m G k own a st last g hv w) (hp : BkPost w x b2 0 c2 m n own G a' last' w') (hs : BkSt n a' st') (hc : a'.cnt (2000 * (k + 1))) : ∃ own', PlM n w0 x b2 c2 b m G (k + 1) own' a' st' last' g hv w' ∧ MFx x w w' own own' := by
  have hp0 := hp
  obtain ⟨own', hm, hf, hbk, hx, hb2⟩ := hp
  have hbo : BoI n w0 x b2 c2 b m G (k + 1) own' a' st' last' none [] 0 w' :=
    ⟨hbk, hm, hs, hc, hx, hb2, (hf.kept b h.bo.blt).trans h.bo.ob, h.bo.n0, fun i hi => (h.bo.row i hi).same (hf.block b h.bo.blt h.bo.ob h.bo.xb.symm), hf.low h.bo.bel.size h.bo.low, h.bo.bel.trans (hf.below h.bo.bel.size h.bo.low h.bo.xlo), OwnF.nil_ _ _, (fun q hq => by cases hq), h.bo.xb, h.bo.xlo⟩
  exact ⟨own', ⟨hbo, h.hat.same (hf.block g h.hat.lt h.og h.gx), (hf.kept g h.hat.lt).trans h.og, h.gx, h.gb2, h.gb, h.glo, fun r hr => (h.rd r hr).1.turn (h.rd r hr).2 hf⟩, hf⟩
/-- One of the law's own records is another. -/
theorem PlM.set (h : PlM n w0 x b2 c2 b m G k own a st last g hv w) {c : Nat} (hc : c < hv.length) (r : Rc) (hr : RdW w r.2.1 r.2.2.1) (ha : Apt own x g r.2.1 r.2.2.1) :
    PlM n w0 x b2 c2 b m G k own a st last g (hv.set c r) ((w.setCell ⟨g, c * 2, none⟩ (U r.1)).setCell ⟨g, c * 2 + 1, none⟩ (.slice r.2.1 r.2.2.1.length r.2.2.2)) := by
  have ho : ∀ q, q ≠ g → ((w.setCell ⟨g, c * 2, none⟩ (U r.1)).setCell ⟨g, c * 2 + 1, none⟩ (.slice r.2.1 r.2.2.1.length r.2.2.2)).heap[q]? = w.heap[q]? := fun q hq =>
    (Below.heap_setCell _ _ _ _ (by simpa using hq)).trans (Below.heap_setCell _ _ _ _ (by simpa using hq))
  have hsz : ((w.setCell ⟨g, c * 2, none⟩ (U r.1)).setCell ⟨g, c * 2 + 1, none⟩ (.slice r.2.1 r.2.2.1.length r.2.2.2)).heap.size = w.heap.size := by simp [World.setCell]
  refine ⟨⟨h.bo.bk.same (ho x h.gx.symm) (ho b2 h.gb2.symm), h.bo.mem.same (Nat.le_of_eq hsz.symm) fun q _ h0 => ho q (by rintro rfl; exact h0 h.og), h.bo.s, h.bo.cn, h.bo.ox, h.bo.ob2, h.bo.ob, h.bo.n0, fun i hi => (h.bo.row i hi).same (ho b h.gb.symm), h.bo.low, (h.bo.bel.setCell (p := ⟨g, c * 2, none⟩) h.glo _).setCell (p := ⟨g, c * 2 + 1, none⟩) h.glo _, OwnF.nil_ _ _, (fun q hq => by cases hq), h.bo.xb, h.bo.xlo⟩, h.hat.set hc r, h.og, h.gx, h.gb2, h.gb, h.glo, fun s hs => ?_⟩
  have hs2 : RdW w s.2.1 s.2.2.1 ∧ Apt own x g s.2.1 s.2.2.1 := by
    rcases List.mem_or_eq_of_mem_set hs with hs | rfl
    · exact h.rd s hs
    · exact ⟨hr, ha⟩
  exact ⟨hs2.1.same fun h0 q hq => ho q (hs2.2 h0 q hq).2.2, hs2.2⟩
/-- A fall, then the books opened anew. -/
theorem PlM.fell (h : PlM n w0 x b2 c2 b m G k own a st last g hv w) (kk : List Int) (hm : MemAt w' m own' G (a.crash kk).on) (hf : MFr w w' own own') : PlM n w0 x b2 c2 b m G k own' (a.crash kk).on st last g hv w' :=
  have hx := MFx.of_fr (x := x) hf
  ⟨h.bo.fell kk hm hf, h.hat.same (hx.block g h.hat.lt h.og h.gx), (hx.kept g h.hat.lt).trans h.og, h.gx, h.gb2, h.gb, h.glo, fun r hr => (h.rd r hr).1.turn (h.rd r hr).2 hx⟩
theorem PlM.anew (h : PlM n w0 x b2 c2 b m G k own a st last g hv w) (hb : Below w.heap.size w w') {y b7 c7 : Nat} (hbk : BksAt w' y b7 0 c7 m n last') (hy : w.heap.size ≤ y) (hb7 : w.heap.size ≤ b7) : PlM n w0 y b7 c7 b m G (k + 1) own a st last' g hv w' := by
  have h2 := h.below hb
  have hg := h.hat.lt
  have hbl := h.bo.blt
  refine ⟨⟨hbk, h2.bo.mem, h2.bo.s, h2.bo.cn.mono (by omega), h.bo.mem.fresh y hy, h.bo.mem.fresh b7 hb7, h.bo.ob, h.bo.n0, h2.bo.row, h.bo.low, h2.bo.bel, OwnF.nil_ _ _, (fun q hq => by cases hq), by omega, Nat.le_trans h.bo.bel.size hy⟩, h2.hat, h.og, by omega, by omega, h.gb, h.glo, fun r hr => ⟨(h2.rd r hr).1, fun h0 q hq => ?_⟩⟩
  obtain ⟨g1, _, g3⟩ := (h.rd r hr).2 h0 q hq
  have := (h.rd r hr).1.lt h0 q hq
  exact ⟨g1, by omega, g3⟩
end
end Go.Proofs.Ytoifejinppjeeaa
