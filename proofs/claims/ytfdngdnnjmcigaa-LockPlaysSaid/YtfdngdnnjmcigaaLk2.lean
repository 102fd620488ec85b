/- The table of locks in memory; who may take what. Conditions: the table stands; the slices can be read. -/
import Derived.Test.YtfdngdnnjmcigaaLk
namespace Go.Proofs.Ytfdngdnnjmcigaa
open Go.RowKit Go.Maps
set_option linter.unusedVariables false
set_option linter.unusedSimpArgs false
set_option maxRecDepth 100000 in
set_option maxHeartbeats 4000000 in
theorem indexNone_any (A : Option Addr) (c : Nat) (fv : Value) (w : World) : Calls Try.prog 25 #[.slice A 0 c, fv] w fun e w' => e = .returned (.int .i64 (-1)) ∧ w' = w := by
  go_enter Try.func25, Try.ntmps25
  go_wp2
  refine wp_loop_rounds 1 ?_
  rw [rounds_succ]
  go_wp2
  go_ret
  exact ⟨rfl, rfl⟩
set_option maxRecDepth 100000 in
set_option maxHeartbeats 4000000 in
theorem containsNone_any (A : Option Addr) (c : Nat) (fv : Value) (w : World) : Calls Try.prog 17 #[.slice A 0 c, fv] w fun e w' => e = .returned (.bool false) ∧ w' = w := by
  have KI := Lib.hid (indexNone_any A c fv w)
  go_enter Try.func17, Try.ntmps17
  go_wp2_with fail
  refine KI.out.mono ?_
  rintro e w1 ⟨rfl, rfl⟩
  go_wp2
  go_ret
  exact ⟨rfl, rfl⟩
theorem contains_any (ws : List Wt) (A : Option Addr) (c g : Nat) (lb : Array Value) (p : Wt → Bool) (w : World) (hr : RdL w A ws) (hn : ws.length ≤ 1000000) (eg : ∀ args w, (callFunc g args).run Try.prog w = .ok (.enter g args) w)
    (hp : PredBelow Try.prog g lb (fun x => .agg (encW x).toArray) p w) : Calls Try.prog 17 #[.slice A ws.length c, .func (.func g) #[] lb] w fun e w' => e = .returned (.bool (ws.any p)) ∧ Below w.heap.size w w' := by
  by_cases h0 : ws = []
  · subst h0
    refine (containsNone_any A c _ w).mono ?_
    rintro e w' ⟨rfl, rfl⟩
    exact ⟨rfl, Below.refl _ _⟩
  · obtain ⟨b, off, rfl, hc⟩ := hr.at_ (k := 0) (List.length_pos_iff.2 h0)
    have h := AnyQ.slices_ContainsFunc Try.containsWant 2 Try.isAgg28 Try.sizeOf28 encW (fun _ => rfl) p g lb eg b off ws.length c ws w hp (Nat.le_refl _) (by omega) (cell_lt (hc 0 (List.length_pos_iff.2 h0)).1) (fun j hj i v hi => by
      obtain ⟨h1, h2⟩ := hc j hj
      rw [getElem!_pos ws j hj] at hi
      match i, hi with
      | 0, hi => simp [encW] at hi; rw [← hi]; exact h1
      | 1, hi => simp [encW] at hi; rw [← hi]; exact h2
      | i + 2, hi => simp [encW] at hi)
    rw [List.take_length] at h
    exact h
abbrev Sl := Option Addr × List Wt × Nat
def slV (s : Sl) : Value := .slice s.1 s.2.1.length s.2.2
def RH (v : Value) : Option (DataW Value × List MemPlace) := some (.held v, [])
def nilSl : Sl := (none, [], 0)
def In64 (z : Int) : Prop := -9223372036854775808 ≤ z ∧ z ≤ 9223372036854775807
theorem In64.wf {z : Int} (h : In64 z) : (Lit.int .i64 z).wf = true := WalkArith.wf_i64 h
theorem lkLaw : Keyed Try.prog 3 := int_keyed Try.underlying3
theorem zeroW (w : World) : (zeroValue 30).run Try.prog w = .ok (.slice none 0 0) w := by kernel_rfl
structure LkAt (w : World) (x b n : Nat) (T : Int → Sl) : Prop where
  box : w.heap[x]? = some (.cells #[.map (some b)] 43 (0, 0))
  map : ∃ D, w.ownsMap Try.prog 3 RH b n D ∧ ∀ z, In64 z → D.atKey (.int .i64 z) (.held (.slice none 0 0)) = .held (slV (T z))
  rd : ∀ z, In64 z → RdL w (T z).1 (T z).2.1
  few : ∀ z, In64 z → (T z).2.1.length ≤ 1000000
theorem own_look {w : World} {b n : Nat} {D : DataW Value} {s : Sl} {z : Int} (hz : In64 z) (ho : w.ownsMap Try.prog 3 RH b n D) (hd : D.atKey (.int .i64 z) (.held (.slice none 0 0)) = .held (slV s)) :
    (Instr.lookup 41 (.map (some b)) (.int .i64 z) false).run Try.prog w = .ok (slV s) w := by
  obtain ⟨v, ps, hrun, hv⟩ := ho.lookup lkLaw Try.underlying41 (zeroW w) (zd := .held (.slice none 0 0)) (zp := []) rfl (keyOf_int_mk Try.underlying3 hz.wf)
  rw [hd] at hv
  unfold RH at hv
  injection hv with hv
  injection hv with hv _
  injection hv with hv
  rw [hrun, hv]
theorem lk_map_lt {w : World} {x b n : Nat} {T : Int → Sl} (h : LkAt w x b n T) : b < w.heap.size := by
  obtain ⟨D, ho, _⟩ := h.map
  exact ho.lt
theorem LkAt.below {w w' : World} {x b n : Nat} {T : Int → Sl} (h : LkAt w x b n T) (hb : Below w.heap.size w w') : LkAt w' x b n T := by
  refine ⟨heap_below h.box hb, ?_, fun z hz => (h.rd z hz).below hb, h.few⟩
  obtain ⟨D, ⟨es, clock, hh, r⟩, hd⟩ := h.map
  exact ⟨D, ⟨es, clock, heap_below hh hb, r⟩, hd⟩
/-- What may tells. -/
def Clash (T : Int → Sl) (who : Int) (ls : List Wt) : Prop := ∃ z, In64 z ∧ z ≠ who ∧ ∃ h ∈ (T z).2.1, ∃ x ∈ ls, apartB x h = false
open Classical in
noncomputable def mayV (T : Int → Sl) (who : Int) (ls : List Wt) : Int := if (T who).2.1 ≠ [] ∨ ls = [] ∨ risesB ls = false then 1 else if Clash T who ls then 15 else 0
set_option maxRecDepth 100000 in
set_option maxHeartbeats 4000000 in
theorem rises_any (ws : List Wt) (A : Option Addr) (c : Nat) (w : World) (hr : RdL w A ws) (hn : ws.length ≤ 1000000) :
    Calls Try.prog 19 #[.slice A ws.length c] w fun e w' => e = .returned (.bool (risesB ws)) ∧ Drawn w w' := by
  have HR := Lib.hid hr
  have HN := Lib.hid hn
  have HI := Lib.hid (risesB_iff ws)
  clear hr hn
  go_enter Try.func19, Try.ntmps19
  go_wp2
  go_loopw [3] (fun i wr => ∃ k : Nat, 1 ≤ k ∧ (k ≤ ws.length ∨ k = 1) ∧ i = .int .i64 k ∧ (∀ j, (h : j + 1 < ws.length) → j + 1 < k → ws[j].1 < ws[j + 1].1) ∧ Drawn w wr) (fun i _ => ws.length + 1 - (intOf i).toNat)
  case atStart => exact ⟨1, Nat.le_refl _, .inr rfl, rfl, fun j _ h => absurd h (by omega), Drawn.refl _⟩
  case round =>
    obtain ⟨k, hk1, hk, rfl, ht, hd⟩ := hrel
    have HT := Lib.hid ht
    have HD := Lib.hid hd
    have HK := Lib.hid hk
    clear ht hd hk
    by_cases hlt : k < ws.length
    · obtain ⟨j, rfl⟩ : ∃ j, k = j + 1 := ⟨k - 1, by omega⟩
      obtain ⟨b, off, rfl, hc⟩ := (HR.out.below (HD.out.below _)).at_ hlt
      obtain ⟨h1, _⟩ := hc j (by omega)
      obtain ⟨h2, _⟩ := hc (j + 1) hlt
      have HF := Lib.hid (fun (hge : ¬ ws[j].1 < ws[j + 1].1) => show risesB ws = false from by
        cases hb : risesB ws with
        | false => rfl
        | true => exact absurd (HI.out.1 hb j hlt) hge)
      have HT2 := Lib.hid (fun (hge : ws[j].1 < ws[j + 1].1) => show ∀ i, (h : i + 1 < ws.length) → i + 1 < j + 1 + 1 → ws[i].1 < ws[i + 1].1 from fun i hi h => by
        by_cases e : i = j
        · subst e; exact hge
        · exact HT.out i hi (by omega))
      clear hc
      generalize ws[j].1 = p1 at *
      generalize ws[j + 1].1 = p2 at *
      have e1 : IntKind.i64.wrap (j : Int) = (j : Int) := IntWalk.i64_in _ (by have := HN.out; omega)
      have e2 : IntKind.i64.wrap ((j : Int) + 1 + 1) = (j : Int) + 1 + 1 := IntWalk.i64_in _ (by have := HN.out; omega)
      have hjl : j < ws.length := by omega
      by_cases hge : p2 ≤ p1
      · have f1 : decide (p2 ≤ p1) = true := decide_eq_true hge
        have HF2 := Lib.hid (show risesB ws = false from HF.out (by omega))
        clear hge HF HT2
        go_wp2
        go_quiet (fail)
        go_wp2
        go_ret
        exact ⟨ret_bool HF2.out.symm, HD.out.trans (Drawn.some_ _ _)⟩
      · have f1 : decide (p2 ≤ p1) = false := decide_eq_false hge
        have HT3 := Lib.hid (HT2.out (by omega))
        clear hge HF HT2
        go_wp2
        go_quiet (fail)
        go_wp2
        go_roundw
        case rel => exact ⟨j + 1 + 1, by omega, .inl (by omega), by go_num, HT3.out, HD.out.trans (Drawn.some_ _ _)⟩
        case measure => simp [intOf]; omega
    · have HF := Lib.hid (show risesB ws = true from HI.out.2 fun i hi => HT.out i hi (by have := HK.out; omega))
      go_wp2
      go_ret
      exact ⟨ret_bool HF.out.symm, HD.out⟩
end Go.Proofs.Ytfdngdnnjmcigaa
