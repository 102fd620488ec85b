/- The walk of Who. Conditions: the table stands; the key is an int. -/
import Derived.Test.YtfdngdnnjmcigaaLk4
namespace Go.Proofs.Ytfdngdnnjmcigaa
open Go.RowKit Go.Maps Go.Sort Go.Shelf
set_option linter.unusedVariables false
set_option linter.unusedSimpArgs false
def Zv (z : Int) : Value := .int .i64 z
theorem infoZ : (Try.prog.info? 3).map (fun i => (i.zero, i.size, i.bytes)) = some (some (.int .i64 0), 1, 8) := by kernel_rfl
theorem sorts_any (m : Nat) : AnyZI.SortsIn Try.prog Try.sortedA_ren Fence.wide m :=
  ⟨fun blk off cap ss W hH hblk hsz => callsIn_wide.2 (AnyM.slices_Sort_int Try.sortA blk off cap ss W hH hblk hsz),
   fun p cap W => callsIn_wide.2 (AnyM.slices_Sort_int_none Try.sortA p cap W)⟩
theorem keys_any (b : Nat) (w : World) : Calls Try.prog 16 #[.map (some b)] w fun e w' =>
    e = .returned (.func (.func 24) #[] #[.pointer (some ⟨w.heap.size, 0, none⟩)]) ∧ w' = w.alloc (.cells #[.map (some b)] 41) :=
  (callsIn_wide (n := 5)).1 (AnyZI.keys_in Try.keysA Fence.wide 5 trivial rfl (some b) w)
theorem sortedKeys_any (g b n : Nat) (D : DataW Value) (w : World) (hg : g < w.heap.size) (hm : w.cell? ⟨g, 0, none⟩ = some (.map (some b))) (hown : w.ownsMap Try.prog 3 RH b n D) (hn : n ≤ 1000000) :
    Calls Try.prog 15 #[.func (.func 24) #[] #[.pointer (some ⟨g, 0, none⟩)]] w fun e w' => ∃ (v : Value) (ss : List Int), e = .returned v ∧ ss.Perm (intKeys D) ∧
      w'.ownsRow w.heap.size 3 1 v ss.length ((ss.mergeSort (fun x y => decide (x ≤ y))).map encZ) ∧ (v = .slice none 0 0 ↔ ss = []) ∧ Below w.heap.size w w' := by
  have hsz : Maps.size D ≤ n := hown.size_le
  have hseq : SeqGives Fence.wide 2 Try.prog 24 #[.pointer (some ⟨g, 0, none⟩)] encZ (fun ss => ss.Perm (intKeys D)) (Maps.size D) w :=
    AnyZI.keys_gives (ρ := Try.keysA_ren) { Try.keysA with } Fence.wide _ trivial rfl (by omega) g b n D _ hg hm hown
  have cS := AnyZI.sorted_in Try.sortedA Fence.wide 5 trivial trivial trivial trivial rfl (by omega) (sorts_any _) (enters_of Try.func23 (by kernel_rfl) rfl) 24 #[.pointer (some ⟨g, 0, none⟩)] trivial (enters_of Try.func24 (by kernel_rfl) rfl) _ (Maps.size D) (by unfold maxLen; omega) (by omega) _ hseq
  exact (callsIn_wide (n := 5)).1 cS
theorem intKeys_spec {w : World} {b n : Nat} {D : DataW Value} (hown : w.ownsMap Try.prog 3 RH b n D) : (intKeys D).Nodup ∧ (∀ x, x ∈ intKeys D ↔ Maps.has D (.int .i64 x) = true) ∧ (∀ x ∈ intKeys D, In64 x) ∧ (intKeys D).length = Maps.size D := by
  obtain ⟨es, hD, hpw, _⟩ := hown.entries lkLaw
  obtain ⟨es', hD', hko⟩ := hown.keysOf
  obtain rfl : es = es' := by rw [hD] at hD'; simpa using hD'
  have hk : ∀ p ∈ es, ∃ x, p.1 = .int .i64 x := fun p hp => by obtain ⟨v, hv⟩ := hko p hp; obtain ⟨x, _, hx, _⟩ := Maps.keyOf_i64 Try.underlying3 hv; exact ⟨x, hx⟩
  have hwf := intKeys_wf hown Try.underlying3
  subst hD
  refine ⟨?_, fun x => ?_, fun x hx => ?_, ?_⟩
  · show (es.map fun p => Go.intOf p.1).Nodup
    refine List.pairwise_map.2 (hpw.imp_of_mem fun {p q} hp' hq' hne e => hne ?_)
    obtain ⟨a, ha⟩ := hk p hp'
    obtain ⟨b, hb⟩ := hk q hq'
    rw [ha, hb] at e ⊢
    exact congrArg _ e
  · rw [has_eq, List.any_eq_true]
    show x ∈ (es.map fun p => Go.intOf p.1) ↔ _
    rw [List.mem_map]
    constructor
    · rintro ⟨p, hp', rfl⟩
      obtain ⟨a, ha⟩ := hk p hp'
      exact ⟨p, hp', by rw [ha]; simp [Lit.sameKey, Go.intOf]⟩
    · rintro ⟨p, hp', hs⟩
      obtain ⟨a, ha⟩ := hk p hp'
      rw [ha] at hs
      exact ⟨p, hp', by rw [ha]; simpa [Lit.sameKey, Go.intOf] using hs⟩
  · have h := hwf x hx
    simpa [Lit.wf, IntKind.min, IntKind.max, IntKind.bits, IntKind.signed, In64] using h
  · show (es.map fun p => Go.intOf p.1).length = _
    rw [List.length_map]; rfl
/-- Who holds a key. -/
def HasK (T : Int → Sl) (key z : Int) : Bool := (T z).2.1.any fun x => x.1 == key
theorem sorted_lt {l : List Int} (hn : l.Nodup) : (l.mergeSort (fun x y => decide (x ≤ y))).Pairwise (· < ·) := by
  have hs := List.pairwise_mergeSort (le := fun x y : Int => decide (x ≤ y)) (fun a b c h1 h2 => decide_eq_true (Int.le_trans (of_decide_eq_true h1) (of_decide_eq_true h2))) (fun a b => by
    rcases Int.le_total a b with h | h
    · simp [h]
    · simp [h]) l
  have hd : (l.mergeSort (fun x y => decide (x ≤ y))).Nodup := (List.mergeSort_perm l _).nodup_iff.2 hn
  have hd2 : (l.mergeSort (fun x y => decide (x ≤ y))).Pairwise (· ≠ ·) := hd
  refine (hs.and hd2).imp fun {a b} h => ?_
  have := of_decide_eq_true h.1
  have := h.2
  omega
def WhoPost (T : Int → Sl) (key : Int) (w : World) (e : Ending) (w' : World) : Prop :=
  ∃ (B : Option Addr) (d : Nat) (rs : List Int), e = .returned (.slice B rs.length d) ∧ RdF Zv w' B rs ∧ rs.Pairwise (· < ·) ∧ (∀ z, z ∈ rs ↔ In64 z ∧ HasK T key z = true) ∧ rs.length ≤ 1000000 ∧ Below w.heap.size w w'
set_option maxRecDepth 100000 in
set_option maxHeartbeats 8000000 in
theorem who_any (T : Int → Sl) (key : Int) (w : World) (x b n : Nat) (h : LkAt w x b n T) (hk : In64 key) (hn : n ≤ 1000000) :
    Calls Try.prog 12 #[.pointer (some ⟨x, 0, none⟩), .int .i64 key] w fun e w' => WhoPost T key w e w' := by
  have hal := (Below.refl w.heap.size w).alloc (Nat.le_refl _) (.cells #[.int .i64 key] 3)
  have HT := Lib.hid (h.below hal)
  have HB := Lib.hid hal
  have HG := Lib.hid (heap_alloc_new w (.cells #[.int .i64 key] 3))
  have hbox : (w.alloc (.cells #[.int .i64 key] 3)).cell? ⟨x, 0, none⟩ = some (.map (some b)) := Lib.cell_of_heap HT.out.box 0
  have KK := Lib.hid (keys_any b (w.alloc (.cells #[.int .i64 key] 3)))
  clear h hal
  go_enter Try.func12, Try.ntmps12
  go_wp2_with fail
  refine KK.out.mono ?_
  rintro e w1 ⟨rfl, rfl⟩
  generalize hW1 : w.alloc (.cells #[.int .i64 key] 3) = w1 at *
  have hal := (Below.refl w1.heap.size w1).alloc (Nat.le_refl _) (.cells #[.map (some b)] 41)
  have HT2 := Lib.hid (HT.out.below hal)
  have HB2 := Lib.hid (HB.out.trans (hal.mono HB.out.size))
  have HG2 := Lib.hid (heap_below HG.out hal)
  have HM2 := Lib.hid (heap_alloc_new w1 (.cells #[.map (some b)] 41))
  obtain ⟨D, hown, hD⟩ := HT2.out.map
  obtain ⟨i1, i2, i3, i4⟩ := intKeys_spec hown
  have HI1 := Lib.hid i1
  have HI2 := Lib.hid i2
  have HI3 := Lib.hid i3
  have HI4 := Lib.hid (show (intKeys D).length ≤ 1000000 by have := hown.size_le; omega)
  have HD := Lib.hid hD
  have KS := Lib.hid (sortedKeys_any w1.heap.size b n D _ (heap_lt HM2.out) (Lib.cell_of_heap HM2.out 0) hown hn)
  clear hal hD hown i1 i2 i3 i4 KK HT hbox HB HG
  go_wp2_with fail
  refine KS.out.mono ?_
  rintro e w3 ⟨v, ss, rfl, hperm, hrow, hnil, hb⟩
  have HT3 := Lib.hid (HT2.out.below hb)
  have HB3 := Lib.hid (HB2.out.trans (hb.mono HB2.out.size))
  have HG3 := Lib.hid (heap_below HG2.out hb)
  obtain ⟨zs, hzs⟩ : ∃ zs, ss.mergeSort (fun x y => decide (x ≤ y)) = zs := ⟨_, rfl⟩
  have hzp : zs.Perm (intKeys D) := by rw [← hzs]; exact (List.mergeSort_perm _ _).trans hperm
  have hlen : ss.length = zs.length := by rw [← hzs, List.length_mergeSort]
  have HZ := Lib.hid (show zs.Pairwise (· < ·) by rw [← hzs]; exact sorted_lt (hperm.nodup_iff.2 HI1.out))
  have HZM := Lib.hid (show ∀ z, z ∈ zs ↔ Maps.has D (.int .i64 z) = true from fun z => (hzp.mem_iff).trans (HI2.out z))
  have HZI := Lib.hid (show ∀ z ∈ zs, In64 z from fun z hz => HI3.out z (hzp.mem_iff.1 hz))
  have HZL := Lib.hid (show zs.length ≤ 1000000 by rw [hzp.length_eq]; exact HI4.out)
  have HMEM := Lib.hid (show ∀ z, In64 z → HasK T key z = true → z ∈ zs from fun z hz hh => by
    rw [HZM.out]
    cases hc : Maps.has D (.int .i64 z) with
    | true => rfl
    | false =>
      have e := HD.out z hz
      rw [atKey_not_has hc] at e
      unfold slV at e
      injection e with e
      injection e with e1 e2 e3
      have h0 : (T z).2.1 = [] := List.eq_nil_of_length_eq_zero (by omega)
      unfold HasK at hh
      rw [h0] at hh
      cases hh)
  rw [hzs, hlen] at hrow
  obtain ⟨A, cap, hv, hrd⟩ : ∃ A cap, v = .slice A zs.length cap ∧ RdF Zv w3 A zs := by
    rcases hrow.2 with ⟨hv, h0⟩ | ⟨g, cap, cur, hv, hg, hh, hnc, hcm, hcs, ht⟩
    · have : zs = [] := List.eq_nil_of_length_eq_zero h0
      subst this
      exact ⟨none, 0, hv, .inl rfl⟩
    · subst hv
      exact ⟨_, cap, rfl, OwnF.rd (f := Zv) (e := 3) hrow⟩
  subst hv
  have HRD := Lib.hid hrd
  clear hperm hrow hnil hb hzp hlen hrd KS HT2 HB2 HG2 HM2 HI1 HI2 HI3 HI4 HD hzs
  go_wp2
  go_loopw [5, 7, 15] (fun vo _ i wr => ∃ (k : Nat) (rs : List Int) (B : Option Addr) (d : Nat), k ≤ zs.length ∧ i = .int .i64 k ∧ vo = .slice B rs.length d ∧ Go.RowKit.Hid (rs = (zs.take k).filter fun z => HasK T key z) ∧ OwnF Zv 3 wr w3.heap.size B rs d ∧ Below w3.heap.size w3 wr) (fun _ _ i _ => zs.length - (Go.RowKit.intOf i).toNat)
  case atStart => exact ⟨0, [], none, 0, Nat.zero_le _, rfl, rfl, Lib.hid rfl, OwnF.nil_ _ _, Below.refl _ _⟩
  case round =>
    obtain ⟨k, rs, B, d, hkz, rfl, rfl, hrs, hown, hbw⟩ := hrel
    have HO := Lib.hid hown
    have HB := Lib.hid hbw
    have HRS := Lib.hid hrs.out
    have HRL := Lib.hid (show rs.length ≤ 1000000 by have h := HZL.out; have h2 := List.length_filter_le (fun z => HasK T key z) (zs.take k); rw [HRS.out]; rw [List.length_take] at h2; omega)
    clear hown hbw hrs
    by_cases hlt : k < zs.length
    · obtain ⟨q, off, rfl, hc⟩ := (HRD.out.below HB.out).at_ hlt
      have hz0 := hc k hlt
      have HZK := Lib.hid (HZI.out zs[k] (List.getElem_mem hlt))
      have HT1 := Lib.hid (show (zs.take (k + 1)).filter (fun z => HasK T key z) = rs ++ (if HasK T key zs[k] = true then [zs[k]] else []) by
        rw [List.take_succ_eq_append_getElem hlt, List.filter_append, ← HRS.out]
        congr 1
        rw [List.filter_cons, List.filter_nil])
      clear hc
      generalize zs[k] = z at *
      unfold Zv at hz0
      have HTW := Lib.hid (HT3.out.below HB.out)
      have HGW := Lib.hid (heap_below HG3.out HB.out)
      have hbox : wr.cell? ⟨x, 0, none⟩ = some (.map (some b)) := Lib.cell_of_heap HTW.out.box 0
      obtain ⟨A0, ws0, c0, hs⟩ : ∃ A0 ws0 c0, T z = (A0, ws0, c0) := ⟨_, _, _, rfl⟩
      have hlk : (Instr.lookup 41 (.map (some b)) (.int .i64 z) false).run Try.prog wr = .ok (.slice A0 ws0.length c0) wr := by
        obtain ⟨D2, ho, hd⟩ := HTW.out.map
        have e := own_look HZK.out ho (hd z HZK.out)
        rw [hs] at e
        exact e
      have hr := HTW.out.rd z HZK.out
      have hf := HTW.out.few z HZK.out
      have hhk : HasK T key z = ws0.any (fun x => x.1 == key) := by unfold HasK; rw [hs]
      rw [hs] at hr hf
      simp only at hr hf
      have KC := Lib.hid (contains_any ws0 A0 c0 18 #[.pointer (some ⟨w.heap.size, 0, none⟩)] (fun x => x.1 == key) wr hr hf (enters_of Try.func18 (by kernel_rfl) rfl) (whoClo_any key w.heap.size wr HGW.out))
      rw [← hhk] at KC
      clear hr hf hhk hs
      have e1 : IntKind.i64.wrap ((k : Int) + 1) = (k : Int) + 1 := IntWalk.i64_in _ (by have := HZL.out; omega)
      cases hany : HasK T key z with
      | true =>
        rw [hany] at KC
        have HT2 := Lib.hid (show (zs.take (k + 1)).filter (fun z => HasK T key z) = rs ++ [z] by rw [HT1.out, hany]; rfl)
        clear hany
        go_wp2_with fail
        refine KC.out.mono ?_
        rintro e w5 ⟨rfl, hb5⟩
        have HO5 := Lib.hid (HO.out.below hb5)
        have HB5 := Lib.hid (HB.out.trans (hb5.mono HB.out.size))
        clear hb5 KC HO HB hbox hlk hz0
        have hal2 : Below w5.heap.size w5 (w5.alloc (.cells #[.int .i64 z] 3)) := (Below.refl _ _).alloc (Nat.le_refl _) _
        have HO6 := Lib.hid (HO5.out.below hal2)
        have HB6 := Lib.hid (HB5.out.trans (hal2.mono HB5.out.size))
        have HRN := Lib.hid (show RdF Zv (w5.alloc (.cells #[.int .i64 z] 3)) (some ⟨w5.heap.size, 0, none⟩) [z] from RdF.new1 _ _ _)
        clear hal2
        go_wp2_with (first | go_skip | (at_builtin; refine stop_ ?_))
        refine appF (f := Zv) (fun _ => rfl) 33 3 (.int .i64 0) 8 rfl (by decide) (by decide) Try.underlying33 infoZ (.tmp 27) (.tmp 29) rfl rfl w3.heap.size B rs _ d rfl rfl HO6.out _ [z] 1 1 rfl rfl HRN.out (by have := HRL.out; simp; omega) HB6.out.size ?_
        intro B2 us c2 w7 hz hown hg2 hloc
        have HZ2 := Lib.hid (show us = (zs.take (k + 1)).filter (fun z => HasK T key z) by rw [HT2.out, hz])
        have HO7 := Lib.hid hown
        have HB7 := Lib.hid (HB6.out.grown hg2 HB6.out.size fun q hq => (own_lt HO6.out q hq).1)
        clear hz hown hg2 hloc HO6 HB6 HRN
        unfold Stop
        go_wp2
        go_roundw
        case rel => exact ⟨k + 1, us, B2, c2, hlt, by go_num, rfl, Lib.hid HZ2.out, HO7.out, HB7.out⟩
        case measure => simp [Go.RowKit.intOf]; omega
      | false =>
        rw [hany] at KC
        have HT2 := Lib.hid (show rs = (zs.take (k + 1)).filter (fun z => HasK T key z) by rw [HT1.out, hany]; simp)
        clear hany
        go_wp2_with fail
        refine KC.out.mono ?_
        rintro e w5 ⟨rfl, hb5⟩
        have HO5 := Lib.hid (HO.out.below hb5)
        have HB5 := Lib.hid (HB.out.trans (hb5.mono HB.out.size))
        clear hb5 KC HO HB hbox hlk hz0
        go_wp2
        go_roundw
        case rel => exact ⟨k + 1, rs, B, d, hlt, by go_num, rfl, Lib.hid HT2.out, HO5.out, HB5.out⟩
        case measure => simp [Go.RowKit.intOf]; omega
    · obtain rfl : k = zs.length := by omega
      rw [List.take_length] at HRS
      have HF := Lib.hid (show WhoPost T key w (.returned (.slice B rs.length d)) wr from by
        refine ⟨B, d, rs, rfl, HO.out.rd, ?_, fun z => ?_, HRL.out, HB3.out.trans (HB.out.mono HB3.out.size)⟩
        · rw [HRS.out]; exact HZ.out.filter _
        · rw [HRS.out, List.mem_filter]
          exact ⟨fun h => ⟨HZI.out z h.1, h.2⟩, fun h => ⟨HMEM.out z h.1 h.2, h.2⟩⟩)
      clear HO HB HRS HZ HZM HZI HMEM
      go_wp2
      go_ret
      exact HF.out
end Go.Proofs.Ytfdngdnnjmcigaa
