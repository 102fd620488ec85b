/- The walks of package pmem: Flush, Fence. Conditions: those of MemAt; room in the lines; small counts. -/
import Derived.Test.YtoifejinppjeeaaPmW3
namespace Go.Proofs.Ytoifejinppjeeaa
open Go.RowKit
set_option linter.unusedVariables false
set_option linter.unusedSimpArgs false
theorem any_take_f {α : Type} (p : α → Bool) (ws : List α) (k : Nat) (h : k < ws.length) : (ws.take (k + 1)).any p = ((ws.take k).any p || p ws[k]) := by
  rw [List.take_succ_eq_append_getElem h, List.any_append]
  simp
theorem noneIdx_any (m : Nat) (own : Nat → Nat) (G : MG) (a : AM) (zs : List Int) (K : Option Addr) (kc : Nat) (w : World) (h : MemAt w m own G a) (hk : RdF I6 w K zs) (hn : zs.length ≤ 1000) :
    Calls Try.prog 101 #[.slice K zs.length kc, .func (.func 76) #[.pointer (some ⟨m, 0, none⟩)] #[]] w fun e w' => (∃ r : Int, e = .returned (.int .i64 r) ∧ decide (0 ≤ r) = zs.any a.none) ∧ w = w' := by
  have HL := Lib.hid hk
  have HM := Lib.hid h
  clear hk h
  go_enter Try.func101, Try.ntmps101
  go_wp2
  go_loopw [8] (fun i wr => ∃ k : Nat, k ≤ zs.length ∧ i = .int .i64 k ∧ Go.RowKit.Hid ((zs.take k).any a.none = false) ∧ wr = w) (fun i _ => zs.length - (intOf i).toNat)
  case atStart => exact ⟨0, Nat.zero_le _, rfl, Lib.hid rfl, rfl⟩
  case round =>
    obtain ⟨k, hk, rfl, hno, rfl⟩ := hrel
    have HNO := Lib.hid hno.out
    clear hno
    by_cases hlt : k < zs.length
    · have e1 : IntKind.i64.wrap ((k : Int) + 1) = (k : Int) + 1 := IntWalk.i64_in _ (by omega)
      obtain ⟨lb, lo, rfl, hlc⟩ := HL.out.at_ hlt
      have hk1 := hlc k hlt
      unfold I6 at hk1
      have HT := Lib.hid (any_take_f a.none zs k hlt)
      have HANY := Lib.hid (fun (h : a.none zs[k] = true) => List.any_eq_true.2 ⟨zs[k], List.getElem_mem hlt, h⟩)
      clear hlc
      generalize zs[k] = z at *
      have KP := Lib.hid (mNone_any HM.out z)
      cases hbd : a.none z with
      | true =>
        have HA := Lib.hid (HANY.out hbd)
        rw [hbd] at KP
        clear hbd
        go_wp2_with fail
        refine (KP.out).mono ?_
        rintro e w2 ⟨rfl, rfl⟩
        go_wp2
        go_ret
        exact ⟨⟨k, rfl, by rw [HA.out]; simp⟩, rfl⟩
      | false =>
        have HNO2 := Lib.hid (show (zs.take (k + 1)).any a.none = false by rw [HT.out, HNO.out, hbd]; rfl)
        rw [hbd] at KP
        clear hbd
        go_wp2_with fail
        refine (KP.out).mono ?_
        rintro e w2 ⟨rfl, rfl⟩
        go_wp2
        go_roundw
        case rel => exact ⟨k + 1, by omega, by go_num, Lib.hid HNO2.out, trivial⟩
        case measure => simp [intOf]; omega
    · obtain rfl : k = zs.length := by omega
      rw [List.take_length] at HNO
      go_wp2
      go_ret
      exact ⟨⟨-1, rfl, by rw [HNO.out]; rfl⟩, rfl⟩
theorem noneHas_any (m : Nat) (own : Nat → Nat) (G : MG) (a : AM) (zs : List Int) (K : Option Addr) (kc : Nat) (w : World) (h : MemAt w m own G a) (hk : RdF I6 w K zs) (hn : zs.length ≤ 1000) :
    Calls Try.prog 75 #[.slice K zs.length kc, .func (.func 76) #[.pointer (some ⟨m, 0, none⟩)] #[]] w fun e w' => e = .returned (.bool (zs.any a.none)) ∧ w = w' := by
  have KI := Lib.hid (noneIdx_any m own G a zs K kc w h hk hn)
  clear hk h
  go_enter Try.func75, Try.ntmps75
  go_wp2_with fail
  refine KI.out.mono ?_
  rintro e w2 ⟨⟨r, rfl, hr⟩, rfl⟩
  have HR := Lib.hid hr
  clear hr
  go_wp2
  go_ret
  exact ⟨ret_bool HR.out, rfl⟩
theorem flushL_len (zs : List Int) : ∀ ls : List Ln, (flushL ls zs).length = ls.length := by
  induction zs with
  | nil => intro ls; rfl
  | cons z zs ih => intro ls; show (flushL _ zs).length = _; rw [ih]; simp
theorem flushL_take (ls : List Ln) (zs : List Int) (k : Nat) (h : k < zs.length) : flushL ls (zs.take (k + 1)) = (flushL ls (zs.take k)).set zs[k].toNat ((flushL ls (zs.take k)).getD zs[k].toNat z0).flush := by
  unfold flushL
  rw [List.take_succ_eq_append_getElem h, List.foldl_append]
  rfl
theorem none_no {a : AM} {z : Int} (h : a.none z = false) : 0 ≤ z ∧ z < (a.ls.length : Int) := by
  have := of_decide_eq_false h
  omega
set_option maxRecDepth 100000 in
set_option maxHeartbeats 4000000 in
theorem mFlush_any (m : Nat) (own : Nat → Nat) (G : MG) (a : AM) (zs : List Int) (K : Option Addr) (kc : Nat) (w : World) (h : MemAt w m own G a) (hr : a.room 1000) (hf : a.fit) (hk : ∀ W own', MFr w W own own' → RdF I6 W K zs) (hn : zs.length ≤ 1000) :
    Calls Try.prog 28 #[.pointer (some ⟨m, 0, none⟩), .slice K zs.length kc] w fun e w' => e = .returned (.int .i64 (a.flush zs).2) ∧ MPost w m own G (a.flush zs).1 w' := by
  obtain ⟨_, _, _, c1, _⟩ := h.cells
  cases ho : a.off with
  | true =>
    have HR := Lib.hid (show a.flush zs = (a, 14) by unfold AM.flush; rw [if_pos ho])
    have HM := Lib.hid h
    rw [ho] at c1
    clear h ho hr hf hk
    go_enter Try.func28, Try.ntmps28
    go_wp2
    go_ret
    exact ⟨ret_int (by rw [HR.out]), by rw [HR.out]; exact ⟨own, HM.out, MFr.refl _ _⟩⟩
  | false =>
    have hof : ¬ a.off = true := by rw [ho]; exact Bool.false_ne_true
    rw [ho] at c1
    have KH := Lib.hid (noneHas_any m own G a zs K kc w h (hk w own (MFr.refl _ _)) hn)
    cases hh : zs.any a.none with
    | true =>
      have HR := Lib.hid (show a.flush zs = (a, 1) by unfold AM.flush; rw [if_neg hof, if_pos hh])
      have HM := Lib.hid h
      rw [hh] at KH
      clear h ho hh hof hr hf hk
      go_enter Try.func28, Try.ntmps28
      go_wp2_with fail
      refine KH.out.mono ?_
      rintro e w' ⟨rfl, rfl⟩
      go_wp2
      go_ret
      exact ⟨ret_int (by rw [HR.out]), by rw [HR.out]; exact ⟨own, HM.out, MFr.refl _ _⟩⟩
    | false =>
      have hhf : ¬ zs.any a.none = true := by rw [hh]; exact fun h => by cases h
      rw [hh] at KH
      have KB := Lib.hid (mBurn_any m own G a w h hr hf.f1)
      cases hb : a.burn.2 with
      | false =>
        have HR := Lib.hid (show a.flush zs = (a.burn.1, 14) by unfold AM.flush; rw [if_neg hof, if_neg hhf, if_pos hb])
        rw [hb] at KB
        clear h ho hh hof hhf hb hr hf hk
        generalize a.burn.1 = a1 at *
        go_enter Try.func28, Try.ntmps28
        go_wp2_with fail
        refine KH.out.mono ?_
        rintro e w' ⟨rfl, rfl⟩
        go_wp2_with fail
        refine KB.out.mono ?_
        rintro e w1 ⟨rfl, hp⟩
        have HP := Lib.hid hp
        clear hp
        go_wp2
        go_ret
        exact ⟨ret_int (by rw [HR.out]), by rw [HR.out]; exact HP.out⟩
      | true =>
        have HR := Lib.hid (show a.flush zs = ({ a.burn.1 with ls := flushL a.burn.1.ls zs, n2 := a.burn.1.n2 + 1 }, 0) by unfold AM.flush; rw [if_neg hof, if_neg hhf, if_neg (by rw [hb]; exact fun h => by cases h)])
        rw [hb] at KB
        have HR1 := Lib.hid (burn_room hr)
        have hl1 := burn_len a
        have hn1 := (burn_n a).2.1
        have hc1 := hf.c2
        have HZ := Lib.hid (fun (k : Nat) (hk : k < zs.length) => show 0 ≤ zs[k] ∧ zs[k] < (a.burn.1.ls.length : Int) by
          rw [hl1]
          exact none_no (Bool.eq_false_iff.2 (List.any_eq_false.1 hh zs[k] (List.getElem_mem hk))))
        have HXL := Lib.hid (show G.xs.length = a.burn.1.ls.length by rw [hl1]; exact h.len)
        have hfew : G.xs.length ≤ 1024 := by have := h.few; have := h.len; omega
        have HK := Lib.hid hk
        rw [← hn1] at hc1
        clear h ho hh hof hhf hb hr hf hl1 hn1 hk
        generalize a.burn.1 = a1 at *
        obtain ⟨GA, gc, xs⟩ := G
        simp only at hfew HXL
        rw [← HXL.out] at HZ
        go_enter Try.func28, Try.ntmps28
        go_wp2_with fail
        refine KH.out.mono ?_
        rintro e w' ⟨rfl, rfl⟩
        go_wp2_with fail
        refine KB.out.mono ?_
        rintro e w1 ⟨rfl, own1, hm1, hf1⟩
        have HM1 := Lib.hid hm1
        have HF1 := Lib.hid hf1
        clear hm1 hf1
        go_wp2
        go_loopw [23] (fun i wr => ∃ k : Nat, k ≤ zs.length ∧ i = .int .i64 k ∧ ∃ own', MemAt wr m own' ⟨GA, gc, xs⟩ { a1 with ls := flushL a1.ls (zs.take k) } ∧ MFr w wr own own') (fun i _ => zs.length - (intOf i).toNat)
        case atStart => exact ⟨0, Nat.zero_le _, rfl, own1, HM1.out, HF1.out⟩
        case round =>
          clear HM1 HF1
          obtain ⟨k, hk, rfl, own2, hm, hf⟩ := hrel
          have HM := Lib.hid hm
          have HF := Lib.hid hf
          clear hm hf
          obtain ⟨_, _, d0, _, _, _, _, d5, _⟩ := HM.out.cells
          have f5 := HM.out.fz 5
          simp only at d0 d5
          by_cases hlt : k < zs.length
          · obtain ⟨lb, lo, rfl, hlc⟩ := (HK.out wr own2 HF.out).at_ hlt
            have hk1 := hlc k hlt
            unfold I6 at hk1
            have hz := HZ.out k hlt
            have HT := Lib.hid (flushL_take a1.ls zs k hlt)
            have e0 : IntKind.i64.wrap ((k : Int) + 1) = (k : Int) + 1 := IntWalk.i64_in _ (by omega)
            clear hlc
            generalize zs[k] = z at *
            obtain ⟨i, rfl⟩ := Int.eq_ofNat_of_zero_le hz.1
            have hiz := hz.2
            have hil : i < (flushL a1.ls (zs.take k)).length := by rw [flushL_len, ← HXL.out]; omega
            obtain ⟨b, off, x, rfl, hx, hc, hln⟩ := HM.out.at_ (i := i) hil
            have hok := hln.1
            obtain ⟨_, _, B, d, hat, hbo⟩ := hln
            have KS := Lib.hid (lFlush_any x _ _ B d _ wr hat)
            have HB0 := Lib.hid (fun q hq => hbo q hq)
            have HBL := Lib.hid (fun q hq => (hat.own.lt q hq).2)
            have HX := Lib.hid hx
            have HOK := Lib.hid hok
            have HIL := Lib.hid hil
            rw [Int.toNat_natCast] at HT
            clear hok hat hbo hx hil hz
            go_wp2_with fail
            refine KS.out.mono ?_
            rintro e w2 ⟨rfl, hl2, hf2⟩
            obtain ⟨own3, hm2, hf3⟩ := HM.out.setLine HIL.out HX.out (q0 := blk B) (fun q hq => HB0.out q hq) hf2 (l' := Ln.flush _) (HOK.out.flush) hl2 (fun q hq => .inl ⟨HB0.out q hq, HBL.out q hq⟩)
            have HM2 := Lib.hid hm2
            have HF2 := Lib.hid (HF.out.trans hf3)
            clear hl2 hf2 hm2 hf3
            go_wp2
            go_roundw
            case rel => exact ⟨k + 1, by omega, by go_num, own3, by rw [HT.out]; exact HM2.out, HF2.out⟩
            case measure => simp [intOf]; omega
          · obtain rfl : k = zs.length := by omega
            rw [List.take_length] at HM
            have e1 : IntKind.i64.wrap (a1.n2 + 1) = a1.n2 + 1 := IntWalk.i64_in _ (by omega)
            have HP := Lib.hid (show MPost w m own ⟨GA, gc, xs⟩ (a.flush zs).1 (wr.setCell ⟨m, 5, none⟩ (.int .i64 (a1.n2 + 1))) by
              rw [HR.out]
              exact ⟨own2, HM.out.setN2 (a1.n2 + 1), HF.out.trans (reM_fr HM.out)⟩)
            go_wp2
            go_ret
            exact ⟨ret_int (by rw [HR.out]), HP.out⟩
/-- The lines when k of them have been fenced. -/
def fencedK (ls : List Ln) (k : Nat) : List Ln := (ls.take k).map Ln.fence ++ ls.drop k
theorem fencedK_len (ls : List Ln) (k : Nat) : (fencedK ls k).length = ls.length := by unfold fencedK; rw [List.length_append, List.length_map, List.length_take, List.length_drop]; omega
theorem fencedK_all (ls : List Ln) : fencedK ls ls.length = ls.map Ln.fence := by unfold fencedK; rw [List.take_length, List.drop_length, List.append_nil]
theorem fencedK_succ (ls : List Ln) (k : Nat) (h : k < ls.length) : (fencedK ls k)[k]? = some ls[k] ∧ fencedK ls (k + 1) = (fencedK ls k).set k ls[k].fence := by
  have h1 : ((ls.take k).map Ln.fence).length = k := by rw [List.length_map, List.length_take]; omega
  unfold fencedK
  constructor
  · rw [List.getElem?_append_right (by omega), h1, Nat.sub_self, List.getElem?_drop, Nat.add_zero, List.getElem?_eq_getElem h]
  · rw [List.take_succ_eq_append_getElem h, List.map_append, List.set_append_right (h := by omega), h1, Nat.sub_self, List.drop_eq_getElem_cons h, List.set_cons_zero, List.append_assoc]
    rfl
set_option maxRecDepth 100000 in
set_option maxHeartbeats 4000000 in
theorem mFence_any (m : Nat) (own : Nat → Nat) (G : MG) (a : AM) (w : World) (h : MemAt w m own G a) (hr : a.room 1000) (hf : a.fit) :
    Calls Try.prog 29 #[.pointer (some ⟨m, 0, none⟩)] w fun e w' => e = .returned (.int .i64 a.fence.2) ∧ MPost w m own G a.fence.1 w' := by
  obtain ⟨_, _, _, c1, _⟩ := h.cells
  cases ho : a.off with
  | true =>
    have HR := Lib.hid (show a.fence = (a, 14) by unfold AM.fence; rw [if_pos ho])
    have HM := Lib.hid h
    rw [ho] at c1
    clear h ho hr hf
    go_enter Try.func29, Try.ntmps29
    go_wp2
    go_ret
    exact ⟨ret_int (by rw [HR.out]), by rw [HR.out]; exact ⟨own, HM.out, MFr.refl _ _⟩⟩
  | false =>
    have hof : ¬ a.off = true := by rw [ho]; exact Bool.false_ne_true
    rw [ho] at c1
    have KB := Lib.hid (mBurn_any m own G a w h hr hf.f1)
    cases hb : a.burn.2 with
    | false =>
      have HR := Lib.hid (show a.fence = (a.burn.1, 14) by unfold AM.fence; rw [if_neg hof, if_pos hb])
      rw [hb] at KB
      clear h ho hof hb hr hf
      generalize a.burn.1 = a1 at *
      go_enter Try.func29, Try.ntmps29
      go_wp2_with fail
      refine KB.out.mono ?_
      rintro e w1 ⟨rfl, hp⟩
      have HP := Lib.hid hp
      clear hp
      go_wp2
      go_ret
      exact ⟨ret_int (by rw [HR.out]), by rw [HR.out]; exact HP.out⟩
    | true =>
      have HR := Lib.hid (show a.fence = ({ a.burn.1 with ls := a.burn.1.ls.map Ln.fence, n3 := a.burn.1.n3 + 1 }, 0) by unfold AM.fence; rw [if_neg hof, if_neg (by rw [hb]; exact fun h => by cases h)])
      rw [hb] at KB
      have HR1 := Lib.hid (burn_room hr)
      have hl1 := burn_len a
      have hn1 := (burn_n a).2.2
      have hc1 := hf.c3
      have HXL := Lib.hid (show G.xs.length = a.burn.1.ls.length by rw [hl1]; exact h.len)
      have hfew : G.xs.length ≤ 1024 := by have := h.few; have := h.len; omega
      rw [← hn1] at hc1
      clear h ho hof hb hr hf hl1 hn1
      generalize a.burn.1 = a1 at *
      obtain ⟨GA, gc, xs⟩ := G
      simp only at hfew HXL
      go_enter Try.func29, Try.ntmps29
      go_wp2_with fail
      refine KB.out.mono ?_
      rintro e w1 ⟨rfl, own1, hm1, hf1⟩
      have HM1 := Lib.hid hm1
      have HF1 := Lib.hid hf1
      obtain ⟨_, _, d0, _⟩ := hm1.cells
      simp only at d0
      clear hm1 hf1
      go_wp2
      clear d0
      go_loopw [19] (fun i wr => ∃ k : Nat, k ≤ xs.length ∧ i = .int .i64 k ∧ ∃ own', MemAt wr m own' ⟨GA, gc, xs⟩ { a1 with ls := fencedK a1.ls k } ∧ MFr w wr own own') (fun i _ => xs.length - (intOf i).toNat)
      case atStart => exact ⟨0, Nat.zero_le _, rfl, own1, HM1.out, HF1.out⟩
      case round =>
        clear HM1 HF1
        obtain ⟨k, hk, rfl, own2, hm, hf⟩ := hrel
        have HM := Lib.hid hm
        have HF := Lib.hid hf
        clear hm hf
        obtain ⟨_, _, d0, _, _, _, _, _, d6, _⟩ := HM.out.cells
        have f6 := HM.out.fz 6
        simp only at d0 d6
        by_cases hlt : k < xs.length
        · have hka : k < a1.ls.length := by rw [← HXL.out]; exact hlt
          have hil : k < (fencedK a1.ls k).length := by rw [fencedK_len]; exact hka
          obtain ⟨hg, hs⟩ := fencedK_succ a1.ls k hka
          have HS := Lib.hid hs
          have e0 : IntKind.i64.wrap ((k : Int) + 1) = (k : Int) + 1 := IntWalk.i64_in _ (by omega)
          obtain ⟨b, off, x, rfl, hx, hc, hln⟩ := HM.out.at_ (i := k) hil
          have el : ({ a1 with ls := fencedK a1.ls k } : AM).ln k = a1.ls[k] := by
            rw [ln_eq (a := { a1 with ls := fencedK a1.ls k }) hil]
            rw [List.getElem?_eq_getElem hil] at hg
            exact Option.some.inj hg
          rw [el] at hln
          have hrm := HR1.out a1.ls[k] (List.getElem_mem _)
          generalize a1.ls[k] = l at *
          have hok := hln.1
          obtain ⟨_, _, B, d, hat, hbo⟩ := hln
          have KS := Lib.hid (lFence_any x _ _ B d _ wr hat hok.2.2 hrm hok.2.1)
          have HX := Lib.hid hx
          have HOK := Lib.hid hok
          have HIL := Lib.hid hil
          clear hok hat hbo hx hil hs hg el hrm
          go_wp2_with fail
          refine KS.out.mono ?_
          rintro e w2 ⟨rfl, ⟨B2, d2, hl2, hn2⟩, hf2⟩
          obtain ⟨own3, hm2, hf3⟩ := HM.out.setLine HIL.out HX.out (q0 := none) (fun q hq => by cases hq) hf2 (l' := l.fence) (HOK.out.fence) hl2 (fun q hq => .inr (hn2 q hq))
          have HM2 := Lib.hid hm2
          have HF2 := Lib.hid (HF.out.trans hf3)
          clear hl2 hf2 hm2 hf3 hn2
          go_wp2
          go_roundw
          case rel => exact ⟨k + 1, by omega, by go_num, own3, by rw [HS.out]; exact HM2.out, HF2.out⟩
          case measure => simp [intOf]; omega
        · obtain rfl : k = xs.length := by omega
          rw [HXL.out, fencedK_all] at HM
          have e1 : IntKind.i64.wrap (a1.n3 + 1) = a1.n3 + 1 := IntWalk.i64_in _ (by omega)
          have HP := Lib.hid (show MPost w m own ⟨GA, gc, xs⟩ a.fence.1 (wr.setCell ⟨m, 6, none⟩ (.int .i64 (a1.n3 + 1))) by
            rw [HR.out]
            exact ⟨own2, HM.out.setN3 (a1.n3 + 1), HF.out.trans (reM_fr HM.out)⟩)
          go_wp2
          go_ret
          exact ⟨ret_int (by rw [HR.out]), HP.out⟩
end Go.Proofs.Ytoifejinppjeeaa
