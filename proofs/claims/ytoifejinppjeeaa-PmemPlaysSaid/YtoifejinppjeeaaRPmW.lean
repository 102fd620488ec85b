/- The walks of the reference's memory: On, Crash, blown, Load, Store. Conditions: those of RMemAt; room in the lines; small counts. -/
import Derived.Test.YtoifejinppjeeaaRPm
import Derived.Test.YtoifejinppjeeaaPmW5
namespace Go.Proofs.Ytoifejinppjeeaa
open Go.RowKit
set_option linter.unusedVariables false
set_option linter.unusedSimpArgs false
theorem fall_takeR (z : Int) (os : List St) : os.take (fallN z os.length) = os.take z.toNat := by
  unfold fallN
  by_cases h : z.toNat ≤ os.length
  · rw [show (min (max z 0) (os.length : Int)).toNat = z.toNat by omega]
  · rw [List.take_of_length_le (i := z.toNat) (by omega), List.take_of_length_le (by omega)]
theorem lt_fence (l : Ln) : mk l.fence.os l.fence.fl = mk (l.os.drop l.fl) 0 := rfl
section
variable {w : World} {m : Nat} {own : Nat → Nat} {G : MG} {a : AM}
theorem rmOn_any (h : RMemAt w m own G a) : Calls Try.prog 44 #[.pointer (some ⟨m, 0, none⟩)] w fun e w' => e = .returned (.tuple #[]) ∧ RPost w m own G a.on w' := by
  obtain ⟨_, _, _, _, c1, _⟩ := h.cells
  have f1 := h.fz 1
  have HP := Lib.hid (show RPost w m own G a.on (w.setCell ⟨m, 1, none⟩ (.bool false)) from ⟨own, h.setOff false, rreM_fr h⟩)
  clear h
  go_enter Try.func44, Try.ntmps44
  go_wp2
  go_end0
  exact ⟨rfl, HP.out⟩
end
set_option maxRecDepth 100000 in
set_option maxHeartbeats 4000000 in
theorem rmCrash_any (m : Nat) (own : Nat → Nat) (G : MG) (a : AM) (ks : List Int) (K : Option Addr) (kc : Nat) (w : World) (h : RMemAt w m own G a) (hr : a.room 1000) (hk : ∀ W own', MFr w W own own' → RdF I6 W K ks) (hkc : ks.length ≤ kc) (hkm : kc ≤ maxLen) :
    Calls Try.prog 43 #[.pointer (some ⟨m, 0, none⟩), .slice K ks.length kc] w fun e w' => e = .returned (.tuple #[]) ∧ RPost w m own G (a.crash ks) w' := by
  unfold maxLen at hkm
  obtain ⟨GA, gc, xs⟩ := G
  cases ho : a.off with
  | true =>
    obtain ⟨_, _, _, _, c1, _⟩ := h.cells
    have HR := Lib.hid (show a.crash ks = a by unfold AM.crash; rw [if_pos ho])
    have HM := Lib.hid h
    rw [ho] at c1
    clear h ho hk
    go_enter Try.func43, Try.ntmps43
    go_wp2
    refine bodyPost_ret (v := .tuple #[]) ?_ rfl ⟨rfl, by rw [HR.out]; exact ⟨own, HM.out, MFr.refl _ _⟩⟩
    unfold results
    rw [show Try.f43.results = #[] from rfl]
    go_simp
    try rfl
  | false =>
    obtain ⟨_, _, _, _, c1, _⟩ := h.cells
    have hoff := Lib.hid ho
    rw [ho] at c1
    have HM := Lib.hid (show RMemAt w m own ⟨GA, gc, xs⟩ { a with ls := fallenK a.ls ks 0 } from h)
    have HR := Lib.hid (show a.crash ks = { a with off := true, fuse := 0, ls := crashL ks a.ls } by unfold AM.crash; rw [if_neg (by rw [ho]; exact Bool.false_ne_true)])
    have HK := Lib.hid hk
    have HRM := Lib.hid hr
    have HLEN := Lib.hid (show xs.length = a.ls.length from h.len)
    have hfew := h.few
    rw [← HLEN.out] at hfew
    clear h hk hr ho
    go_enter Try.func43, Try.ntmps43
    go_wp2
    clear c1
    go_loopw [4, 5] (fun s i wr => ∃ (k n : Nat), k ≤ xs.length ∧ i = .int .i64 k ∧ s = .int .i64 n ∧ n ≤ k ∧ restK ks (a.ls.take k) = ks.drop n ∧ ∃ own', RMemAt wr m own' ⟨GA, gc, xs⟩ { a with ls := fallenK a.ls ks k } ∧ MFr w wr own own') (fun _ i _ => xs.length - (intOf i).toNat)
    case atStart => exact ⟨0, 0, Nat.zero_le _, rfl, rfl, Nat.le_refl _, rfl, own, HM.out, MFr.refl _ _⟩
    case round =>
      clear HM
      obtain ⟨k, n, hk, rfl, rfl, hnk, hrs, own1, hm, hf⟩ := hrel
      have HRS0 := Lib.hid hrs
      have HM := Lib.hid hm
      have HF := Lib.hid hf
      clear hrs hm hf
      obtain ⟨_, _, _, d0, _⟩ := HM.out.cells
      simp only at d0
      by_cases hlt : k < xs.length
      · have hka : k < a.ls.length := by rw [← HLEN.out]; exact hlt
        have hkf : k < (fallenK a.ls ks k).length := by rw [fallenK_len _ _ _ (Nat.le_of_lt hka)]; exact hka
        have e9 : (fallenK a.ls ks k)[k] = a.ls[k] := by
          have h := fallenK_get a.ls ks k hka
          rw [List.getElem?_eq_getElem hkf, List.getElem?_eq_getElem hka] at h
          exact Option.some.inj h
        obtain ⟨b, off, x, rfl, hx, hc, hln⟩ := HM.out.at_ (i := k) hkf
        have hln : RLnAt wr own1 k x a.ls[k] := by
          have e := e9
          simp only at hln
          rw [e] at hln
          exact hln
        obtain ⟨hok, hox, S, sc, O, oc, hat, hbo⟩ := hln
        have hrm := HRM.out a.ls[k] (List.getElem_mem _)
        have HS := Lib.hid (fallenK_succ a.ls ks k hka)
        have HRS := Lib.hid (restK_succ a.ls ks k hka)
        have HG := Lib.hid (fallenK_get a.ls ks k hka)
        rw [List.getElem?_eq_getElem hka] at HG
        rw [HRS0.out] at HS HRS
        have e0 : IntKind.i64.wrap ((k : Int) + 1) = (k : Int) + 1 := IntWalk.i64_in _ (by omega)
        have e1 : IntKind.i64.wrap ((n : Int) + 1) = (n : Int) + 1 := IntWalk.i64_in _ (by omega)
        have KO := Lib.hid (rOpen_any x _ _ S O sc oc wr hat)
        rw [mk_len] at KO
        have KF := Lib.hid (fun (z : Int) (W : World) (h : RefAt W x a.ls[k].ss (mk a.ls[k].os a.ls[k].fl) S sc O oc) => rFall_any x _ _ _ S O sc oc z W h hrm hok.2.1)
        have HX := Lib.hid hx
        have HOK := Lib.hid hok
        have HAT := Lib.hid hat
        have HKF := Lib.hid hkf
        clear hok hox hat hbo hx hrm
        generalize hl : a.ls[k] = l at *
        clear hl e9
        by_cases hos : l.os = []
        · have HOS := Lib.hid hos
          rw [if_pos hos, set_self HG.out] at HS
          rw [if_pos hos] at HRS
          have hl0 : (l.os.length : Int) = 0 := by rw [hos]; rfl
          rw [hl0] at KO
          clear hos hl0
          go_wp2_with fail
          refine KO.out.mono ?_
          rintro e w' ⟨rfl, rfl⟩
          go_wp2
          go_roundw
          case rel => exact ⟨k + 1, n, by omega, by go_num, rfl, by omega, HRS.out, own1, by rw [HS.out]; exact HM.out, HF.out⟩
          case measure => simp [intOf]; omega
        · rw [if_neg hos] at HS HRS
          have hl0 : ((l.os.length : Int) == 0) = false := by
            rw [beq_eq_false_iff_ne]
            intro h
            apply hos
            apply List.eq_nil_of_length_eq_zero
            omega
          clear hos
          rw [List.tail_drop] at HRS
          by_cases hn0 : n < ks.length
          · have hn0' : (n : Int) < (ks.length : Int) := by omega
            obtain ⟨kb, ko, rfl, hkc1⟩ := (HK.out wr own1 HF.out).at_ hn0
            have hk0 := hkc1 n hn0
            unfold I6 at hk0
            have HH := Lib.hid (show (ks.drop n).headD 0 = ks[n] by rw [List.drop_eq_getElem_cons hn0]; rfl)
            generalize ks[n] = z0 at *
            rw [HH.out] at HS
            clear hkc1
            go_wp2_with fail
            refine KO.out.mono ?_
            rintro e w' ⟨rfl, rfl⟩
            go_wp2_with fail
            refine (KF.out z0 _ HAT.out).mono ?_
            rintro e w5 ⟨rfl, ⟨S', sc', hl5, hn5⟩, hf5⟩
            rw [← fall_takeR] at hl5
            obtain ⟨own2, hm2, hf2⟩ := HM.out.setLine HKF.out HX.out hf5 (l' := l.fall z0) (HOK.out.fall z0) (S' := S') (O' := none) (sc' := sc') (oc' := 0) hl5 (fun q hq => by
              rcases hq with hq | hq
              · exact .inr (hn5 q hq)
              · cases hq)
            have HM2 := Lib.hid hm2
            have HF2 := Lib.hid (HF.out.trans hf2)
            clear hm2 hf2 hl5 hf5 hn5
            go_wp2
            go_roundw
            case rel => exact ⟨k + 1, n + 1, by omega, by go_num, by go_num, by omega, HRS.out, own2, by rw [HS.out]; exact HM2.out, HF2.out⟩
            case measure => simp [intOf]; omega
          · have hd0 : ks.drop n = [] := List.drop_eq_nil_iff.2 (by omega)
            rw [hd0] at HS
            have HS := Lib.hid (show _ = _ from HS.out)
            clear hd0
            go_wp2_with fail
            refine KO.out.mono ?_
            rintro e w' ⟨rfl, rfl⟩
            go_wp2_with fail
            refine (KF.out 0 _ HAT.out).mono ?_
            rintro e w5 ⟨rfl, ⟨S', sc', hl5, hn5⟩, hf5⟩
            rw [← fall_takeR] at hl5
            obtain ⟨own2, hm2, hf2⟩ := HM.out.setLine HKF.out HX.out hf5 (l' := l.fall 0) (HOK.out.fall 0) (S' := S') (O' := none) (sc' := sc') (oc' := 0) hl5 (fun q hq => by
              rcases hq with hq | hq
              · exact .inr (hn5 q hq)
              · cases hq)
            have HM2 := Lib.hid hm2
            have HF2 := Lib.hid (HF.out.trans hf2)
            clear hm2 hf2 hl5 hf5 hn5
            go_wp2
            go_roundw
            case rel => exact ⟨k + 1, n + 1, by omega, by go_num, by go_num, by omega, HRS.out, own2, by rw [HS.out]; exact HM2.out, HF2.out⟩
            case measure => simp [intOf]; omega
      · obtain rfl : k = xs.length := by omega
        rw [HLEN.out, fallenK_all] at HM
        obtain ⟨_, _, _, _, d1, _⟩ := HM.out.cells
        have f1 := HM.out.fz 1
        have HM1 := Lib.hid (HM.out.setOff true)
        obtain ⟨_, _, _, _, _, d2, _⟩ := HM1.out.cells
        have f2 := HM1.out.fz 2
        obtain ⟨_, _, _, _, _, d2', _⟩ := HM.out.cells
        have f2' := HM.out.fz 2
        have HE := Lib.hid (show RPost w m own ⟨GA, gc, xs⟩ (a.crash ks) ((wr.setCell ⟨m, 1, none⟩ (.bool true)).setCell ⟨m, 2, none⟩ (.int .i64 0)) by
          rw [HR.out]
          exact ⟨own1, HM1.out.setFuse 0, (HF.out.trans (rreM_fr HM.out)).trans (rreM_fr HM1.out)⟩)
        simp only at d1 d2 d2'
        go_wp2
        go_end0
        exact ⟨rfl, HE.out⟩
set_option maxRecDepth 100000 in
set_option maxHeartbeats 4000000 in
theorem rmBlown_any (m : Nat) (own : Nat → Nat) (G : MG) (a : AM) (w : World) (h : RMemAt w m own G a) (hr : a.room 1000) (hf : a.fuse ≤ 9223372036854775807) :
    Calls Try.prog 86 #[.pointer (some ⟨m, 0, none⟩)] w fun e w' => e = .returned (.bool (!a.burn.2)) ∧ RPost w m own G a.burn.1 w' := by
  obtain ⟨z, K, kc, _, _, c2, c3, _, _, _, hks, hkl, hkm, hko, hzf⟩ := h.cells
  have f2 := h.fz 2
  by_cases h0 : z < 1
  · have HR := Lib.hid (show a.burn = (a, true) by unfold AM.burn; rw [if_neg (by omega)])
    have HM := Lib.hid h
    clear h hr hks
    go_enter Try.func86, Try.ntmps86
    go_wp2
    go_ret
    exact ⟨ret_bool (by rw [HR.out]; rfl), by rw [HR.out]; exact ⟨own, HM.out, MFr.refl _ _⟩⟩
  · have e1 : IntKind.i64.wrap (z - 1) = z - 1 := IntWalk.i64_in _ (by omega)
    have HM1 := Lib.hid (h.setFuse (z - 1))
    have HF1 := Lib.hid (rreM_fr h (i := 2) (v := .int .i64 (z - 1)))
    by_cases h1 : 0 < z - 1
    · have HR := Lib.hid (show a.burn = ({ a with fuse := max (z - 1) 0 }, true) by unfold AM.burn; rw [if_pos (by omega), if_neg (by omega), show a.fuse - 1 = max (z - 1) 0 by omega])
      clear h hr hks
      go_enter Try.func86, Try.ntmps86
      go_wp2
      go_ret
      exact ⟨ret_bool (by rw [HR.out]; rfl), by rw [HR.out]; exact ⟨own, HM1.out, HF1.out⟩⟩
    · obtain rfl : z = 1 := by omega
      have HR := Lib.hid (show a.burn = ((({ a with fuse := max (1 - 1) 0 } : AM).crash a.keep), false) by unfold AM.burn; rw [if_pos (by omega), if_pos (by omega)]; rfl)
      have KC := Lib.hid (rmCrash_any m own G { a with fuse := max (1 - 1) 0 } a.keep K kc _ HM1.out hr (fun W own' hfr => h.keeps hks hko (HF1.out.trans hfr)) hkl hkm)
      have c3' := (World.cell?_of_block (a := ⟨m, 3, none⟩) (w := w) (w' := w) rfl).trans c3
      clear h hr hks hko h0 h1 hzf c3'
      have e2 : ((1 : Int) - 1) = 0 := rfl
      rw [e2] at *
      go_enter Try.func86, Try.ntmps86
      go_wp2_with fail
      refine KC.out.mono ?_
      rintro e w2 ⟨rfl, hp⟩
      have HP := Lib.hid (RPost.trans HF1.out hp)
      clear hp
      go_wp2
      go_ret
      exact ⟨ret_bool (by rw [HR.out]; rfl), by rw [HR.out]; exact HP.out⟩
end Go.Proofs.Ytoifejinppjeeaa
