/- The walks of package pmem: Crash, burn, Store. Conditions: those of MemAt; room in the lines. -/
import Derived.Test.YtoifejinppjeeaaPmW1
namespace Go.Proofs.Ytoifejinppjeeaa
open Go.RowKit
set_option linter.unusedVariables false
set_option linter.unusedSimpArgs false
/-- What a call leaves of a memory. -/
def MPost (w : World) (m : Nat) (own : Nat → Nat) (G : MG) (a' : AM) (w' : World) : Prop := ∃ own', MemAt w' m own' G a' ∧ MFr w w' own own'
theorem MPost.trans {w w1 w2 : World} {m : Nat} {own own1 : Nat → Nat} {G : MG} {a2 : AM} (h : MFr w w1 own own1) (k : MPost w1 m own1 G a2 w2) : MPost w m own G a2 w2 := by
  obtain ⟨o, h1, h2⟩ := k
  exact ⟨o, h1, h.trans h2⟩
theorem ln_eq {a : AM} {i : Nat} (hi : i < a.ls.length) : a.ln i = a.ls[i] := by unfold AM.ln; rw [List.getD_eq_getElem?_getD, List.getElem?_eq_getElem hi]; rfl
/-- The lines when k of them have fallen. -/
def fallenK (ls : List Ln) (ks : List Int) (k : Nat) : List Ln := crashL ks (ls.take k) ++ ls.drop k
theorem fallenK_zero (ls : List Ln) (ks : List Int) : fallenK ls ks 0 = ls := rfl
theorem fallenK_all (ls : List Ln) (ks : List Int) : fallenK ls ks ls.length = crashL ks ls := by unfold fallenK; rw [List.take_length, List.drop_length, List.append_nil]
theorem fallenK_len (ls : List Ln) (ks : List Int) (k : Nat) (h : k ≤ ls.length) : (fallenK ls ks k).length = ls.length := by unfold fallenK; rw [List.length_append, crashL_len, List.length_take, List.length_drop]; omega
theorem fallenK_get (ls : List Ln) (ks : List Int) (k : Nat) (h : k < ls.length) : (fallenK ls ks k)[k]? = ls[k]? := by
  unfold fallenK
  rw [List.getElem?_append_right (by rw [crashL_len, List.length_take]; omega), crashL_len, List.length_take, Nat.min_eq_left (by omega), Nat.sub_self, List.getElem?_drop, Nat.add_zero]
theorem fallenK_succ (ls : List Ln) (ks : List Int) (k : Nat) (h : k < ls.length) : fallenK ls ks (k + 1) = (fallenK ls ks k).set k (if ls[k].os = [] then ls[k] else ls[k].fall ((restK ks (ls.take k)).headD 0)) := by
  have h1 : (crashL ks (ls.take k)).length = k := by rw [crashL_len, List.length_take]; omega
  unfold fallenK
  rw [List.take_succ_eq_append_getElem h, crashL_append, List.set_append_right (h := by omega), h1, Nat.sub_self, List.drop_eq_getElem_cons h, List.set_cons_zero, List.append_assoc]
  congr 1
  simp only [crashL]
  split <;> rfl
theorem restK_succ (ls : List Ln) (ks : List Int) (k : Nat) (h : k < ls.length) : restK ks (ls.take (k + 1)) = if ls[k].os = [] then restK ks (ls.take k) else (restK ks (ls.take k)).tail := by
  rw [List.take_succ_eq_append_getElem h, restK_append]
  simp only [restK]
theorem set_self {α : Type} {l : List α} {k : Nat} {x : α} (h : l[k]? = some x) : l.set k x = l := by
  apply List.ext_getElem?
  intro j
  rw [List.getElem?_set]
  split
  · rename_i e
    subst e
    rw [h]
    rw [if_pos (List.getElem?_eq_some_iff.1 h).1]
  · rfl
set_option maxRecDepth 100000 in
set_option maxHeartbeats 4000000 in
theorem mCrash_any (m : Nat) (own : Nat → Nat) (G : MG) (a : AM) (ks : List Int) (K : Option Addr) (kc : Nat) (w : World) (h : MemAt w m own G a) (hr : a.room 1000) (hk : ∀ W own', MFr w W own own' → RdF I6 W K ks) (hkc : ks.length ≤ kc) (hkm : kc ≤ maxLen) :
    Calls Try.prog 31 #[.pointer (some ⟨m, 0, none⟩), .slice K ks.length kc] w fun e w' => e = .returned (.tuple #[]) ∧ MPost w m own G (a.crash ks) w' := by
  unfold maxLen at hkm
  obtain ⟨GA, gc, xs⟩ := G
  cases ho : a.off with
  | true =>
    obtain ⟨_, _, _, c1, _⟩ := h.cells
    have HR := Lib.hid (show a.crash ks = a by unfold AM.crash; rw [if_pos ho])
    have HM := Lib.hid h
    rw [ho] at c1
    clear h ho hk
    go_enter Try.func31, Try.ntmps31
    go_wp2
    refine bodyPost_ret (v := .tuple #[]) ?_ rfl ⟨rfl, own, by rw [HR.out]; exact HM.out, MFr.refl _ _⟩
    unfold results
    rw [show Try.f31.results = #[] from rfl]
    go_simp
    try rfl
  | false =>
    obtain ⟨_, _, _, c1, c2, _⟩ := h.cells
    rw [ho] at c1
    have f1 := h.fz 1
    have f2 := h.fz 2
    have f2' := (h.setOff true).fz 2
    obtain ⟨_, _, _, _, c2', _⟩ := (h.setOff true).cells
    simp only at c2'
    have HM := Lib.hid ((h.setOff true).setFuse 0)
    have HF := Lib.hid ((reM_fr h (i := 1) (v := .bool true)).trans (reM_fr (h.setOff true) (i := 2) (v := .int .i64 0)))
    have HR := Lib.hid (show a.crash ks = { a with off := true, fuse := 0, ls := crashL ks a.ls } by unfold AM.crash; rw [if_neg (by rw [ho]; exact Bool.false_ne_true)])
    obtain ⟨_, _, d0, _⟩ := HM.out.cells
    have HK := Lib.hid hk
    have HRM := Lib.hid hr
    have HLEN := Lib.hid (show xs.length = a.ls.length from h.len)
    have hfew := h.few
    rw [← HLEN.out] at hfew
    clear h hk hr ho
    go_enter Try.func31, Try.ntmps31
    go_wp2
    generalize (w.setCell ⟨m, 1, none⟩ (.bool true)).setCell ⟨m, 2, none⟩ (.int .i64 0) = w1 at *
    clear c1 c2 f1 f2 f2' c2'
    go_loopw [1, 22] (fun s i wr => ∃ (k : Nat) (KA : Option Addr) (kd n : Nat), k ≤ xs.length ∧ i = .int .i64 k ∧ s = .slice KA n kd ∧ n = (restK ks (a.ls.take k)).length ∧ n ≤ kd ∧ kd ≤ kc ∧ (∀ W own', MFr w W own own' → RdF I6 W KA (restK ks (a.ls.take k))) ∧ ∃ own', MemAt wr m own' ⟨GA, gc, xs⟩ { a with off := true, fuse := 0, ls := fallenK a.ls ks k } ∧ MFr w wr own own') (fun _ i _ => xs.length - (intOf i).toNat)
    case atStart => exact ⟨0, K, kc, ks.length, Nat.zero_le _, rfl, rfl, rfl, hkc, Nat.le_refl _, HK.out, own, HM.out, HF.out⟩
    case round =>
      clear d0 HM HF
      obtain ⟨k, KA, kd, n, hk, rfl, rfl, hn, hnd, hkd, hks, own1, hm, hf⟩ := hrel
      have HN := Lib.hid hn
      have HKS := Lib.hid hks
      have HM := Lib.hid hm
      have HF := Lib.hid hf
      clear hn hks hm hf
      obtain ⟨_, _, d0, _⟩ := HM.out.cells
      by_cases hlt : k < xs.length
      · have hka : k < a.ls.length := by rw [← HLEN.out]; exact hlt
        have hkf : k < (fallenK a.ls ks k).length := by rw [fallenK_len _ _ _ (Nat.le_of_lt hka)]; exact hka
        have e9 : (fallenK a.ls ks k)[k] = a.ls[k] := by
          have h := fallenK_get a.ls ks k hka
          rw [List.getElem?_eq_getElem hkf, List.getElem?_eq_getElem hka] at h
          exact Option.some.inj h
        obtain ⟨b, off, x, rfl, hx, hc, hln⟩ := HM.out.at_ (i := k) hkf
        rw [ln_eq (a := { a with off := true, fuse := 0, ls := fallenK a.ls ks k }) hkf] at hln
        have hln : LnAt wr own1 k x a.ls[k] := by
          have e := e9
          simp only at hln
          rw [e] at hln
          exact hln
        obtain ⟨hok, hox, B, d, hat, hbo⟩ := hln
        have hrm := HRM.out a.ls[k] (List.getElem_mem _)
        have HS := Lib.hid (fallenK_succ a.ls ks k hka)
        have HRS := Lib.hid (restK_succ a.ls ks k hka)
        have HG := Lib.hid (fallenK_get a.ls ks k hka)
        rw [List.getElem?_eq_getElem hka] at HG
        have e0 : IntKind.i64.wrap ((k : Int) + 1) = (k : Int) + 1 := IntWalk.i64_in _ (by omega)
        have KO := Lib.hid (lOpen_any x _ _ B d _ wr hat)
        have KF := Lib.hid (fun (z : Int) (W : World) (h : LineAt W x a.ls[k].ss a.ls[k].os B d (a.ls[k].fl : Int)) => lFall_any x _ _ B d _ z W h hrm hok.2.1)
        have HX := Lib.hid hx
        have HOK := Lib.hid hok
        have HAT := Lib.hid hat
        have HBO := Lib.hid hbo
        have HOX := Lib.hid hox
        have HKF := Lib.hid hkf
        clear hok hox hat hbo hx hrm
        generalize hl : a.ls[k] = l at *
        clear hl
        by_cases hos : l.os = []
        · have HOS := Lib.hid hos
          rw [if_pos hos, set_self HG.out] at HS
          rw [if_pos hos] at HRS
          have hl0 : (l.os.length : Int) = 0 := by rw [hos]; rfl
          rw [hl0] at KO
          clear hos hl0
          go_wp2_with fail
          refine KO.out.mono ?_
          rintro e w' ⟨rfl, rfl⟩
          go_wp2
          go_roundw
          case rel => exact ⟨k + 1, KA, kd, n, by omega, by go_num, rfl, by rw [HRS.out]; exact HN.out, hnd, hkd, by rw [HRS.out]; exact HKS.out, own1, by rw [HS.out]; exact HM.out, HF.out⟩
          case measure => simp [intOf]; omega
        · rw [if_neg hos] at HS HRS
          have hl0 : ((l.os.length : Int) == 0) = false := by
            rw [beq_eq_false_iff_ne]
            intro h
            apply hos
            apply List.eq_nil_of_length_eq_zero
            omega
          clear hos
          generalize hrs : restK ks (a.ls.take k) = rs at *
          have hrl := HN.out
          by_cases hn0 : 0 < n
          · have hn0' : 0 < (n : Int) := by omega
            obtain ⟨kb, ko, rfl, hkc1⟩ := (HKS.out wr own1 HF.out).at_ (show 0 < rs.length by omega)
            have hk0 := hkc1 0 (by omega)
            rw [Nat.add_zero] at hk0
            unfold I6 at hk0
            have HH := Lib.hid (show rs.headD 0 = rs[0]'(by omega) by cases rs with
              | nil => simp at hrl; omega
              | cons y ys => rfl)
            generalize rs[0]'(by omega) = z0 at *
            rw [HH.out] at HS
            have HCUT := Lib.hid (fun (W : World) (own' : Nat → Nat) (h : MFr w W own own') => (HKS.out W own' h).cut (show rs.length ≤ kd by omega) 1)
            unfold cutA at HCUT
            have HTL := Lib.hid (show rs.tail.length = n - 1 by rw [List.length_tail, hrl])
            rw [List.drop_one] at HCUT
            have HN2 := Lib.hid hrl
            subst hrl
            by_cases hkd1 : kd = 1
            · simp only [if_pos hkd1] at HCUT
              subst hkd1
              go_wp2_with fail
              refine KO.out.mono ?_
              rintro e w' ⟨rfl, rfl⟩
              go_wp2
              go_quiet (fail)
              have HAT1 := Lib.hid (HAT.out.below (Drawn.below (Drawn.some_ wr nq) _))
              have HM1 := Lib.hid (HM.out.drewN nq)
              have HF1 := Lib.hid (HF.out.trans (MFr.of_below own1 (Drawn.below (Drawn.some_ wr nq) wr.heap.size)))
              go_wp2_with fail
              refine (KF.out z0 _ HAT1.out).mono ?_
              rintro e w5 ⟨rfl, hl5, hf5⟩
              obtain ⟨own2, hm2, hf2⟩ := HM1.out.setLine HKF.out HX.out (q0 := none) (fun q hq => by cases hq) hf5 (HOK.out.fall z0) (B' := none) (d' := 0) hl5 (fun q hq => by cases hq)
              have HM2 := Lib.hid hm2
              have HF2 := Lib.hid (HF1.out.trans hf2)
              clear hm2 hf2 hl5 hf5 HAT1 HM1 HF1
              go_wp2
              go_roundw
              case rel => exact ⟨k + 1, _, 0, 0, by omega, by go_num, rfl, by rw [HRS.out, HTL.out]; omega, by omega, by omega, by rw [HRS.out]; exact HCUT.out, own2, by rw [HS.out]; exact HM2.out, HF2.out⟩
              case measure => simp [intOf]; omega
            · simp only [if_neg hkd1] at HCUT
              go_wp2_with fail
              refine KO.out.mono ?_
              rintro e w' ⟨rfl, rfl⟩
              go_wp2
              go_quiet (fail)
              have HAT1 := Lib.hid (HAT.out.below (Drawn.below (Drawn.some_ wr nq) _))
              have HM1 := Lib.hid (HM.out.drewN nq)
              have HF1 := Lib.hid (HF.out.trans (MFr.of_below own1 (Drawn.below (Drawn.some_ wr nq) wr.heap.size)))
              go_wp2_with fail
              refine (KF.out z0 _ HAT1.out).mono ?_
              rintro e w5 ⟨rfl, hl5, hf5⟩
              obtain ⟨own2, hm2, hf2⟩ := HM1.out.setLine HKF.out HX.out (q0 := none) (fun q hq => by cases hq) hf5 (HOK.out.fall z0) (B' := none) (d' := 0) hl5 (fun q hq => by cases hq)
              have HM2 := Lib.hid hm2
              have HF2 := Lib.hid (HF1.out.trans hf2)
              clear hm2 hf2 hl5 hf5 HAT1 HM1 HF1
              go_wp2
              go_roundw
              case rel => exact ⟨k + 1, _, _, rs.length - 1, by omega, by go_num, rfl, by rw [HRS.out]; exact HTL.out.symm, by omega, by omega, by rw [HRS.out]; exact HCUT.out, own2, by rw [HS.out]; exact HM2.out, HF2.out⟩
              case measure => simp [intOf]; omega
          · have hrs0 : rs = [] := List.eq_nil_of_length_eq_zero (by omega)
            obtain rfl : n = 0 := by omega
            have HRN := Lib.hid (show restK ks (a.ls.take (k + 1)) = [] by rw [HRS.out, hrs0]; rfl)
            rw [hrs0] at HS
            have HS := Lib.hid (show _ = _ from HS.out)
            clear hrl hrs0 HN HKS HRS
            go_wp2_with fail
            refine KO.out.mono ?_
            rintro e w' ⟨rfl, rfl⟩
            have HAT1 := HAT
            have HM1 := HM
            have HF1 := HF
            go_wp2_with fail
            refine (KF.out 0 _ HAT1.out).mono ?_
            rintro e w5 ⟨rfl, hl5, hf5⟩
            obtain ⟨own2, hm2, hf2⟩ := HM1.out.setLine HKF.out HX.out (q0 := none) (fun q hq => by cases hq) hf5 (HOK.out.fall 0) (B' := none) (d' := 0) hl5 (fun q hq => by cases hq)
            have HM2 := Lib.hid hm2
            have HF2 := Lib.hid (HF1.out.trans hf2)
            clear hm2 hf2 hl5 hf5 HAT1 HM1 HF1
            go_wp2
            go_roundw
            case rel => exact ⟨k + 1, KA, kd, 0, by omega, by go_num, rfl, by rw [HRN.out]; rfl, by omega, hkd, by rw [HRN.out]; exact fun _ _ _ => .inl rfl, own2, by rw [HS.out]; exact HM2.out, HF2.out⟩
            case measure => simp [intOf]; omega
      · obtain rfl : k = xs.length := by omega
        have HE := Lib.hid (show MemAt wr m own1 ⟨GA, gc, xs⟩ (a.crash ks) by
          have h := HM.out
          rw [HLEN.out, fallenK_all] at h
          rw [HR.out]
          exact h)
        go_wp2
        go_end0
        exact ⟨rfl, own1, HE.out, HF.out⟩
/-- Room for another store. -/
theorem crash_room {a : AM} {n : Nat} (h : a.room n) (ks : List Int) : (a.crash ks).room n := by
  unfold AM.crash
  split
  · exact h
  · have key : ∀ (ls : List Ln) (ks : List Int), (∀ l ∈ ls, l.os.length ≤ n) → ∀ l ∈ crashL ks ls, l.os.length ≤ n := by
      intro ls
      induction ls with
      | nil => intro ks h l hl; cases hl
      | cons x ls ih =>
        intro ks h l hl
        simp only [crashL] at hl
        split at hl
        · rcases List.mem_cons.1 hl with e | e
          · subst e; exact h _ (List.mem_cons_self ..)
          · exact ih ks (fun y hy => h y (List.mem_cons_of_mem _ hy)) l e
        · rcases List.mem_cons.1 hl with e | e
          · subst e; exact Nat.zero_le _
          · exact ih _ (fun y hy => h y (List.mem_cons_of_mem _ hy)) l e
    exact key a.ls ks h
theorem burn_room {a : AM} {n : Nat} (h : a.room n) : a.burn.1.room n := by
  unfold AM.burn
  split
  · split
    · exact crash_room (a := { a with fuse := 0 }) h _
    · exact h
  · exact h
set_option maxRecDepth 100000 in
set_option maxHeartbeats 4000000 in
theorem mBurn_any (m : Nat) (own : Nat → Nat) (G : MG) (a : AM) (w : World) (h : MemAt w m own G a) (hr : a.room 1000) (hf : a.fuse ≤ 9223372036854775807) :
    Calls Try.prog 73 #[.pointer (some ⟨m, 0, none⟩)] w fun e w' => e = .returned (.bool a.burn.2) ∧ MPost w m own G a.burn.1 w' := by
  obtain ⟨K, kc, _, _, c2, c3, _, _, _, hks, hkl, hkm, hko⟩ := h.cells
  have f2 := h.fz 2
  by_cases h0 : 0 < a.fuse
  · by_cases h1 : a.fuse = 1
    · have HR := Lib.hid (show a.burn = ((({ a with fuse := 0 } : AM).crash a.keep), false) by unfold AM.burn; rw [if_pos h0, if_pos h1])
      have HM := Lib.hid (h.setFuse 0)
      have HF := Lib.hid (reM_fr h (i := 2) (v := .int .i64 0))
      have KC := Lib.hid (mCrash_any m own G { a with fuse := 0 } a.keep K kc _ (h.setFuse 0) hr (fun W own' hfr => h.keeps hks hko (HF.out.trans hfr)) hkl hkm)
      rw [h1] at c2
      clear h h0 h1 hr hf hks hko
      go_enter Try.func73, Try.ntmps73
      go_wp2_with fail
      refine KC.out.mono ?_
      rintro e w2 ⟨rfl, hp⟩
      have HP := Lib.hid (MPost.trans HF.out hp)
      clear hp
      go_wp2
      go_ret
      exact ⟨ret_bool (by rw [HR.out]), by rw [HR.out]; exact HP.out⟩
    · have HR := Lib.hid (show a.burn = ({ a with fuse := a.fuse - 1 }, true) by unfold AM.burn; rw [if_pos h0, if_neg h1])
      have HP := Lib.hid (show MPost w m own G { a with fuse := a.fuse - 1 } (w.setCell ⟨m, 2, none⟩ (.int .i64 (a.fuse - 1))) from ⟨own, h.setFuse _, reM_fr h⟩)
      have e1 : IntKind.i64.wrap (a.fuse - 1) = a.fuse - 1 := IntWalk.i64_in _ (by omega)
      have h9 : ((a.fuse - 1) == 0) = false := by rw [beq_eq_false_iff_ne]; omega
      clear h hr
      go_enter Try.func73, Try.ntmps73
      go_wp2
      go_ret
      exact ⟨ret_bool (by rw [HR.out]), by rw [HR.out]; exact HP.out⟩
  · have HR := Lib.hid (show a.burn = (a, true) by unfold AM.burn; rw [if_neg h0])
    have HM := Lib.hid h
    clear h hr
    go_enter Try.func73, Try.ntmps73
    go_wp2
    go_ret
    exact ⟨ret_bool (by rw [HR.out]), by rw [HR.out]; exact ⟨own, HM.out, MFr.refl _ _⟩⟩
end Go.Proofs.Ytoifejinppjeeaa
