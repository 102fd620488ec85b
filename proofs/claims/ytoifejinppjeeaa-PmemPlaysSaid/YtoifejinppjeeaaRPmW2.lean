/- The walks of the reference's memory: Load, Store, Flush, Fence, Fuse, Words. Conditions: those of RMemAt; room in the lines; small counts. -/
import Derived.Test.YtoifejinppjeeaaRPmW
import Derived.Test.YtoifejinppjeeaaSpanFrame
import Derived.Test.YtoifejinppjeeaaRegion2
namespace Go.Proofs.Ytoifejinppjeeaa
open Go.RowKit
set_option linter.unusedVariables false
set_option linter.unusedSimpArgs false
set_option maxRecDepth 100000 in
theorem rmLoad_any {w : World} {m : Nat} {own : Nat → Nat} {G : MG} {a : AM} (h : RMemAt w m own G a) (z : Int) (hr : a.room 1000) : Calls Try.prog 46 #[.pointer (some ⟨m, 0, none⟩), .int .i64 z] w fun e w' => e = .returned (.tuple #[U (a.load z).1, .int .i64 (a.load z).2]) ∧ w' = w := by
  obtain ⟨_, K, kc, c0, c1, _⟩ := h.cells
  cases ho : a.off with
  | true =>
    have HR := Lib.hid (show a.load z = (0#64, 14) by unfold AM.load; rw [if_pos ho])
    rw [ho] at c1
    clear h ho
    go_enter Try.func46, Try.ntmps46
    go_wp2
    refine bodyPost_ret (v := .tuple #[U 0#64, .int .i64 14]) ?_ rfl ⟨by rw [HR.out], rfl⟩
    unfold results
    rw [show Try.f46.results = #[.tmp 4, .tmp 5] from rfl]
    go_simp
    try rfl
  | false =>
    rw [ho] at c1
    have hf := h.few
    have hxl := h.len
    have w8 : IntKind.i64.wrap (8 * (G.xs.length : Int)) = 8 * (G.xs.length : Int) := IntWalk.i64_in _ (by omega)
    cases hh : a.has z with
    | false =>
      have HR := Lib.hid (show a.load z = (0#64, 1) by unfold AM.load; rw [if_neg (by rw [ho]; exact Bool.false_ne_true), if_pos hh])
      have hz := has_no hh
      by_cases z0 : z < 0
      · clear h ho hh
        go_enter Try.func46, Try.ntmps46
        go_wp2
        refine bodyPost_ret (v := .tuple #[U 0#64, .int .i64 1]) ?_ rfl ⟨by rw [HR.out], rfl⟩
        unfold results
        rw [show Try.f46.results = #[.tmp 4, .tmp 5] from rfl]
        go_simp
        try rfl
      · have z1 : 8 * (G.xs.length : Int) ≤ z := by omega
        clear h ho hh hxl hf
        go_enter Try.func46, Try.ntmps46
        go_wp2
        refine bodyPost_ret (v := .tuple #[U 0#64, .int .i64 1]) ?_ rfl ⟨by rw [HR.out], rfl⟩
        unfold results
        rw [show Try.f46.results = #[.tmp 4, .tmp 5] from rfl]
        go_simp
        try rfl
    | true =>
      have HR := Lib.hid (show a.load z = (a.at_ z, 0) by unfold AM.load; rw [if_neg (by rw [ho]; exact Bool.false_ne_true), if_neg (by rw [hh]; exact fun h => by cases h)])
      obtain ⟨hz0, hz1⟩ := has_yes hh
      obtain ⟨i, hi⟩ : ∃ i : Nat, z / 8 = (i : Int) := ⟨(z / 8).toNat, by omega⟩
      obtain ⟨j, hj⟩ : ∃ j : Nat, z % 8 = (j : Int) := ⟨(z % 8).toNat, by omega⟩
      have hil : i < a.ls.length := by omega
      obtain ⟨b, off, x, hA, hx, hc, hln⟩ := h.at_ hil
      obtain ⟨hok, _, S, sc, O, oc, hat, _⟩ := hln
      have KL := Lib.hid (rLoad_any x _ _ _ S O sc oc (j : Int) w hat (hr _ (List.getElem_mem _)))
      have HV := Lib.hid (show a.at_ z = newest a.ls[i].ss a.ls[i].os (j : Int) by unfold AM.at_; rw [hi, hj, Int.toNat_natCast, ln_eq hil]; rfl)
      have hlx : i < G.xs.length := h.xlen hil
      rw [hA] at c0
      have e1 : IntKind.i64.wrap (z.tdiv 8) = (i : Int) := by rw [Int.tdiv_eq_ediv_of_nonneg hz0, hi]; exact IntWalk.i64_in _ (by omega)
      have e2 : IntKind.i64.wrap (z.tmod 8) = (j : Int) := by rw [Int.tmod_eq_emod_of_nonneg hz0, hj]; exact IntWalk.i64_in _ (by omega)
      have hlx' : (i : Int) < (G.xs.length : Int) := by omega
      have z1 : z < 8 * (G.xs.length : Int) := by omega
      clear h ho hh hA hx hok hat hf hr hxl
      generalize newest a.ls[i].ss a.ls[i].os (j : Int) = v at *
      go_enter Try.func46, Try.ntmps46
      go_wp2_with fail
      refine KL.out.mono ?_
      rintro e w' ⟨rfl, rfl⟩
      go_wp2
      refine bodyPost_ret (v := .tuple #[U v, .int .i64 0]) ?_ rfl ⟨by rw [HR.out, HV.out], rfl⟩
      unfold results
      rw [show Try.f46.results = #[.tmp 4, .tmp 5] from rfl]
      go_simp
      try rfl
set_option maxRecDepth 100000 in
set_option maxHeartbeats 4000000 in
theorem rmStore_any (m : Nat) (own : Nat → Nat) (G : MG) (a : AM) (z : Int) (v : BitVec 64) (w : World) (h : RMemAt w m own G a) (hr : a.room 1000) (hf : a.fit) :
    Calls Try.prog 40 #[.pointer (some ⟨m, 0, none⟩), .int .i64 z, U v] w fun e w' => e = .returned (.int .i64 (a.store z v).2) ∧ RPost w m own G (a.store z v).1 w' := by
  obtain ⟨_, _, _, c0, c1, _⟩ := h.cells
  cases ho : a.off with
  | true =>
    have HR := Lib.hid (show a.store z v = (a, 14) by unfold AM.store; rw [if_pos ho])
    have HM := Lib.hid h
    rw [ho] at c1
    clear h ho hr hf
    go_enter Try.func40, Try.ntmps40
    go_wp2
    go_ret
    exact ⟨ret_int (by rw [HR.out]), by rw [HR.out]; exact ⟨own, HM.out, MFr.refl _ _⟩⟩
  | false =>
    have hof : ¬ a.off = true := by rw [ho]; exact Bool.false_ne_true
    rw [ho] at c1
    have hfew := h.few
    have hxl := h.len
    have w8 : IntKind.i64.wrap (8 * (G.xs.length : Int)) = 8 * (G.xs.length : Int) := IntWalk.i64_in _ (by omega)
    cases hh : a.has z with
    | false =>
      have HR := Lib.hid (show a.store z v = (a, 1) by unfold AM.store; rw [if_neg hof, if_pos hh])
      have HM := Lib.hid h
      have hz := has_no hh
      by_cases z0 : z < 0
      · clear h ho hh hof hr hf
        go_enter Try.func40, Try.ntmps40
        go_wp2
        go_ret
        exact ⟨ret_int (by rw [HR.out]), by rw [HR.out]; exact ⟨own, HM.out, MFr.refl _ _⟩⟩
      · have z1 : 8 * (G.xs.length : Int) ≤ z := by omega
        clear h ho hh hof hr hf hxl hfew
        go_enter Try.func40, Try.ntmps40
        go_wp2
        go_ret
        exact ⟨ret_int (by rw [HR.out]), by rw [HR.out]; exact ⟨own, HM.out, MFr.refl _ _⟩⟩
    | true =>
      have hhf : ¬ a.has z = false := by rw [hh]; exact fun h => by cases h
      have KB := Lib.hid (rmBlown_any m own G a w h hr hf.f1)
      obtain ⟨hz0, hz1⟩ := has_yes hh
      have z1 : z < 8 * (G.xs.length : Int) := by omega
      cases hb : a.burn.2 with
      | false =>
        have HR := Lib.hid (show a.store z v = (a.burn.1, 14) by unfold AM.store; rw [if_neg hof, if_neg hhf, if_pos hb])
        rw [hb] at KB
        clear h ho hh hof hhf hb hr hf hxl hfew
        generalize a.burn.1 = a1 at *
        go_enter Try.func40, Try.ntmps40
        go_wp2_with fail
        refine KB.out.mono ?_
        rintro e w1 ⟨rfl, hp⟩
        have HP := Lib.hid hp
        clear hp
        go_wp2
        go_ret
        exact ⟨ret_int (by rw [HR.out]), by rw [HR.out]; exact HP.out⟩
      | true =>
        have HR := Lib.hid (show a.store z v = (a.burn.1.store1 z v, 0) by unfold AM.store; rw [if_neg hof, if_neg hhf, if_neg (by rw [hb]; exact fun h => by cases h)])
        rw [hb] at KB
        have hr1 := burn_room hr
        have hl1 := burn_len a
        have hn1 := (burn_n a).1
        have hc1 := hf.c1
        obtain ⟨i, hi⟩ : ∃ i : Nat, z / 8 = (i : Int) := ⟨(z / 8).toNat, by omega⟩
        obtain ⟨j, hj⟩ : ∃ j : Nat, z % 8 = (j : Int) := ⟨(z % 8).toNat, by omega⟩
        have hil : i < a.burn.1.ls.length := by omega
        have HS := Lib.hid (show a.burn.1.store1 z v = { a.burn.1 with n1 := a.burn.1.n1 + 1, ls := a.burn.1.ls.set i ((a.burn.1.ls[i]).store (j : Int) v) } by unfold AM.store1; rw [hi, hj, Int.toNat_natCast, ln_eq hil])
        have HIL := Lib.hid hil
        have hj8 : (j : Int) < 8 := by omega
        have hix : (i : Int) < (G.xs.length : Int) := by omega
        have e1 : IntKind.i64.wrap (z.tdiv 8) = (i : Int) := by rw [Int.tdiv_eq_ediv_of_nonneg hz0, hi]; exact IntWalk.i64_in _ (by omega)
        have e2 : IntKind.i64.wrap (z.tmod 8) = (j : Int) := by rw [Int.tmod_eq_emod_of_nonneg hz0, hj]; exact IntWalk.i64_in _ (by omega)
        rw [← hn1] at hc1
        have e3 : IntKind.i64.wrap (a.burn.1.n1 + 1) = a.burn.1.n1 + 1 := IntWalk.i64_in _ (by omega)
        have HR1 := Lib.hid hr1
        clear hz1 h ho hh hof hhf hb hr hf hl1 hn1 hr1 hfew hxl
        generalize a.burn.1 = a1 at *
        obtain ⟨GA, gc, xs⟩ := G
        simp only at hix z1 w8 c0
        go_enter Try.func40, Try.ntmps40
        go_wp2_with fail
        refine KB.out.mono ?_
        rintro e w0 ⟨rfl, own1, hm1, hf1⟩
        obtain ⟨_, _, _, _, _, _, _, d4, _⟩ := hm1.cells
        have f4 := hm1.fz 4
        have HF1 := Lib.hid (hf1.trans (rreM_fr hm1 (i := 4) (v := .int .i64 (a1.n1 + 1))))
        have HM1 := Lib.hid (hm1.setN1 (a1.n1 + 1))
        have HRT := Lib.hid (show RMemAt (w0.setCell ⟨m, 4, none⟩ (.int .i64 (a1.n1 + 1))) m own1 ⟨GA, gc, xs⟩ { a1 with n1 := a1.n1 + 1 } from HM1.out)
        obtain ⟨_, _, _, d0', _⟩ := HM1.out.cells
        obtain ⟨b, off, x, rfl, hx, hc, hln⟩ := HM1.out.at_ HIL.out
        have d0 : w0.cell? ⟨m, 0, none⟩ = some (.slice (some ⟨b, off, none⟩) xs.length gc) := hm1.cells.choose_spec.choose_spec.choose_spec.1
        clear hm1 hf1
        have hok := hln.1
        obtain ⟨_, _, S, sc, O, oc, hat, hbo⟩ := hln
        have KS := Lib.hid (rStore_any x _ _ S O sc oc (j : Int) v _ hat (by rw [mk_len]; exact HR1.out _ (List.getElem_mem _)))
        rw [if_pos ⟨by omega, hj8⟩] at KS
        have HPU := Lib.hid (mk_push (a1.ls[i]'HIL.out).os (a1.ls[i]'HIL.out).fl ((j : Int), v) hok.2.2)
        have HB0 := Lib.hid (fun q hq => hbo q hq)
        have HSL := Lib.hid (fun q hq => hat.slt q hq)
        have HOL := Lib.hid (fun q hq => hat.olt q hq)
        have HX := Lib.hid hx
        have HOK := Lib.hid hok
        try simp only at d0
        try simp only at d0'
        try simp only at hc
        clear hok hat hbo hx HRT
        go_wp2_with fail
        refine KS.out.mono ?_
        rintro e w2 ⟨rfl, ⟨O2, oc2, hl2, hn2⟩, hf2⟩
        try simp only at HPU
        try simp only at hl2
        rw [← HPU.out] at hl2
        obtain ⟨own2, hm2, hf3⟩ := HM1.out.setLine HIL.out HX.out hf2 (l' := (a1.ls[i]'HIL.out).store (j : Int) v) (HOK.out.store ⟨by omega, hj8⟩) hl2 (fun q hq => by
          rcases hq with hq | hq
          · exact .inl ⟨HB0.out q (.inl hq), HSL.out q hq⟩
          · rcases hn2 q hq with h1 | h1
            · exact .inl ⟨HB0.out q (.inr h1), HOL.out q h1⟩
            · exact .inr h1)
        have HP := Lib.hid (show RPost w m own ⟨some ⟨b, off, none⟩, gc, xs⟩ (a1.store1 z v) w2 by
          rw [HS.out]
          exact ⟨own2, hm2, HF1.out.trans hf3⟩)
        clear hl2 hn2 hf2 hm2 hf3
        go_wp2
        go_ret
        exact ⟨ret_int (by rw [HR.out]), by rw [HR.out]; exact HP.out⟩
end Go.Proofs.Ytoifejinppjeeaa
