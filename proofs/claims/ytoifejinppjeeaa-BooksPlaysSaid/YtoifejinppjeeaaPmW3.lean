/- The walks of package pmem: Store, Flush, Fence. Conditions: those of MemAt; room in the lines; small counts. -/
import Derived.Test.YtoifejinppjeeaaPmW2
namespace Go.Proofs.Ytoifejinppjeeaa
open Go.RowKit
set_option linter.unusedVariables false
set_option linter.unusedSimpArgs false
theorem burn_n (a : AM) : a.burn.1.n1 = a.n1 ∧ a.burn.1.n2 = a.n2 ∧ a.burn.1.n3 = a.n3 := by
  unfold AM.burn AM.crash
  split
  · split
    · split <;> exact ⟨rfl, rfl, rfl⟩
    · exact ⟨rfl, rfl, rfl⟩
  · exact ⟨rfl, rfl, rfl⟩
/-- Small counts, a fuse that is an int. -/
structure AM.fit (a : AM) : Prop where
  f1 : a.fuse ≤ 9223372036854775807
  c1 : 0 ≤ a.n1 ∧ a.n1 ≤ 1000000
  c2 : 0 ≤ a.n2 ∧ a.n2 ≤ 1000000
  c3 : 0 ≤ a.n3 ∧ a.n3 ≤ 1000000
set_option maxRecDepth 100000 in
set_option maxHeartbeats 4000000 in
theorem mStore_any (m : Nat) (own : Nat → Nat) (G : MG) (a : AM) (z : Int) (v : BitVec 64) (w : World) (h : MemAt w m own G a) (hr : a.room 1000) (hf : a.fit) :
    Calls Try.prog 27 #[.pointer (some ⟨m, 0, none⟩), .int .i64 z, U v] w fun e w' => e = .returned (.int .i64 (a.store z v).2) ∧ MPost w m own G (a.store z v).1 w' := by
  obtain ⟨_, _, _, c1, _⟩ := h.cells
  cases ho : a.off with
  | true =>
    have HR := Lib.hid (show a.store z v = (a, 14) by unfold AM.store; rw [if_pos ho])
    have HM := Lib.hid h
    rw [ho] at c1
    clear h ho hr hf
    go_enter Try.func27, Try.ntmps27
    go_wp2
    go_ret
    exact ⟨ret_int (by rw [HR.out]), by rw [HR.out]; exact ⟨own, HM.out, MFr.refl _ _⟩⟩
  | false =>
    have hof : ¬ a.off = true := by rw [ho]; exact Bool.false_ne_true
    rw [ho] at c1
    have KH := Lib.hid (mHas_any h z)
    cases hh : a.has z with
    | false =>
      have HR := Lib.hid (show a.store z v = (a, 1) by unfold AM.store; rw [if_neg hof, if_pos hh])
      have HM := Lib.hid h
      rw [hh] at KH
      clear h ho hh hof hr hf
      go_enter Try.func27, Try.ntmps27
      go_wp2_with fail
      refine KH.out.mono ?_
      rintro e w' ⟨rfl, rfl⟩
      go_wp2
      go_ret
      exact ⟨ret_int (by rw [HR.out]), by rw [HR.out]; exact ⟨own, HM.out, MFr.refl _ _⟩⟩
    | true =>
      have hhf : ¬ a.has z = false := by rw [hh]; exact fun h => by cases h
      rw [hh] at KH
      have KB := Lib.hid (mBurn_any m own G a w h hr hf.f1)
      cases hb : a.burn.2 with
      | false =>
        have HR := Lib.hid (show a.store z v = (a.burn.1, 14) by unfold AM.store; rw [if_neg hof, if_neg hhf, if_pos hb])
        rw [hb] at KB
        clear h ho hh hof hhf hb hr hf
        generalize a.burn.1 = a1 at *
        go_enter Try.func27, Try.ntmps27
        go_wp2_with fail
        refine KH.out.mono ?_
        rintro e w' ⟨rfl, rfl⟩
        go_wp2_with fail
        refine KB.out.mono ?_
        rintro e w1 ⟨rfl, hp⟩
        have HP := Lib.hid hp
        clear hp
        go_wp2
        go_ret
        exact ⟨ret_int (by rw [HR.out]), by rw [HR.out]; exact HP.out⟩
      | true =>
        have HR := Lib.hid (show a.store z v = (a.burn.1.store1 z v, 0) by unfold AM.store; rw [if_neg hof, if_neg hhf, if_neg (by rw [hb]; exact fun h => by cases h)])
        rw [hb] at KB
        have hr1 := burn_room hr
        have hl1 := burn_len a
        have hn1 := (burn_n a).1
        have hc1 := hf.c1
        obtain ⟨hz0, hz1⟩ := has_yes hh
        have hfew := h.few
        obtain ⟨i, hi⟩ : ∃ i : Nat, z / 8 = (i : Int) := ⟨(z / 8).toNat, by omega⟩
        obtain ⟨j, hj⟩ : ∃ j : Nat, z % 8 = (j : Int) := ⟨(z % 8).toNat, by omega⟩
        have hil : i < a.burn.1.ls.length := by omega
        have HS := Lib.hid (show a.burn.1.store1 z v = { a.burn.1 with ls := a.burn.1.ls.set i ((a.burn.1.ln i).store (j : Int) v), n1 := a.burn.1.n1 + 1 } by unfold AM.store1; rw [hi, hj, Int.toNat_natCast])
        have HIL := Lib.hid hil
        have hj8 : (j : Int) < 8 := by omega
        have hxl : G.xs.length = a.burn.1.ls.length := by rw [hl1]; exact h.len
        have hix : (i : Int) < (G.xs.length : Int) := by omega
        rw [← hn1] at hc1
        have hz2 : z < 8192 := by omega
        clear hz1
        have HR1 := Lib.hid hr1
        clear h ho hh hof hhf hb hr hf hl1 hn1 hr1 hfew
        generalize a.burn.1 = a1 at *
        clear hxl hil
        obtain ⟨GA, gc, xs⟩ := G
        simp only at hix
        go_enter Try.func27, Try.ntmps27
        go_wp2_with fail
        refine KH.out.mono ?_
        rintro e w' ⟨rfl, rfl⟩
        go_wp2_with fail
        refine KB.out.mono ?_
        rintro e w1 ⟨rfl, own1, hm1, hf1⟩
        obtain ⟨_, _, d0, _, _, _, d4, _⟩ := hm1.cells
        have f4 := hm1.fz 4
        obtain ⟨b, off, x, rfl, hx, hc, hln⟩ := hm1.at_ HIL.out
        have hok := hln.1
        obtain ⟨_, _, B, d, hat, hbo⟩ := hln
        have KS := Lib.hid (lStore_any x _ _ B d _ (j : Int) v w1 hat (room_ln HR1.out HIL.out))
        rw [if_pos ⟨by omega, hj8⟩] at KS
        have HB0 := Lib.hid (fun q hq => hbo q hq)
        have HBL := Lib.hid (fun q hq => (hat.own.lt q hq).2)
        have HX := Lib.hid hx
        have HOK := Lib.hid hok
        have HM1 := Lib.hid hm1
        have HF1 := Lib.hid hf1
        simp only at d0
        clear hok hat hbo hx hm1 hf1
        go_wp2_with fail
        refine KS.out.mono ?_
        rintro e w2 ⟨rfl, ⟨B2, d2, hl2, hn2⟩, hf2⟩
        obtain ⟨own2, hm2, hf3⟩ := HM1.out.setLine HIL.out HX.out (q0 := blk B) (fun q hq => HB0.out q hq) hf2 (l' := (a1.ln i).store (j : Int) v) (HOK.out.store ⟨by omega, hj8⟩) hl2 (fun q hq => by
          rcases hn2 q hq with h1 | h1
          · exact .inl ⟨HB0.out q h1, HBL.out q h1⟩
          · exact .inr h1)
        obtain ⟨_, _, _, _, _, _, d4, _⟩ := hm2.cells
        have f4 := hm2.fz 4
        have HP := Lib.hid (show MPost w m own ⟨some ⟨b, off, none⟩, gc, xs⟩ (a1.store1 z v) (w2.setCell ⟨m, 4, none⟩ (.int .i64 (a1.n1 + 1))) by
          rw [HS.out]
          exact ⟨own2, hm2.setN1 (a1.n1 + 1), (HF1.out.trans hf3).trans (reM_fr hm2)⟩)
        simp only at d4
        clear hl2 hn2 hf2 hm2 hf3
        go_wp2
        go_ret
        exact ⟨ret_int (by rw [HR.out]), by rw [HR.out]; exact HP.out⟩
end Go.Proofs.Ytoifejinppjeeaa
