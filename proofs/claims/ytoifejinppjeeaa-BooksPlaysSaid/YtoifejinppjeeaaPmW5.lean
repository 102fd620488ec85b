/- The walks of package pmem: Words, Fuse. Conditions: those of MemAt; room in the lines. -/
import Derived.Test.YtoifejinppjeeaaPmW4
import Derived.Lib.Builder
namespace Go.Proofs.Ytoifejinppjeeaa
open Go.RowKit
set_option linter.unusedVariables false
set_option linter.unusedSimpArgs false
theorem words_succ (ls : List Ln) (k : Nat) (h : k < ls.length) : (ls.take (k + 1)).flatMap Ln.words = (ls.take k).flatMap Ln.words ++ ls[k].words := by
  rw [List.take_succ_eq_append_getElem h, List.flatMap_append]
  simp
theorem lwords_len (l : Ln) : l.words.length = 8 := by simp [Ln.words]
theorem words_len : ∀ ls : List Ln, (ls.flatMap Ln.words).length = 8 * ls.length
  | [] => rfl
  | l :: ls => by rw [List.flatMap_cons, List.length_append, lwords_len, words_len ls, List.length_cons]; omega
/-- The first j words of a line. -/
def Ln.upto (l : Ln) (j : Nat) : List (BitVec 64) := (List.range j).map fun i : Nat => l.at_ (i : Int)
theorem upto_succ (l : Ln) (j : Nat) : l.upto (j + 1) = l.upto j ++ [l.at_ (j : Int)] := by unfold Ln.upto; rw [List.range_succ, List.map_append]; rfl
theorem upto_len (l : Ln) (j : Nat) : (l.upto j).length = j := by simp [Ln.upto]
set_option maxRecDepth 100000 in
set_option maxHeartbeats 4000000 in
theorem mWords_any (m : Nat) (own : Nat → Nat) (G : MG) (a : AM) (w : World) (h : MemAt w m own G a) (hr : a.room 1000) :
    Calls Try.prog 30 #[.pointer (some ⟨m, 0, none⟩)] w fun e w' => (∃ B d, e = .returned (.slice B (8 * a.ls.length) d) ∧ OwnU w' w.heap.size B a.words d) ∧ Below w.heap.size w w' := by
  have HM := Lib.hid h
  have HR := Lib.hid hr
  obtain ⟨GA, gc, xs⟩ := G
  have HXL := Lib.hid (show xs.length = a.ls.length from h.len)
  have hfew : xs.length ≤ 1024 := by rw [HXL.out]; exact h.few
  obtain ⟨_, _, d0, _⟩ := h.cells
  simp only at d0
  clear h hr
  rw [← HXL.out]
  go_enter Try.func30, Try.ntmps30
  go_wp2
  clear d0
  go_loopw [3, 12] (fun s i wr => ∃ (k : Nat) (B : Option Addr) (d : Nat), k ≤ xs.length ∧ i = .int .i64 k ∧ s = .slice B (8 * k) d ∧ OwnU wr w.heap.size B ((a.ls.take k).flatMap Ln.words) d ∧ Below w.heap.size w wr) (fun _ i _ => xs.length - (intOf i).toNat)
  case atStart => exact ⟨0, none, 0, Nat.zero_le _, rfl, rfl, OwnU.nil_ _ _, Below.refl _ _⟩
  case round =>
    obtain ⟨k, B, d, hk, rfl, rfl, hown, hb⟩ := hrel
    have HO := Lib.hid hown
    have HB := Lib.hid hb
    clear hown hb
    by_cases hlt : k < xs.length
    · have hka : k < a.ls.length := by rw [← HXL.out]; exact hlt
      obtain ⟨b, off, x, rfl, hx, hc, hln⟩ := HM.out.at_ (i := k) hka
      have hc := (HB.out.cell (p := ⟨b, off + k, none⟩) (cell_lt hc)).trans hc
      rw [ln_eq hka] at hln
      have hrm := HR.out a.ls[k] (List.getElem_mem _)
      have HWS := Lib.hid (words_succ a.ls k hka)
      have HPL := Lib.hid (show ((a.ls.take k).flatMap Ln.words).length = 8 * k by rw [words_len, List.length_take]; omega)
      have e0 : IntKind.i64.wrap ((k : Int) + 1) = (k : Int) + 1 := IntWalk.i64_in _ (by omega)
      generalize a.ls[k] = l at *
      obtain ⟨_, _, B1, d1, hat, _⟩ := hln
      have KL := Lib.hid (fun (j : Nat) (W : World) (h : Below w.heap.size w W) => lLoad_any x _ _ B1 d1 _ (j : Int) W (hat.below h) hrm)
      generalize (a.ls.take k).flatMap Ln.words = pre at *
      clear hat hrm hx hka
      go_wp2
      go_loopw [3, 16] (fun s i wr => ∃ (j : Nat) (C : Option Addr) (q : Nat), j ≤ 8 ∧ i = .int .i64 j ∧ s = .slice C (8 * k + j) q ∧ OwnU wr w.heap.size C (pre ++ l.upto j) q ∧ Below w.heap.size w wr) (fun _ i _ => 8 - (intOf i).toNat)
      case atStart => exact ⟨0, B, d, by omega, rfl, rfl, by simpa [Ln.upto] using HO.out, HB.out⟩
      case round =>
        clear HO
        obtain ⟨j, C, q, hj, rfl, rfl, hown, hb2⟩ := hrel
        have HO := Lib.hid hown
        have HB2 := Lib.hid hb2
        have hsz2 := hb2.size
        clear hown hb2
        by_cases hjl : j < 8
        · have hjl' : (j : Int) < 8 := by omega
          have e9 : IntKind.i64.wrap ((j : Int) + 1) = (j : Int) + 1 := IntWalk.i64_in _ (by omega)
          have HU := Lib.hid (upto_succ l j)
          have KL := Lib.hid (KL.out j wr HB2.out)
          have HV := Lib.hid (show newest l.ss l.os (j : Int) = l.at_ (j : Int) from rfl)
          rw [HV.out] at KL
          have HLL := Lib.hid (show 8 * k + j = (pre ++ l.upto j).length by rw [List.length_append, HPL.out, upto_len])
          generalize l.at_ (j : Int) = v at *
          go_wp2_with fail
          refine KL.out.mono ?_
          rintro e w2 ⟨rfl, hb⟩
          have HO := Lib.hid (HO.out.below hb)
          have HB2 := Lib.hid (HB2.out.trans (hb.mono HB2.out.size))
          have hsz3 := HB2.out.size
          clear hb
          go_wp2_with (first | go_skip | (at_builtin; refine stop_ ?_))
          have hbx : Below w2.heap.size w2 (w2.alloc (.cells #[U v] 22)) := (Below.refl _ _).alloc (Nat.le_refl _) _
          refine appU (.tmp 19) (.tmp 23) rfl rfl w.heap.size C (pre ++ l.upto j) _ q rfl HLL.out (HO.out.below hbx) (some ⟨w2.heap.size, 0, none⟩) [v] 1 1 rfl rfl (RdU.new1 _ _ _) (by rw [← HLL.out]; simp; omega) (by simp; omega) ?_
          intro C2 us q2 w3 hus hown2 hg2 hnew
          have HB3 := Lib.hid (below_app (HB2.out.trans (hbx.mono HB2.out.size)) (HO.out.below hbx) hg2 (by simp; omega) (Nat.le_refl _))
          have HUS := Lib.hid (show us = pre ++ l.upto (j + 1) by rw [hus, HU.out, List.append_assoc])
          have HUL := Lib.hid (show us.length = 8 * k + (j + 1) by rw [HUS.out, List.length_append, HPL.out, upto_len])
          have HO3 := Lib.hid hown2
          clear hus hg2 hown2 hbx hnew
          unfold Stop
          go_wp2
          go_roundw
          case rel => exact ⟨j + 1, C2, q2, by omega, by go_num, by rw [HUL.out], by rw [← HUS.out]; exact HO3.out, HB3.out⟩
          case measure => simp [intOf]; omega
        · obtain rfl : j = 8 := by omega
          go_wp2
          go_roundw
          case rel => exact ⟨k + 1, C, q, by omega, by go_num, rfl, by rw [HWS.out]; exact HO.out, HB2.out⟩
          case measure => simp [intOf]; omega
    · obtain rfl : k = xs.length := by omega
      rw [HXL.out, List.take_length] at HO
      go_wp2
      go_ret
      exact ⟨⟨B, d, rfl, HO.out⟩, HB.out⟩
theorem infoInt : (Try.prog.info? 3).map (fun i => (i.zero, i.size, i.bytes)) = some (some (.int .i64 0), 1, 8) := by kernel_rfl
theorem cloneI_any (zs : List Int) (A : Option Addr) (c : Nat) (w : World) (hr : RdF I6 w A zs) (hn : zs.length ≤ 8000) :
    Calls Try.prog 82 #[.slice A zs.length c] w fun e w' => (∃ B d, e = .returned (.slice B zs.length d) ∧ OwnF I6 3 w' w.heap.size B zs d) ∧ Below w.heap.size w w' := by
  rcases A with _ | ad
  · have hx : zs = [] := by
      rcases hr with h | ⟨b, off, h, _⟩
      · exact h
      · cases h
    subst hx
    have h0 := fun (W : World) => Lib.run_eql_slice_nil (P := Try.prog) W 39 3 none 0 c 0 0 Try.underlying39
    go_enter Try.func82, Try.ntmps82
    go_wp2
    go_ret
    exact ⟨⟨none, 0, rfl, OwnF.nil_ _ _⟩, Below.refl _ _⟩
  · have h0 := fun (W : World) => Lib.run_eql_slice_nil (P := Try.prog) W 39 3 (some ad) zs.length c 0 0 Try.underlying39
    have HR := Lib.hid hr
    clear hr
    go_enter Try.func82, Try.ntmps82
    go_wp2_with (first | go_skip | (at_builtin; refine stop_ ?_))
    have ho1 : OwnF I6 3 (w.alloc (.cells #[] 3)) w.heap.size (some ⟨w.heap.size, 0, none⟩) [] 0 := OwnF.lit w w.heap.size [] (Nat.le_refl _) (by decide)
    have hb1 : Below w.heap.size w (w.alloc (.cells #[] 3)) := (Below.refl _ _).alloc (Nat.le_refl _) _
    refine appF (f := I6) (fun _ => rfl) 39 3 (.int .i64 0) 8 rfl (by decide) (by decide) Try.underlying39 infoInt (.tmp 5) (.tmp 6) rfl rfl w.heap.size (some ⟨w.heap.size, 0, none⟩) [] 0 0 rfl rfl ho1 (some ad) zs _ c rfl rfl (HR.out.below hb1) (by simp; omega) (by simp) ?_
    intro B ys d w2 hys hown hg _
    obtain rfl : zs = ys := by simpa using hys.symm
    have HB := Lib.hid (below_appF hb1 ho1 hg (by simp) (Nat.le_refl _))
    have HO := Lib.hid hown
    clear hys hg hown hb1 ho1 h0
    unfold Stop
    go_wp2
    go_ret
    exact ⟨⟨B, d, rfl, HO.out⟩, HB.out⟩
set_option maxRecDepth 100000 in
theorem mFuse_any (m : Nat) (own : Nat → Nat) (G : MG) (a : AM) (z : Int) (ks : List Int) (K : Option Addr) (kc : Nat) (w : World) (h : MemAt w m own G a) (hk : RdF I6 w K ks) (hn : ks.length ≤ 8000) (h1 : -9223372036854775808 ≤ z) (h2 : z ≤ 9223372036854775807) :
    Calls Try.prog 33 #[.pointer (some ⟨m, 0, none⟩), .int .i64 z, .slice K ks.length kc] w fun e w' => e = .returned (.tuple #[]) ∧ MPost w m own G (a.setFuse z ks) w' := by
  obtain ⟨_, _, _, c1, _⟩ := h.cells
  cases ho : a.off with
  | true =>
    have HR := Lib.hid (show a.setFuse z ks = a by unfold AM.setFuse; rw [if_pos ho])
    have HM := Lib.hid h
    rw [ho] at c1
    clear h ho
    go_enter Try.func33, Try.ntmps33
    go_wp2
    go_end0
    exact ⟨rfl, by rw [HR.out]; exact ⟨own, HM.out, MFr.refl _ _⟩⟩
  | false =>
    have HR := Lib.hid (show a.setFuse z ks = { a with fuse := max z 0, keep := ks } by unfold AM.setFuse; rw [if_neg (by rw [ho]; exact Bool.false_ne_true)])
    have HM := Lib.hid h
    have KC := Lib.hid (cloneI_any ks K kc w hk hn)
    rw [ho] at c1
    clear h ho hk
    have key : ∀ mz : Int, max z 0 = mz → (z < 0 ∧ mz = 0 ∨ 0 ≤ z ∧ mz = z) := fun mz e => by omega
    generalize max z 0 = mz at *
    have hmz := key mz rfl
    clear key
    have fin : ∀ (w2 : World) (B : Option Addr) (d : Nat), OwnF I6 3 w2 w.heap.size B ks d → Below w.heap.size w w2 → (w2.cell? ⟨m, 2, none⟩ = some (.int .i64 a.fuse) ∧ w2.frozen? ⟨m, 2, none⟩ = false ∧ (∃ K9 k9, (w2.setCell ⟨m, 2, none⟩ (.int .i64 mz)).cell? ⟨m, 3, none⟩ = some (.slice K9 a.keep.length k9)) ∧ (w2.setCell ⟨m, 2, none⟩ (.int .i64 mz)).frozen? ⟨m, 3, none⟩ = false) ∧ MPost w m own G { a with fuse := mz, keep := ks } ((w2.setCell ⟨m, 2, none⟩ (.int .i64 mz)).setCell ⟨m, 3, none⟩ (.slice B ks.length d)) := by
      intro w2 B d hB hb
      have hm2 := HM.out.below hb
      have hm3 := hm2.setFuse mz
      obtain ⟨_, _, _, _, d2, _⟩ := hm2.cells
      obtain ⟨K9, k9, _, _, _, d3, _⟩ := hm3.cells
      refine ⟨⟨d2, hm2.fz 2, ⟨K9, k9, d3⟩, hm3.fz 3⟩, ?_⟩
      have hsame : ∀ q, blk B = some q → (w2.setCell ⟨m, 2, none⟩ (.int .i64 mz)).heap[q]? = w2.heap[q]? := fun q hq => Below.heap_setCell _ _ _ _ (by
        have h1 := (hB.lt q hq).1
        have h2 := HM.out.lt
        simp
        omega)
      obtain ⟨own3, h4, h5⟩ := hm3.setKeep B d ks (rd_same hB.rd hsame) hB.cap.1 hB.cap.2 (fun q hq => ⟨HM.out.fresh q (hB.lt q hq).1, by have := (hB.lt q hq).2; simpa [World.setCell] using this⟩)
      refine ⟨own3, h4, ?_⟩
      have g1 : MFr w w2 own own := MFr.of_below own hb
      have g2 := reM_fr hm2 (i := 2) (v := .int .i64 mz)
      have g3 := g1.trans g2
      have e3 := reM_fr hm3 (i := 3) (v := .slice B ks.length d)
      have g4 := g3.trans e3
      exact ⟨g4.os, g4.tape, g4.output, g4.size, g4.block, fun k hk => by
        rw [h5 k, if_neg]
        intro e
        have := (hB.lt k e).1
        omega⟩
    have FIN := Lib.hid fin
    clear fin
    rcases hmz with ⟨hz, rfl⟩ | ⟨hz, rfl⟩
    · go_enter Try.func33, Try.ntmps33
      go_wp2_with fail
      refine KC.out.mono ?_
      rintro e w2 ⟨⟨B, d, rfl, hB⟩, hb⟩
      obtain ⟨⟨y2, y3, ⟨K9, k9, y4⟩, y5⟩, hp⟩ := FIN.out w2 B d hB hb
      have HP := Lib.hid hp
      have y6 : w2.frozen? ⟨m, 3, none⟩ = false := (HM.out.below hb).fz 3
      obtain ⟨K8, k8, _, _, _, y7, _⟩ := (HM.out.below hb).cells
      clear hp hB hb
      go_wp2
      go_end0
      exact ⟨rfl, by rw [HR.out]; exact HP.out⟩
    · have hz' : ¬ mz < 0 := by omega
      go_enter Try.func33, Try.ntmps33
      go_wp2_with fail
      refine KC.out.mono ?_
      rintro e w2 ⟨⟨B, d, rfl, hB⟩, hb⟩
      obtain ⟨⟨y2, y3, ⟨K9, k9, y4⟩, y5⟩, hp⟩ := FIN.out w2 B d hB hb
      have HP := Lib.hid hp
      have y6 : w2.frozen? ⟨m, 3, none⟩ = false := (HM.out.below hb).fz 3
      obtain ⟨K8, k8, _, _, _, y7, _⟩ := (HM.out.below hb).cells
      clear hp hB hb
      go_wp2
      go_end0
      exact ⟨rfl, by rw [HR.out]; exact HP.out⟩
end Go.Proofs.Ytoifejinppjeeaa
