/- Contracts of the reference's Bytes, of word.Words and the reference's Words, of bytes.Clone. Condition: a slice that is given can be read, and is not longer than 1000 words or 8000 bytes. -/
import Derived.Test.YtfcfegnfcgglaaaWordWalks3
namespace Go.Proofs.Ytfcfegnfcgglaaa
open Go.RowKit
set_option linter.unusedVariables false

theorem refBytes_any (xs : List (BitVec 64)) (A : Option Addr) (c : Nat) (w : World) (hr : RdU w A xs) (hn : xs.length ≤ 1000) :
    Calls Try.prog 32 #[.slice A xs.length c] w fun e w' => (∃ B d, e = .returned (.slice B (bytesOf xs).length d) ∧ OwnF Y 5 w' w.heap.size B (bytesOf xs) d) ∧ Below w.heap.size w w' := by
  have HR := Lib.hid hr
  clear hr
  go_enter Try.func32, Try.ntmps32
  go_wp2
  go_loopw [3, 4] (fun out i wr => ∃ (k : Nat) (B : Option Addr) (zs : List (BitVec 8)) (d : Nat), k ≤ xs.length ∧ i = .int .i64 k ∧ out = .slice B zs.length d ∧ zs = bytesOf (xs.take k) ∧ OwnF Y 5 wr w.heap.size B zs d ∧ Below w.heap.size w wr) (fun _ i _ => xs.length - (intOf i).toNat)
  case atStart => exact ⟨0, none, [], 0, Nat.zero_le _, rfl, rfl, rfl, OwnF.nil_ _ _, Below.refl _ _⟩
  case round =>
    obtain ⟨k, B, zs, d, hk, rfl, rfl, hzs, hown, hb⟩ := hrel
    have HZ := Lib.hid hzs
    have HO := Lib.hid hown
    have HB := Lib.hid hb
    clear hzs hown hb
    by_cases hlt : k < xs.length
    · obtain ⟨b, off, rfl, _⟩ := (HR.out.below HB.out).at_ hlt
      have hzl : zs.length ≤ 8000 := by rw [HZ.out, length_bytesOf]; simp; omega
      go_wp2
      obtain ⟨wo, hwo⟩ : ∃ wo : World, wo = wr := ⟨_, rfl⟩
      subst hwo
      go_loopw [3, 5] (fun out j wi => ∃ (q : Nat) (B' : Option Addr) (ys : List (BitVec 8)) (d' : Nat), q ≤ 8 ∧ j = .int .i64 q ∧ out = .slice B' ys.length d' ∧ ys = zs ++ (bytes8 xs[k]).take q ∧ OwnF Y 5 wi w.heap.size B' ys d' ∧ Below w.heap.size w wi) (fun _ j _ => 8 - (intOf j).toNat)
      case atStart => exact ⟨0, B, zs, d, by omega, rfl, rfl, by simp, HO.out, HB.out⟩
      case round =>
        obtain ⟨q, B', ys, d', hq, rfl, rfl, hys, hown', hb'⟩ := hrel
        have HYS := Lib.hid hys
        have HO2 := Lib.hid hown'
        have HB2 := Lib.hid hb'
        clear hys hown' hb'
        by_cases hq8 : q < 8
        · have hyl : ys.length ≤ 8008 := by rw [HYS.out]; simp [length_bytes8]; omega
          have hz := HB2.out.size
          obtain ⟨b', off', hA, hc⟩ := (HR.out.below HB2.out).at_ hlt
          injection hA with hA
          injection hA with h1 h2 _
          subst h1 h2
          have hk1 := hc k hlt
          clear hc
          go_wp2_with (first | go_skip | (at_builtin; refine stop_ ?_))
          have hsv : shrv xs[k] (BitVec.ofInt 64 (8 * (q : Int))) = xs[k] >>> (8 * q) := by
            unfold shrv; rw [toNat_ofInt_small _ (by omega) (by omega)]; congr 1
          rw [hsv]
          have hbx : Below wr.heap.size wr (wr.alloc (.cells #[Y ((xs[k] >>> (8 * q)).setWidth 8)] 5)) := (Below.refl _ _).alloc (Nat.le_refl _) _
          have hby := HB2.out.alloc hz (.cells #[Y ((xs[k] >>> (8 * q)).setWidth 8)] 5)
          have hox := HO2.out.below hbx
          refine appY (.tmp 16) (.tmp 26) rfl rfl w.heap.size B' ys _ d' rfl rfl hox (some ⟨wr.heap.size, 0, none⟩) [(xs[k] >>> (8 * q)).setWidth 8] 1 1 rfl rfl (RdF.new1 _ _ _) (by simp; omega) (by simp; omega) ?_
          intro B2 us d2 w2 hus hown2 hg2 _
          have HB3 := Lib.hid (below_appF hby hox hg2 (by simp; omega) (Nat.le_refl _))
          have HU := Lib.hid (show us = zs ++ (bytes8 xs[k]).take (q + 1) by
            rw [hus, HYS.out, bytes8_take_snoc _ _ hq8, List.append_assoc]; rfl)
          have HO3 := Lib.hid hown2
          clear hus hg2 hown2 hbx hby hox hsv
          unfold Stop
          go_wp2
          go_roundw
          case rel => exact ⟨q + 1, B2, us, d2, by omega, by go_num, rfl, HU.out, HO3.out, HB3.out⟩
          case measure => simp [intOf]; omega
        · have hq' : q = 8 := by omega
          have HU := Lib.hid (show ys = bytesOf (xs.take (k + 1)) by
            rw [HYS.out, HZ.out, take_snoc xs k hlt, bytesOf_snoc, List.take_of_length_le (show (bytes8 xs[k]).length ≤ q by rw [length_bytes8]; omega)])
          go_wp2
          go_roundw
          case rel => exact ⟨k + 1, B', ys, d', by omega, by go_num, rfl, HU.out, HO2.out, HB2.out⟩
          case measure => simp [intOf]; omega
    · go_wp2
      go_ret
      have hz : zs = bytesOf xs := by rw [HZ.out, List.take_of_length_le (by omega)]
      subst hz
      exact ⟨⟨B, d, rfl, HO.out⟩, HB.out⟩

theorem wordsOf_step (b : List (BitVec 8)) (k : Nat) (h : k < b.length / 8) : ((List.range (k + 1)).map fun (i : Nat) => getW b (i : Int)) = ((List.range k).map fun (i : Nat) => getW b (i : Int)) ++ [getW b (k : Int)] := by
  rw [List.range_succ, List.map_append]; rfl
theorem Words_any (xs : List (BitVec 8)) (A : Option Addr) (c : Nat) (w : World) (hr : RdF Y w A xs) (hn : xs.length ≤ 8000) :
    Calls Try.prog 27 #[.slice A xs.length c] w fun e w' => (∃ B d, e = .returned (.slice B (wordsOf xs).length d) ∧ OwnU w' w.heap.size B (wordsOf xs) d) ∧ Below w.heap.size w w' := by
  have HR := Lib.hid hr
  clear hr
  go_enter Try.func27, Try.ntmps27
  go_wp2
  go_loopw [3, 4] (fun out i wr => ∃ (k : Nat) (B : Option Addr) (zs : List (BitVec 64)) (d : Nat), k ≤ xs.length / 8 ∧ i = .int .i64 k ∧ out = .slice B zs.length d ∧ zs = ((List.range k).map fun (i : Nat) => getW xs (i : Int)) ∧ OwnU wr w.heap.size B zs d ∧ Below w.heap.size w wr) (fun _ i _ => xs.length / 8 - (intOf i).toNat)
  case atStart => exact ⟨0, none, [], 0, Nat.zero_le _, rfl, rfl, rfl, OwnU.nil_ _ _, Below.refl _ _⟩
  case round =>
    obtain ⟨k, B, zs, d, hk, rfl, rfl, hzs, hown, hb⟩ := hrel
    have HZ := Lib.hid hzs
    have HO := Lib.hid hown
    have HB := Lib.hid hb
    have hzl : zs.length ≤ 1000 := by rw [hzs]; simp; omega
    have hz := hb.size
    clear hzs hown hb
    have hc := has_any xs.length c A (k : Int) (by unfold maxLen; omega) wr
    by_cases hlt : k < xs.length / 8
    · rw [(hasB_iff _ _).2 (by omega)] at hc
      have HC := Lib.hid hc
      clear hc
      go_wp2_with fail
      refine HC.out.mono ?_
      rintro e w1 ⟨rfl, rfl⟩
      go_wp2_with fail
      refine (Get_any xs A c (k : Int) (by omega) (by omega) (by unfold maxLen; omega) _ (HR.out.below HB.out)).mono ?_
      rintro e w1 ⟨rfl, rfl⟩
      generalize hgk : getW xs (k : Int) = gk
      have HGK := Lib.hid hgk
      clear hgk
      go_wp2_with (first | go_skip | (at_builtin; refine stop_ ?_))
      have hbx : Below wr.heap.size wr (wr.alloc (.cells #[U gk] 23)) := (Below.refl _ _).alloc (Nat.le_refl _) _
      have hby := HB.out.alloc hz (.cells #[U gk] 23)
      have hox := HO.out.below hbx
      refine appU (.tmp 10) (.tmp 14) rfl rfl w.heap.size B zs _ d rfl rfl hox (some ⟨wr.heap.size, 0, none⟩) [gk] 1 1 rfl rfl (RdU.new1 _ _ _) (by simp; omega) (by simp; omega) ?_
      intro B2 us d2 w2 hus hown2 hg2 _
      have HB3 := Lib.hid (below_app hby hox hg2 (by simp; omega) (Nat.le_refl _))
      have HU := Lib.hid (show us = ((List.range (k + 1)).map fun (i : Nat) => getW xs (i : Int)) by
        rw [wordsOf_step xs k hlt, hus, HZ.out, HGK.out])
      have HO3 := Lib.hid hown2
      clear hus hg2 hown2 hbx hby hox
      unfold Stop
      go_wp2
      go_roundw
      case rel => exact ⟨k + 1, B2, us, d2, by omega, by go_num, rfl, HU.out, HO3.out, HB3.out⟩
      case measure => simp [intOf]; omega
    · have hf : hasB xs.length (k : Int) = false := by
        rw [← Bool.not_eq_true, hasB_iff]; omega
      rw [hf] at hc
      have HC := Lib.hid hc
      clear hc
      go_wp2_with fail
      refine HC.out.mono ?_
      rintro e w1 ⟨rfl, rfl⟩
      go_wp2
      go_ret
      have hzz : zs = wordsOf xs := by rw [HZ.out, show k = xs.length / 8 by omega]; rfl
      subst hzz
      exact ⟨⟨B, d, rfl, HO.out⟩, HB.out⟩
theorem refWords_any (xs : List (BitVec 8)) (A : Option Addr) (c : Nat) (w : World) (hr : RdF Y w A xs) (hn : xs.length ≤ 8000) :
    Calls Try.prog 33 #[.slice A xs.length c] w fun e w' => (∃ B d, e = .returned (.slice B (wordsOf xs).length d) ∧ OwnU w' w.heap.size B (wordsOf xs) d) ∧ Below w.heap.size w w' := by
  have HR := Lib.hid hr
  clear hr
  go_enter Try.func33, Try.ntmps33
  go_wp2
  go_loopw [3, 4] (fun out i wr => ∃ (k : Nat) (B : Option Addr) (zs : List (BitVec 64)) (d : Nat), k ≤ xs.length / 8 ∧ i = .int .i64 k ∧ out = .slice B zs.length d ∧ zs = ((List.range k).map fun (i : Nat) => getW xs (i : Int)) ∧ OwnU wr w.heap.size B zs d ∧ Below w.heap.size w wr) (fun _ i _ => xs.length / 8 - (intOf i).toNat)
  case atStart => exact ⟨0, none, [], 0, Nat.zero_le _, rfl, rfl, rfl, OwnU.nil_ _ _, Below.refl _ _⟩
  case round =>
    obtain ⟨k, B, zs, d, hk, rfl, rfl, hzs, hown, hb⟩ := hrel
    have HZ := Lib.hid hzs
    have HO := Lib.hid hown
    have HB := Lib.hid hb
    have hzl : zs.length ≤ 1000 := by rw [hzs]; simp; omega
    have hz := hb.size
    clear hzs hown hb
    by_cases hlt : k < xs.length / 8
    · have hlt' : (k : Int) < (xs.length : Int) / 8 := by omega
      go_wp2_with fail
      refine (refGet_any xs A c (k : Int) (by omega) (by omega) (by unfold maxLen; omega) _ (HR.out.below HB.out)).mono ?_
      rintro e w1 ⟨rfl, rfl⟩
      generalize hgk : getW xs (k : Int) = gk
      have HGK := Lib.hid hgk
      clear hgk
      go_wp2_with (first | go_skip | (at_builtin; refine stop_ ?_))
      have hbx : Below wr.heap.size wr (wr.alloc (.cells #[U gk] 23)) := (Below.refl _ _).alloc (Nat.le_refl _) _
      have hby := HB.out.alloc hz (.cells #[U gk] 23)
      have hox := HO.out.below hbx
      refine appU (.tmp 12) (.tmp 16) rfl rfl w.heap.size B zs _ d rfl rfl hox (some ⟨wr.heap.size, 0, none⟩) [gk] 1 1 rfl rfl (RdU.new1 _ _ _) (by simp; omega) (by simp; omega) ?_
      intro B2 us d2 w2 hus hown2 hg2 _
      have HB3 := Lib.hid (below_app hby hox hg2 (by simp; omega) (Nat.le_refl _))
      have HU := Lib.hid (show us = ((List.range (k + 1)).map fun (i : Nat) => getW xs (i : Int)) by
        rw [wordsOf_step xs k hlt, hus, HZ.out, HGK.out])
      have HO3 := Lib.hid hown2
      clear hus hg2 hown2 hbx hby hox
      unfold Stop
      go_wp2
      go_roundw
      case rel => exact ⟨k + 1, B2, us, d2, by omega, by go_num, rfl, HU.out, HO3.out, HB3.out⟩
      case measure => simp [intOf]; omega
    · have hge : (xs.length : Int) / 8 ≤ (k : Int) := by omega
      go_wp2
      go_ret
      have hzz : zs = wordsOf xs := by rw [HZ.out, show k = xs.length / 8 by omega]; rfl
      subst hzz
      exact ⟨⟨B, d, rfl, HO.out⟩, HB.out⟩

theorem Clone_any (xs : List (BitVec 8)) (A : Option Addr) (c : Nat) (w : World) (hr : RdF Y w A xs) (hn : xs.length ≤ 8000) :
    Calls Try.prog 40 #[.slice A xs.length c] w fun e w' => (∃ B d, e = .returned (.slice B xs.length d) ∧ OwnF Y 5 w' w.heap.size B xs d) ∧ Below w.heap.size w w' := by
  rcases A with _ | ad
  · have hx : xs = [] := by
      rcases hr with h | ⟨b, off, h, _⟩
      · exact h
      · cases h
    subst hx
    have h0 := fun (W : World) => Lib.run_eql_slice_nil (P := Try.prog) W 37 5 none 0 c 0 0 Try.underlying37
    go_enter Try.func40, Try.ntmps40
    go_wp2
    go_ret
    exact ⟨⟨none, 0, rfl, OwnF.nil_ _ _⟩, Below.refl _ _⟩
  · have h0 := fun (W : World) => Lib.run_eql_slice_nil (P := Try.prog) W 37 5 (some ad) xs.length c 0 0 Try.underlying37
    have HR := Lib.hid hr
    clear hr
    go_enter Try.func40, Try.ntmps40
    go_wp2_with (first | go_skip | (at_builtin; refine stop_ ?_))
    have ho1 := OwnF.lit (f := Y) (e := 5) w w.heap.size [] (Nat.le_refl _) (by decide)
    have hb1 : Below w.heap.size w (w.alloc (.cells #[] 5)) := (Below.refl _ _).alloc (Nat.le_refl _) _
    refine appY (.tmp 5) (.tmp 6) rfl rfl w.heap.size (some ⟨w.heap.size, 0, none⟩) [] 0 0 rfl rfl ho1 (some ad) xs _ c rfl rfl (HR.out.below hb1) (by simp; omega) (by simp) ?_
    intro B ys d w2 hys hown hg _
    obtain rfl : xs = ys := by simpa using hys.symm
    have HB := Lib.hid (below_appF hb1 ho1 hg (by simp) (Nat.le_refl _))
    have HO := Lib.hid hown
    clear hys hg hown hb1 ho1 h0
    unfold Stop
    go_wp2
    go_ret
    exact ⟨⟨B, d, rfl, HO.out⟩, HB.out⟩
end Go.Proofs.Ytfcfegnfcgglaaa
