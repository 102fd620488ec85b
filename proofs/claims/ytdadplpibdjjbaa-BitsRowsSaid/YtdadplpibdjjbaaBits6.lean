/- Chapter 11: the walk of the reference's SetBits, and of the law's own 'same'. Condition: the slices can be read. -/
import Derived.Test.YtdadplpibdjjbaaBits5
namespace Go.Proofs.Ytdadplpibdjjbaa
open Go.RowKit
set_option linter.unusedVariables false
set_option linter.unusedSimpArgs false
theorem or_andnot (z M : BitVec 64) : (z &&& ~~~M) ||| M = z ||| M := by
  apply BitVec.eq_of_getLsbD_eq
  intro i hi
  simp only [BitVec.getLsbD_or, BitVec.getLsbD_and, BitVec.getLsbD_not, hi, decide_true, Bool.true_and]
  cases z.getLsbD i <;> cases M.getLsbD i <;> rfl
set_option maxRecDepth 100000 in
theorem refSet_any (xs : List (BitVec 64)) (c : Nat) (A : Option Addr) (yes : Bool) (l : List Int) (L : Option Addr) (lc : Nat) (w : World) (hr : RdU w A xs) (hn : xs.length ≤ 1000)
    (hl : RdF (Value.int .i64) w L l) (hll : l.length ≤ 1000) (hlb : ∀ x ∈ l, -9223372036854775808 ≤ x ∧ x ≤ 9223372036854775807) :
    Calls Try.prog 59 #[.slice A xs.length c, .bool yes, .slice L l.length lc] w fun r w' => (∃ B d, r = .returned (.slice B xs.length d) ∧ OwnU w' w.heap.size B (setB yes xs l) d) ∧ Below w.heap.size w w' := by
  have HR := Lib.hid hr
  have HL := Lib.hid hl
  have HLB := Lib.hid hlb
  clear hr hl hlb
  go_enter Try.func59, Try.ntmps59
  go_wp2_with (first | go_skip | (at_builtin; refine stop_ ?_))
  have ho1 := OwnU.lit w w.heap.size [] (Nat.le_refl _) (by decide)
  have hb1 : Below w.heap.size w (w.alloc (.cells #[] 25)) := (Below.refl _ _).alloc (Nat.le_refl _) _
  refine appU (.tmp 10) (.tmp 11) rfl rfl w.heap.size (some ⟨w.heap.size, 0, none⟩) [] 0 0 rfl rfl ho1 A xs _ c rfl rfl (HR.out.below hb1) (by simp; omega) (by simp) ?_
  intro B ys d w2 hys hown hg _
  obtain rfl : xs = ys := by simpa using hys.symm
  have HB := Lib.hid (below_app hb1 ho1 hg (by simp) (Nat.le_refl _))
  have HO2 := Lib.hid hown
  clear hys hg hown hb1 ho1
  unfold Stop
  go_wp2
  go_loopw [8] (fun i wr => ∃ k : Nat, k ≤ l.length ∧ i = .int .i64 k ∧ OwnU wr w.heap.size B (setB yes xs (l.take k)) d ∧ Below w.heap.size w wr) (fun i _ => l.length - (intOf i).toNat)
  case atStart => exact ⟨0, Nat.zero_le _, rfl, HO2.out, HB.out⟩
  case round =>
    clear HO2 HB
    obtain ⟨k, hk, rfl, hown, hbw⟩ := hrel
    have HO := Lib.hid hown
    have HBW := Lib.hid hbw
    clear hown hbw
    by_cases hlt : k < l.length
    · obtain ⟨lb, lo, rfl, hlc⟩ := (HL.out.below HBW.out).at_ hlt
      have hk1 := hlc k hlt
      have hbd := HLB.out l[k] (List.getElem_mem _)
      have HT := Lib.hid (setB_take yes xs l k hlt)
      clear hlc
      generalize l[k] = z at *
      have hzl := setB_len yes (l.take k) xs
      generalize setB yes xs (l.take k) = zs at *
      have e0 : IntKind.i64.wrap ((k : Int) + 1) = (k : Int) + 1 := IntWalk.i64_in _ (by omega)
      have e00 : IntKind.i64.wrap (64 * (xs.length : Int)) = 64 * (xs.length : Int) := IntWalk.i64_in _ (by omega)
      by_cases hin : 0 ≤ z ∧ z < 64 * (xs.length : Int)
      · obtain ⟨m, rfl⟩ := Int.eq_ofNat_of_zero_le hin.1
        have hin2 := hin.2
        have hmz : m / 64 < zs.length := by omega
        have hmx : m / 64 < xs.length := by omega
        obtain ⟨g, rfl, hgb, hgl⟩ := HO.out.form (by omega)
        have hcell := HO.out.cellAt (m / 64) hmz
        have hfz := HO.out.frozenAt (m / 64)
        have e1 : ((m : Nat) : Int).tdiv 64 = ((m / 64 : Nat) : Int) := by rw [Int.tdiv_eq_ediv_of_nonneg (by omega)]; omega
        have e2 : IntKind.i64.wrap ((m / 64 : Nat) : Int) = ((m / 64 : Nat) : Int) := IntWalk.i64_in _ (by omega)
        have e3 : ((m : Nat) : Int).tmod 64 = ((m % 64 : Nat) : Int) := by rw [Int.tmod_eq_emod_of_nonneg (by omega)]; omega
        have e4 : IntKind.i64.wrap ((m % 64 : Nat) : Int) = ((m % 64 : Nat) : Int) := IntWalk.i64_in _ (by omega)
        have e5 : 0 ≤ (m : Int) % 64 := by omega
        have e6 : IntKind.i64.wrap ((m : Int) / 64) = (m : Int) / 64 := IntWalk.i64_in _ (by omega)
        have e7 : IntKind.i64.wrap ((m : Int) % 64) = (m : Int) % 64 := IntWalk.i64_in _ (by omega)
        have e8 : (m : Int) / 64 < (xs.length : Int) := by omega
        have e9 : 0 ≤ (m : Int) / 64 := by omega
        have e10 : ((m : Int) / 64).toNat = m / 64 := by omega
        obtain ⟨M, hM⟩ : ∃ M, M = 1#64 <<< (m % 64) := ⟨_, rfl⟩
        have hM0 : BitVec.ofInt 64 (2 ^ ((m : Int) % 64).toNat) = M := by
          rw [show ((m : Int) % 64).toNat = m % 64 by omega, ofInt_two_pow _ (Nat.mod_lt _ (by omega)), hM]
        have hM1 : BitVec.ofInt 64 (2 ^ (m % 64)) = M := by
          rw [ofInt_two_pow _ (Nat.mod_lt _ (by omega)), hM]
        have hM2 : shlv (1#64) (BitVec.ofInt 64 ((m : Int) % 64)) = M := by
          unfold shlv
          rw [show (BitVec.ofInt 64 ((m : Int) % 64)).toNat = m % 64 by rw [BitVec.toNat_ofInt]; omega, hM]
        have HT2 := Lib.hid (show setB yes xs (l.take (k + 1)) = zs.set (m / 64) (if yes = true then zs[m / 64] ||| M else zs[m / 64] &&& ~~~M) by
          rw [HT.out]
          unfold setOne
          rw [if_pos (by rw [hzl]; exact hin)]
          simp only [Int.toNat_natCast]
          rw [List.getD_eq_getElem?_getD, List.getElem?_eq_getElem hmz, ← hM]
          simp only [Option.getD_some, or_andnot])
        clear hM HT
        cases yes with
        | false =>
          have HO5 := Lib.hid (HO.out.stored (m / 64) (zs[m / 64] &&& ~~~M))
          have HB5 := Lib.hid (HBW.out.setCell (p := ⟨g, m / 64, none⟩) (show w.heap.size ≤ g by omega) (U (zs[m / 64] &&& ~~~M)))
          go_wp2
          go_roundw
          case rel => exact ⟨k + 1, by omega, by go_num, by rw [HT2.out]; exact HO5.out, HB5.out⟩
          case measure => simp [intOf]; omega
        | true =>
          have HO5 := Lib.hid (HO.out.stored (m / 64) (zs[m / 64] ||| M))
          have HB5 := Lib.hid (HBW.out.setCell (p := ⟨g, m / 64, none⟩) (show w.heap.size ≤ g by omega) (U (zs[m / 64] ||| M)))
          go_wp2
          go_roundw
          case rel => exact ⟨k + 1, by omega, by go_num, by rw [HT2.out]; exact HO5.out, HB5.out⟩
          case measure => simp [intOf]; omega
      · have HT2 := Lib.hid (show setB yes xs (l.take (k + 1)) = zs by rw [HT.out]; unfold setOne; rw [if_neg (by rw [hzl]; exact hin)])
        by_cases hz : z < 0
        · go_wp2
          go_roundw
          case rel => exact ⟨k + 1, by omega, by go_num, by rw [HT2.out]; exact HO.out, HBW.out⟩
          case measure => simp [intOf]; omega
        · have hz2 : 64 * (xs.length : Int) ≤ z := by omega
          go_wp2
          go_roundw
          case rel => exact ⟨k + 1, by omega, by go_num, by rw [HT2.out]; exact HO.out, HBW.out⟩
          case measure => simp [intOf]; omega
    · obtain rfl : k = l.length := by omega
      rw [List.take_length] at HO
      go_wp2
      go_ret
      exact ⟨⟨B, d, rfl, HO.out⟩, HBW.out⟩
theorem take_succ_eq {α : Type} (xs ys : List α) (k : Nat) (h1 : k < xs.length) (h2 : k < ys.length) (h : xs.take k = ys.take k) (he : xs[k] = ys[k]) : xs.take (k + 1) = ys.take (k + 1) := by
  rw [List.take_succ_eq_append_getElem h1, List.take_succ_eq_append_getElem h2, h, he]

theorem same1_any (xs ys : List (BitVec 64)) (A B : Option Addr) (c d : Nat) (w : World) (hx : RdU w A xs) (hy : RdU w B ys) (hn : xs.length ≤ maxLen) (hn2 : ys.length ≤ maxLen) :
    Calls Try.prog 58 #[.slice A xs.length c, .slice B ys.length d] w fun e w' => e = .returned (.bool (xs == ys)) ∧ Drawn w w' := by
  unfold maxLen at hn hn2
  by_cases hl : xs.length = ys.length
  · have HX := Lib.hid hx
    have HY := Lib.hid hy
    have HL := Lib.hid hl
    rw [← hl]
    have hnn : ((xs.length : Int) != (xs.length : Int)) = false := by simp
    clear hx hy hl
    go_enter Try.func58, Try.ntmps58
    go_wp2
    go_loopw [5] (fun i wr => ∃ k : Nat, k ≤ xs.length ∧ i = .int .i64 k ∧ xs.take k = ys.take k ∧ Drawn w wr) (fun i _ => xs.length - (intOf i).toNat)
    case atStart => exact ⟨0, Nat.zero_le _, rfl, rfl, Drawn.refl _⟩
    case round =>
      obtain ⟨k, hk, rfl, ht, hd⟩ := hrel
      have HT := Lib.hid ht
      have HD := Lib.hid hd
      clear ht hd
      by_cases hlt : k < xs.length
      · obtain ⟨b, off, rfl, hc⟩ := (HX.out.drawn HD.out).at_ hlt
        have hlt2 : k < ys.length := by rw [← HL.out]; exact hlt
        obtain ⟨b2, off2, rfl, hc2⟩ := (HY.out.drawn HD.out).at_ hlt2
        have h1 := hc k hlt
        have h2 := hc2 k hlt2
        clear hc hc2
        go_wp2
        by_cases he : xs[k] = ys[k]
        · have hbe : (xs[k] != ys[k]) = false := by simp [he]
          have HT2 := Lib.hid (take_succ_eq xs ys k hlt hlt2 HT.out he)
          clear he
          go_quiet (fail)
          go_wp2
          go_roundw
          case rel => exact ⟨k + 1, by omega, by go_num, HT2.out, HD.out.trans (Drawn.some_ _ _)⟩
          case measure => simp [intOf]; omega
        · have hbe : (xs[k] != ys[k]) = true := by simp [he]
          have HF := Lib.hid (show (xs == ys) = false by
            rw [beq_eq_false_iff_ne]; intro h; exact he (by subst h; rfl))
          clear he
          go_quiet (fail)
          go_wp2
          go_ret
          exact ⟨ret_bool HF.out.symm, HD.out.trans (Drawn.some_ _ _)⟩
      · have HF := Lib.hid (show (xs == ys) = true by
          have h := HT.out
          have hle := HL.out
          rw [List.take_of_length_le (by omega), List.take_of_length_le (by omega)] at h
          rw [h]; exact beq_self_eq_true _)
        go_wp2
        go_ret
        exact ⟨ret_bool HF.out.symm, HD.out⟩
  · have hne : ((xs.length : Int) != (ys.length : Int)) = true := by rw [bne_iff_ne]; omega
    have HF := Lib.hid (show (xs == ys) = false by
      rw [beq_eq_false_iff_ne]; intro h; exact hl (by rw [h]))
    clear hl hx hy
    go_enter Try.func58, Try.ntmps58
    go_wp2
    go_ret
    exact ⟨ret_bool HF.out.symm, Drawn.refl _⟩
end Go.Proofs.Ytdadplpibdjjbaa
