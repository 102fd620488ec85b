/- Contracts of the reference's Get, Bytes, Words. Condition: a slice that is given can be read, and is not longer than 1000 words or 8000 bytes. -/
import Derived.Test.YtgkojedgamglgaaWordPlain
import Derived.Test.YtgkojedgamglgaaGen
namespace Go.Proofs.Ytgkojedgamglgaa
open Go.RowKit
set_option linter.unusedVariables false
/-- The loop of Get, in both programs: what stands in the word before byte q is read. -/
def wq (b : List (BitVec 8)) (m : Nat) (q : Int) : BitVec 64 := wtop (fun i => b.getD (8 * m + i) 0) (7 - q).toNat
theorem wq_step (b : List (BitVec 8)) (m : Nat) (q : Int) (h0 : 0 ≤ q) (h1 : q ≤ 7) (h : (8 * (m : Int) + q).toNat < b.length) :
    wq b m (q - 1) = wq b m q <<< 8 ||| (b[(8 * (m : Int) + q).toNat]).setWidth 64 := by
  unfold wq
  have e : (7 - (q - 1)).toNat = (7 - q).toNat + 1 := by omega
  rw [e, wtop]
  have e2 : 8 * m + (7 - (7 - q).toNat) = (8 * (m : Int) + q).toNat := by omega
  rw [e2, List.getD_eq_getElem?_getD, List.getElem?_eq_getElem h]
  rfl
theorem refGet_any (xs : List (BitVec 8)) (A : Option Addr) (c : Nat) (at_ : Int) (hlo : -9223372036854775808 ≤ at_) (hhi : at_ ≤ 9223372036854775807) (hn : xs.length ≤ maxLen) (w : World) (hr : RdF Y w A xs) :
    Calls Try.prog 115 #[.slice A xs.length c, .int .i64 at_] w fun e w' => e = .returned (U (getW xs at_)) ∧ w = w' := by
  unfold maxLen at hn
  by_cases hh : hasB xs.length at_ = true
  · obtain ⟨h0, h1⟩ := (hasB_iff _ _).1 hh
    obtain ⟨m, rfl⟩ := Int.eq_ofNat_of_zero_le h0
    have hm : 8 * m + 7 < xs.length := by omega
    have h2 : (m : Int) < (xs.length : Int) / 8 := by omega
    have HG := Lib.hid (show getW xs (m : Int) = wq xs m (-1) by unfold getW; rw [if_pos hh]; rfl)
    obtain ⟨b, off, rfl, hcell⟩ := hr.at_ (k := 8 * m) (by omega)
    have HCELL := Lib.hid hcell
    clear hcell hr hh h1
    go_enter Try.func115, Try.ntmps115
    go_wp2
    go_loop [5, 6] (fun v i => ∃ q : Int, -1 ≤ q ∧ q ≤ 7 ∧ i = .int .i64 q ∧ v = U (wq xs m q)) (fun _ i => (intOf i + 1).toNat)
    case atStart => exact ⟨7, by omega, by omega, rfl, rfl⟩
    case round =>
      obtain ⟨q, hq0, hq1, rfl, rfl⟩ := hrel
      by_cases hlt : 0 ≤ q
      · have hcq := HCELL.out (8 * (m : Int) + q).toNat (by omega)
        have HS := Lib.hid (wq_step xs m q hlt hq1 (by omega))
        generalize wq xs m q = t at *
        go_wp2
        go_round
        case rel => exact ⟨q - 1, by omega, by omega, rfl, by rw [HS.out]⟩
        case measure => simp [intOf]; omega
      · have : q = -1 := by omega
        subst this
        go_wp2
        go_ret
        exact ⟨ret_U HG.out.symm, rfl⟩
  · have HG := Lib.hid (show getW xs at_ = 0 by unfold getW; rw [if_neg hh])
    by_cases h0 : at_ < 0
    · clear hh
      go_enter Try.func115, Try.ntmps115
      go_wp2
      go_ret
      exact ⟨ret_U HG.out.symm, rfl⟩
    · have h1 : (xs.length : Int) / 8 ≤ at_ := by
        rw [hasB_iff] at hh; omega
      clear hh
      go_enter Try.func115, Try.ntmps115
      go_wp2
      go_ret
      exact ⟨ret_U HG.out.symm, rfl⟩
theorem bytes8_take_snoc (v : BitVec 64) (k : Nat) (h : k < 8) : (bytes8 v).take (k + 1) = (bytes8 v).take k ++ [byteAt v k] := by
  rw [take_snoc _ k (by rw [length_bytes8]; exact h), bytes8_get]
theorem appY {w : World} {ops : Array Oper} {rest : List Oper} {o : Oper} {a : Act} {Q : Exit → Act → World → Prop} (s x : Operand) (hw : Region.wanted o (yielded ops a.tmps) = true)
    (ho : o.op = .call { callee := .builtin .append, args := #[s, x], argTypes := #[142, 142] })
    (base : Nat) (A : Option Addr) (xs : List (BitVec 8)) (n c : Nat) (hs : a.eval s = .slice A n c) (hn : n = xs.length) (hown : OwnF Y 5 w base A xs c)
    (A2 : Option Addr) (ys : List (BitVec 8)) (m c2 : Nat) (hx : a.eval x = .slice A2 m c2) (hm : m = ys.length) (hr : RdF Y w A2 ys)
    (hb : xs.length + ys.length ≤ 1048576) (hbase : base ≤ w.heap.size)
    (h : ∀ A' zs c' w', zs = xs ++ ys → OwnF Y 5 w' base A' zs c' → w.grownBy w' (blk A) → (blk A' = blk A ∨ blk A' = some w.heap.size) → Stop (wpList Try.prog ops Q rest (a.put o.dst (.slice A' zs.length c')) w')) :
    Stop (wpList Try.prog ops Q (o :: rest) a w) :=
  appF (fun _ => rfl) _ _ _ 1 rfl (by omega) (by omega) Try.underlying142 infoY s x hw ho base A xs n c hs hn hown A2 ys m c2 hx hm hr hb hbase h

theorem refBytes_any (xs : List (BitVec 64)) (A : Option Addr) (c : Nat) (w : World) (hr : RdU w A xs) (hn : xs.length ≤ 1000) :
    Calls Try.prog 99 #[.slice A xs.length c] w fun e w' => (∃ B d, e = .returned (.slice B (bytesOf xs).length d) ∧ OwnF Y 5 w' w.heap.size B (bytesOf xs) d) ∧ Below w.heap.size w w' := by
  have HR := Lib.hid hr
  clear hr
  go_enter Try.func99, Try.ntmps99
  go_wp2
  go_loopw [3, 4] (fun out i wr => ∃ (k : Nat) (B : Option Addr) (zs : List (BitVec 8)) (d : Nat), k ≤ xs.length ∧ i = .int .i64 k ∧ out = .slice B zs.length d ∧ zs = bytesOf (xs.take k) ∧ OwnF Y 5 wr w.heap.size B zs d ∧ Below w.heap.size w wr) (fun _ i _ => xs.length - (intOf i).toNat)
  case atStart => exact ⟨0, none, [], 0, Nat.zero_le _, rfl, rfl, rfl, OwnF.nil_ _ _, Below.refl _ _⟩
  case round =>
    obtain ⟨k, B, zs, d, hk, rfl, rfl, hzs, hown, hb⟩ := hrel
    have HZ := Lib.hid hzs
    have HO := Lib.hid hown
    have HB := Lib.hid hb
    clear hzs hown hb
    by_cases hlt : k < xs.length
    · obtain ⟨b, off, rfl, _⟩ := (HR.out.below HB.out).at_ hlt
      have hzl : zs.length ≤ 8000 := by rw [HZ.out, length_bytesOf]; simp; omega
      go_wp2
      obtain ⟨wo, hwo⟩ : ∃ wo : World, wo = wr := ⟨_, rfl⟩
      subst hwo
      go_loopw [3, 5] (fun out j wi => ∃ (q : Nat) (B' : Option Addr) (ys : List (BitVec 8)) (d' : Nat), q ≤ 8 ∧ j = .int .i64 q ∧ out = .slice B' ys.length d' ∧ ys = zs ++ (bytes8 xs[k]).take q ∧ OwnF Y 5 wi w.heap.size B' ys d' ∧ Below w.heap.size w wi) (fun _ j _ => 8 - (intOf j).toNat)
      case atStart => exact ⟨0, B, zs, d, by omega, rfl, rfl, by simp, HO.out, HB.out⟩
      case round =>
        obtain ⟨q, B', ys, d', hq, rfl, rfl, hys, hown', hb'⟩ := hrel
        have HYS := Lib.hid hys
        have HO2 := Lib.hid hown'
        have HB2 := Lib.hid hb'
        clear hys hown' hb'
        by_cases hq8 : q < 8
        · have hyl : ys.length ≤ 8008 := by rw [HYS.out]; simp [length_bytes8]; omega
          have hz := HB2.out.size
          obtain ⟨b', off', hA, hc⟩ := (HR.out.below HB2.out).at_ hlt
          injection hA with hA
          injection hA with h1 h2 _
          subst h1 h2
          have hk1 := hc k hlt
          clear hc
          go_wp2_with (first | go_skip | (at_builtin; refine stop_ ?_))
          have hsv : shrv xs[k] (BitVec.ofInt 64 (8 * (q : Int))) = xs[k] >>> (8 * q) := by
            unfold shrv; rw [toNat_ofInt_small _ (by omega) (by omega)]; congr 1
          rw [hsv]
          have hbx : Below wr.heap.size wr (wr.alloc (.cells #[Y ((xs[k] >>> (8 * q)).setWidth 8)] 5)) := (Below.refl _ _).alloc (Nat.le_refl _) _
          have hby := HB2.out.alloc hz (.cells #[Y ((xs[k] >>> (8 * q)).setWidth 8)] 5)
          have hox := HO2.out.below hbx
          refine appY (.tmp 16) (.tmp 26) rfl rfl w.heap.size B' ys _ d' rfl rfl hox (some ⟨wr.heap.size, 0, none⟩) [(xs[k] >>> (8 * q)).setWidth 8] 1 1 rfl rfl (RdF.new1 _ _ _) (by simp; omega) (by simp; omega) ?_
          intro B2 us d2 w2 hus hown2 hg2 _
          have HB3 := Lib.hid (below_appF hby hox hg2 (by simp; omega) (Nat.le_refl _))
          have HU := Lib.hid (show us = zs ++ (bytes8 xs[k]).take (q + 1) by
            rw [hus, HYS.out, bytes8_take_snoc _ _ hq8, List.append_assoc]; rfl)
          have HO3 := Lib.hid hown2
          clear hus hg2 hown2 hbx hby hox hsv
          unfold Stop
          go_wp2
          go_roundw
          case rel => exact ⟨q + 1, B2, us, d2, by omega, by go_num, rfl, HU.out, HO3.out, HB3.out⟩
          case measure => simp [intOf]; omega
        · have hq' : q = 8 := by omega
          have HU := Lib.hid (show ys = bytesOf (xs.take (k + 1)) by
            rw [HYS.out, HZ.out, take_snoc xs k hlt, bytesOf_snoc, List.take_of_length_le (show (bytes8 xs[k]).length ≤ q by rw [length_bytes8]; omega)])
          go_wp2
          go_roundw
          case rel => exact ⟨k + 1, B', ys, d', by omega, by go_num, rfl, HU.out, HO2.out, HB2.out⟩
          case measure => simp [intOf]; omega
    · go_wp2
      go_ret
      have hz : zs = bytesOf xs := by rw [HZ.out, List.take_of_length_le (by omega)]
      subst hz
      exact ⟨⟨B, d, rfl, HO.out⟩, HB.out⟩

theorem wordsOf_step (b : List (BitVec 8)) (k : Nat) (h : k < b.length / 8) : ((List.range (k + 1)).map fun (i : Nat) => getW b (i : Int)) = ((List.range k).map fun (i : Nat) => getW b (i : Int)) ++ [getW b (k : Int)] := by
  rw [List.range_succ, List.map_append]; rfl
theorem refWords_any (xs : List (BitVec 8)) (A : Option Addr) (c : Nat) (w : World) (hr : RdF Y w A xs) (hn : xs.length ≤ 8000) :
    Calls Try.prog 101 #[.slice A xs.length c] w fun e w' => (∃ B d, e = .returned (.slice B (wordsOf xs).length d) ∧ OwnU w' w.heap.size B (wordsOf xs) d) ∧ Below w.heap.size w w' := by
  have HR := Lib.hid hr
  clear hr
  go_enter Try.func101, Try.ntmps101
  go_wp2
  go_loopw [3, 4] (fun out i wr => ∃ (k : Nat) (B : Option Addr) (zs : List (BitVec 64)) (d : Nat), k ≤ xs.length / 8 ∧ i = .int .i64 k ∧ out = .slice B zs.length d ∧ zs = ((List.range k).map fun (i : Nat) => getW xs (i : Int)) ∧ OwnU wr w.heap.size B zs d ∧ Below w.heap.size w wr) (fun _ i _ => xs.length / 8 - (intOf i).toNat)
  case atStart => exact ⟨0, none, [], 0, Nat.zero_le _, rfl, rfl, rfl, OwnU.nil_ _ _, Below.refl _ _⟩
  case round =>
    obtain ⟨k, B, zs, d, hk, rfl, rfl, hzs, hown, hb⟩ := hrel
    have HZ := Lib.hid hzs
    have HO := Lib.hid hown
    have HB := Lib.hid hb
    have hzl : zs.length ≤ 1000 := by rw [hzs]; simp; omega
    have hz := hb.size
    clear hzs hown hb
    by_cases hlt : k < xs.length / 8
    · have hlt' : (k : Int) < (xs.length : Int) / 8 := by omega
      go_wp2_with fail
      refine (refGet_any xs A c (k : Int) (by omega) (by omega) (by unfold maxLen; omega) _ (HR.out.below HB.out)).mono ?_
      rintro e w1 ⟨rfl, rfl⟩
      generalize hgk : getW xs (k : Int) = gk
      have HGK := Lib.hid hgk
      clear hgk
      go_wp2_with (first | go_skip | (at_builtin; refine stop_ ?_))
      have hbx : Below wr.heap.size wr (wr.alloc (.cells #[U gk] 22)) := (Below.refl _ _).alloc (Nat.le_refl _) _
      have hby := HB.out.alloc hz (.cells #[U gk] 22)
      have hox := HO.out.below hbx
      refine appU (.tmp 12) (.tmp 16) rfl rfl w.heap.size B zs _ d rfl rfl hox (some ⟨wr.heap.size, 0, none⟩) [gk] 1 1 rfl rfl (RdU.new1 _ _ _) (by simp; omega) (by simp; omega) ?_
      intro B2 us d2 w2 hus hown2 hg2 _
      have HB3 := Lib.hid (below_app hby hox hg2 (by simp; omega) (Nat.le_refl _))
      have HU := Lib.hid (show us = ((List.range (k + 1)).map fun (i : Nat) => getW xs (i : Int)) by
        rw [wordsOf_step xs k hlt, hus, HZ.out, HGK.out])
      have HO3 := Lib.hid hown2
      clear hus hg2 hown2 hbx hby hox
      unfold Stop
      go_wp2
      go_roundw
      case rel => exact ⟨k + 1, B2, us, d2, by omega, by go_num, rfl, HU.out, HO3.out, HB3.out⟩
      case measure => simp [intOf]; omega
    · have hge : (xs.length : Int) / 8 ≤ (k : Int) := by omega
      go_wp2
      go_ret
      have hzz : zs = wordsOf xs := by rw [HZ.out, show k = xs.length / 8 by omega]; rfl
      subst hzz
      exact ⟨⟨B, d, rfl, HO.out⟩, HB.out⟩

end Go.Proofs.Ytgkojedgamglgaa
