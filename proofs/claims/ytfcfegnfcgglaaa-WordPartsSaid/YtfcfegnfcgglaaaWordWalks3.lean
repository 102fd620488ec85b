/- Contracts of word.Bytes, word.Words, bytes.Clone and the reference's Bytes and Words. Condition: a slice that is given can be read, and is not longer than 1000. -/
import Derived.Test.YtfcfegnfcgglaaaWordWalks2
namespace Go.Proofs.Ytfcfegnfcgglaaa
open Go.RowKit
set_option linter.unusedVariables false

theorem bytes8_take_snoc (v : BitVec 64) (k : Nat) (h : k < 8) : (bytes8 v).take (k + 1) = (bytes8 v).take k ++ [byteAt v k] := by
  rw [take_snoc _ k (by rw [length_bytes8]; exact h), bytes8_get]
theorem appY {w : World} {ops : Array Oper} {rest : List Oper} {o : Oper} {a : Act} {Q : Exit → Act → World → Prop} (s x : Operand) (hw : Region.wanted o (yielded ops a.tmps) = true)
    (ho : o.op = .call { callee := .builtin .append, args := #[s, x], argTypes := #[37, 37] })
    (base : Nat) (A : Option Addr) (xs : List (BitVec 8)) (n c : Nat) (hs : a.eval s = .slice A n c) (hn : n = xs.length) (hown : OwnF Y 5 w base A xs c)
    (A2 : Option Addr) (ys : List (BitVec 8)) (m c2 : Nat) (hx : a.eval x = .slice A2 m c2) (hm : m = ys.length) (hr : RdF Y w A2 ys)
    (hb : xs.length + ys.length ≤ 1048576) (hbase : base ≤ w.heap.size)
    (h : ∀ A' zs c' w', zs = xs ++ ys → OwnF Y 5 w' base A' zs c' → w.grownBy w' (blk A) → (blk A' = blk A ∨ blk A' = some w.heap.size) → Stop (wpList Try.prog ops Q rest (a.put o.dst (.slice A' zs.length c')) w')) :
    Stop (wpList Try.prog ops Q (o :: rest) a w) :=
  appF (fun _ => rfl) _ _ _ 1 rfl (by omega) (by omega) Try.underlying37 infoY s x hw ho base A xs n c hs hn hown A2 ys m c2 hx hm hr hb hbase h

theorem Bytes_any (xs : List (BitVec 64)) (A : Option Addr) (c : Nat) (w : World) (hr : RdU w A xs) (hn : xs.length ≤ 1000) :
    Calls Try.prog 23 #[.slice A xs.length c] w fun e w' => (∃ B d, e = .returned (.slice B (bytesOf xs).length d) ∧ OwnF Y 5 w' w.heap.size B (bytesOf xs) d) ∧ Below w.heap.size w w' := by
  have HR := Lib.hid hr
  clear hr
  go_enter Try.func23, Try.ntmps23
  go_wp2
  go_loopw [3, 8] (fun out i wr => ∃ (k : Nat) (B : Option Addr) (zs : List (BitVec 8)) (d : Nat), k ≤ xs.length ∧ i = .int .i64 k ∧ out = .slice B zs.length d ∧ zs = bytesOf (xs.take k) ∧ OwnF Y 5 wr w.heap.size B zs d ∧ Below w.heap.size w wr) (fun _ i _ => xs.length - (intOf i).toNat)
  case atStart => exact ⟨0, none, [], 0, Nat.zero_le _, rfl, rfl, rfl, OwnF.nil_ _ _, Below.refl _ _⟩
  case round =>
    obtain ⟨k, B, zs, d, hk, rfl, rfl, hzs, hown, hb⟩ := hrel
    have HZ := Lib.hid hzs
    have HO := Lib.hid hown
    have HB := Lib.hid hb
    clear hzs hown hb
    by_cases hlt : k < xs.length
    · obtain ⟨b, off, rfl, hc⟩ := (HR.out.below HB.out).at_ hlt
      have hk1 := hc k hlt
      clear hc
      have hzl : zs.length ≤ 8000 := by rw [HZ.out, length_bytesOf]; simp; omega
      go_wp2
      obtain ⟨wo, hwo⟩ : ∃ wo : World, wo = wr := ⟨_, rfl⟩
      subst hwo
      go_loopw [3, 5, 12] (fun out v j wi => ∃ (q : Nat) (B' : Option Addr) (ys : List (BitVec 8)) (d' : Nat), q ≤ 8 ∧ j = .int .i64 q ∧ v = U (xs[k] >>> (8 * q)) ∧ out = .slice B' ys.length d' ∧ ys = zs ++ (bytes8 xs[k]).take q ∧ OwnF Y 5 wi w.heap.size B' ys d' ∧ Below w.heap.size w wi) (fun _ _ j _ => 8 - (intOf j).toNat)
      case atStart => exact ⟨0, B, zs, d, by omega, rfl, rfl, rfl, by simp, HO.out, HB.out⟩
      case round =>
        obtain ⟨q, B', ys, d', hq, rfl, rfl, rfl, hys, hown', hb'⟩ := hrel
        have HYS := Lib.hid hys
        have HO2 := Lib.hid hown'
        have HB2 := Lib.hid hb'
        clear hys hown' hb'
        by_cases hq8 : q < 8
        · have hyl : ys.length ≤ 8008 := by rw [HYS.out]; simp [length_bytes8]; omega
          have hz := HB2.out.size
          go_wp2_with (first | go_skip | (at_builtin; refine stop_ ?_))
          have hbx : Below wr.heap.size wr (wr.alloc (.cells #[Y ((xs[k] >>> (8 * q)).setWidth 8)] 5)) := (Below.refl _ _).alloc (Nat.le_refl _) _
          have hby := HB2.out.alloc hz (.cells #[Y ((xs[k] >>> (8 * q)).setWidth 8)] 5)
          have hox := HO2.out.below hbx
          refine appY (.tmp 14) (.tmp 17) rfl rfl w.heap.size B' ys _ d' rfl rfl hox (some ⟨wr.heap.size, 0, none⟩) [(xs[k] >>> (8 * q)).setWidth 8] 1 1 rfl rfl (RdF.new1 _ _ _) (by simp; omega) (by simp; omega) ?_
          intro B2 us d2 w2 hus hown2 hg2 _
          have HB3 := Lib.hid (below_appF hby hox hg2 (by simp; omega) (Nat.le_refl _))
          have HU := Lib.hid (show us = zs ++ (bytes8 xs[k]).take (q + 1) by
            rw [hus, HYS.out, bytes8_take_snoc _ _ hq8, List.append_assoc]; rfl)
          have HO3 := Lib.hid hown2
          clear hus hg2 hown2 hbx hby hox
          unfold Stop
          have HSH := Lib.hid (show (xs[k] >>> (8 * q)) >>> 8 = xs[k] >>> (8 * (q + 1)) by rw [← BitVec.shiftRight_add]; rfl)
          go_wp2
          go_roundw
          case rel => exact ⟨q + 1, B2, us, d2, by omega, by go_num, by rw [← HSH.out], rfl, HU.out, HO3.out, HB3.out⟩
          case measure => simp [intOf]; omega
        · have hq' : q = 8 := by omega
          have HU := Lib.hid (show ys = bytesOf (xs.take (k + 1)) by
            rw [HYS.out, HZ.out, take_snoc xs k hlt, bytesOf_snoc, List.take_of_length_le (show (bytes8 xs[k]).length ≤ q by rw [length_bytes8]; omega)])
          go_wp2
          go_roundw
          case rel => exact ⟨k + 1, B', ys, d', by omega, by go_num, rfl, HU.out, HO2.out, HB2.out⟩
          case measure => simp [intOf]; omega
    · go_wp2
      go_ret
      have hz : zs = bytesOf xs := by rw [HZ.out, List.take_of_length_le (by omega)]
      subst hz
      exact ⟨⟨B, d, rfl, HO.out⟩, HB.out⟩
end Go.Proofs.Ytfcfegnfcgglaaa
