/- The walks of the statements HeadBack and HeadOne. No condition but that the numbers are ints. -/
import Derived.Test.YtgkojedgamglgaaHeadWalks2
import Derived.Test.YtgkojedgamglgaaGeomData
import Derived.Test.YtgkojedgamglgaaEngQ
import Derived.KernelRfl
namespace Go.Proofs.Ytgkojedgamglgaa
open Go.RowKit
set_option linter.unusedVariables false
set_option linter.unusedSimpArgs false
theorem headAwake_any (w : World) : Calls Try.prog 25 #[] w fun e w' => e = .returned (.bool true) ∧ Below w.heap.size w w' :=
  Eng.isTrue_ok (by kernel_rfl) (by kernel_rfl) (lf := 5000) (d := 200) (by kernel_rfl) w
theorem equalIn_same (p : BitVec 64) (w : World) : Sem.run Try.prog (Op.equalIn 9999 22 (U p) (U p)) w = .ok true w := by
  show Sem.run _ (Op.equalIn 9999 22 (.int .u64 (p.toNat : Int)) (.int .u64 (p.toNat : Int))) w = _
  go_simp
theorem getV_ok {xs : List (BitVec 64)} (h : headOk xs = true) : getV xs = .tuple #[headV (geoW xs) (xs.getD 6 0), .bool true] := by
  unfold getV
  rw [if_pos h]
theorem getV_none {xs : List (BitVec 64)} (h : headOk xs = false) : getV xs = .tuple #[headZ, .bool false] := by
  unfold getV
  rw [h]
  rfl
theorem getV_back {g : Geo} (h : g.good = true) (p : BitVec 64) : getV (headW g p) = .tuple #[headV g p, .bool true] := by
  obtain ⟨h1, h2, h3⟩ := headOk_back h p
  rw [getV_ok h1, h2, h3]
theorem hPut_good {g : Geo} (h : g.good = true) (p : BitVec 64) (W : World) :
    Calls Try.prog 26 #[headV g p] W fun e w' => (∃ B d, e = .returned (.slice B 8 d) ∧ OwnU w' W.heap.size B (headW g p) d) ∧ Below W.heap.size W w' := by
  have k := hPut_any g p W
  rw [headW_len, if_pos h] at k
  exact k
theorem hPut_bad {g : Geo} (h : g.good = false) (p : BitVec 64) (W : World) :
    Calls Try.prog 26 #[headV g p] W fun e w' => (∃ B d, e = .returned (.slice B 0 d)) ∧ Below W.heap.size W w' := by
  have k := hPut_any g p W
  rw [headW_len, if_neg (by rw [h]; decide)] at k
  exact k.mono fun e w' hh => ⟨by obtain ⟨⟨B, d, e1, _⟩, _⟩ := hh; exact ⟨B, d, e1⟩, hh.2⟩
theorem hGet_eight {xs : List (BitVec 64)} (hl : xs.length = 8) (A : Option Addr) (c base : Nat) (w : World) (ho : OwnU w base A xs c) (V : Value) (hV : getV xs = V) :
    Calls Try.prog 30 #[.slice A 8 c] w fun e w' => e = .returned V ∧ Below w.heap.size w w' := by
  have k := hGet_any xs A c w ho.rd ho.cap.1 ho.cap.2
  rw [hl, hV] at k
  exact k
set_option maxRecDepth 100000 in
set_option maxHeartbeats 4000000 in
theorem HeadBack_walk (g : Geo) (p : BitVec 64) (w : World) (hf : g.Fit) :
    Calls Try.prog 8 #[headV g p] w fun e w' => e = .returned (.bool true) ∧ Below w.heap.size w w' := by
  have KA := Lib.hid (fun W => headAwake_any W)
  have KG := Lib.hid (fun W => ggood_any g W)
  by_cases hg : g.good = true
  · rw [hg] at KG
    have KP := Lib.hid (fun W => hPut_good hg p W)
    have KD := Lib.hid (fun W => gData_any g W)
    simp only [if_pos hg] at KD
    have HGV := Lib.hid (getV_back hg p)
    have HLN := Lib.hid (show (headW g p).length = 8 by rw [headW_len, if_pos hg])
    obtain ⟨hIn, hdn⟩ := (Geo.good_iff g).1 hg
    have h1 := hIn.1
    have h2 := hIn.2.1
    have e1 : IntKind.i64.wrap (g.df + g.dn) = g.b - 1 := by
      have : g.dn = g.b - 1 - g.df := rfl
      rw [IntWalk.i64_in _ (by omega)]
      omega
    have e2 : IntKind.i64.wrap (g.b - 1) = g.b - 1 := IntWalk.i64_in _ (by omega)
    have h0 : 0 < g.dn := by omega
    generalize g.df = df at *
    generalize g.dn = dn at *
    generalize headW g p = xs at *
    clear hIn hdn h1 h2 hg hf
    obtain ⟨b, n, c, k⟩ := g
    unfold headV at *
    simp only [Geo.v] at *
    have HX := Lib.hid ((Below.refl w.heap.size w).alloc (Nat.le_refl _) (.cells #[.int .i64 b, .int .i64 n, .int .i64 c, .int .i64 k, U p] 36))
    have HC := Lib.hid (fun (W : World) (h : Below (w.alloc (.cells #[.int .i64 b, .int .i64 n, .int .i64 c, .int .i64 k, U p] 36)).heap.size (w.alloc (.cells #[.int .i64 b, .int .i64 n, .int .i64 c, .int .i64 k, U p] 36)) W) => head_cells h)
    have HB := Lib.hid (Below.refl (w.alloc (.cells #[.int .i64 b, .int .i64 n, .int .i64 c, .int .i64 k, U p] 36)).heap.size (w.alloc (.cells #[.int .i64 b, .int .i64 n, .int .i64 c, .int .i64 k, U p] 36)))
    go_enter Try.func8, Try.ntmps8
    go_wp2_with fail
    refine (KA.out _).mono ?_
    rintro e w1 ⟨rfl, hb⟩
    have HB := Lib.hid (HB.out.trans (hb.mono HB.out.size))
    clear hb
    obtain ⟨c0, c1, c2, c3, c4⟩ := HC.out _ HB.out
    go_wp2_with fail
    refine (KP.out _).mono ?_
    rintro e w2 ⟨⟨B, d, rfl, ho⟩, hb⟩
    have HO := Lib.hid ho
    have HB := Lib.hid (HB.out.trans (hb.mono HB.out.size))
    clear hb ho c0 c1 c2 c3 c4
    obtain ⟨c0, c1, c2, c3, c4⟩ := HC.out _ HB.out
    go_wp2_with fail
    refine (KG.out _).mono ?_
    rintro e w3 ⟨rfl, hb⟩
    have HO := Lib.hid (HO.out.below hb)
    have HB := Lib.hid (HB.out.trans (hb.mono HB.out.size))
    clear hb c0 c1 c2 c3 c4
    obtain ⟨c0, c1, c2, c3, c4⟩ := HC.out _ HB.out
    go_wp2_with fail
    refine (hGet_eight HLN.out B d _ _ HO.out _ HGV.out).mono ?_
    rintro e w4 ⟨rfl, hb⟩
    have HB := Lib.hid (HB.out.trans (hb.mono HB.out.size))
    clear hb c0 c1 c2 c3 c4
    obtain ⟨c0, c1, c2, c3, c4⟩ := HC.out _ HB.out
    go_wp2_with fail
    refine (KD.out _).mono ?_
    rintro e w5 ⟨rfl, hb⟩
    obtain ⟨d0, d1, d2, d3, d4⟩ := head_cells hb
    have HB := Lib.hid ((HB.out.alloc HB.out.size (.cells #[.int .i64 b, .int .i64 n, .int .i64 c, .int .i64 k, U p] 36)).trans (hb.mono (by have := HB.out.size; simp at *; omega)))
    clear hb c0 c1 c2 c3 c4
    obtain ⟨c0, c1, c2, c3, c4⟩ := HC.out _ HB.out
    have heq := equalIn_same p w5
    go_wp2
    go_ret
    exact ⟨rfl, HX.out.trans (HB.out.mono HX.out.size)⟩
  · have hg' : g.good = false := by simpa using hg
    rw [hg'] at KG
    have KP := Lib.hid (fun W => hPut_bad hg' p W)
    clear hg hg' hf
    obtain ⟨b, n, c, k⟩ := g
    unfold headV at *
    simp only [Geo.v] at *
    have HX := Lib.hid ((Below.refl w.heap.size w).alloc (Nat.le_refl _) (.cells #[.int .i64 b, .int .i64 n, .int .i64 c, .int .i64 k, U p] 36))
    have HC := Lib.hid (fun (W : World) (h : Below (w.alloc (.cells #[.int .i64 b, .int .i64 n, .int .i64 c, .int .i64 k, U p] 36)).heap.size (w.alloc (.cells #[.int .i64 b, .int .i64 n, .int .i64 c, .int .i64 k, U p] 36)) W) => head_cells h)
    have HB := Lib.hid (Below.refl (w.alloc (.cells #[.int .i64 b, .int .i64 n, .int .i64 c, .int .i64 k, U p] 36)).heap.size (w.alloc (.cells #[.int .i64 b, .int .i64 n, .int .i64 c, .int .i64 k, U p] 36)))
    go_enter Try.func8, Try.ntmps8
    go_wp2_with fail
    refine (KA.out _).mono ?_
    rintro e w1 ⟨rfl, hb⟩
    have HB := Lib.hid (HB.out.trans (hb.mono HB.out.size))
    clear hb
    obtain ⟨c0, c1, c2, c3, c4⟩ := HC.out _ HB.out
    go_wp2_with fail
    refine (KP.out _).mono ?_
    rintro e w2 ⟨⟨B, d, rfl⟩, hb⟩
    have HB := Lib.hid (HB.out.trans (hb.mono HB.out.size))
    clear hb c0 c1 c2 c3 c4
    obtain ⟨c0, c1, c2, c3, c4⟩ := HC.out _ HB.out
    go_wp2_with fail
    refine (KG.out _).mono ?_
    rintro e w3 ⟨rfl, hb⟩
    have HB := Lib.hid (HB.out.trans (hb.mono HB.out.size))
    clear hb
    go_wp2
    go_ret
    exact ⟨rfl, HX.out.trans (HB.out.mono HX.out.size)⟩
end Go.Proofs.Ytgkojedgamglgaa
