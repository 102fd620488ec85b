/- The walk of the statement GeomParts. No condition but that the numbers are ints. -/
import Derived.Test.YtdadplpibdjjbaaRef6b
import Derived.Test.YtdadplpibdjjbaaGeomLaws
import Derived.Test.YtdadplpibdjjbaaFrame3
namespace Go.Proofs.Ytdadplpibdjjbaa
open Go.RowKit
set_option linter.unusedVariables false
set_option linter.unusedSimpArgs false
theorem geo_cells3 {w1 w2 w3 : World} {T : TypeId} {b n c k : Int} (h0 : Below (w1.alloc (.cells #[.int .i64 b, .int .i64 n, .int .i64 c, .int .i64 k] T)).heap.size (w1.alloc (.cells #[.int .i64 b, .int .i64 n, .int .i64 c, .int .i64 k] T)) w2) (h : Below w2.heap.size w2 w3) :
    w3.cell? ⟨w1.heap.size, 0, none⟩ = some (.int .i64 b) ∧ w3.cell? ⟨w1.heap.size, 1, none⟩ = some (.int .i64 n) ∧ w3.cell? ⟨w1.heap.size, 2, none⟩ = some (.int .i64 c) ∧ w3.cell? ⟨w1.heap.size, 3, none⟩ = some (.int .i64 k) := geo_cells (h0.trans (h.mono h0.size))
/-- Does a number lie there? -/
def ind (lo hi at_ : Int) : Int := if lo ≤ at_ ∧ at_ < hi then 1 else 0
/-- The number that a slot holds. -/
def NIs (v : Value) (m : Int) : Prop := v = .int .i64 m
theorem ind_or (lo hi x : Int) : ind lo hi x = 1 ∧ (lo ≤ x ∧ x < hi) ∨ ind lo hi x = 0 ∧ ¬ (lo ≤ x ∧ x < hi) := by
  unfold ind
  split <;> simp_all
set_option maxRecDepth 100000 in
set_option maxHeartbeats 8000000 in
theorem GeomParts_walk (g : Geo) (x : Int) (w : World) (hf : g.Fit) (hx1 : -9223372036854775808 ≤ x) (hx2 : x ≤ 9223372036854775807) :
    Calls Try.prog 12 #[g.v, .int .i64 x] w fun e w' => e = .returned (.bool true) ∧ Below w.heap.size w w' := by
  have KA := Lib.hid (fun W => geomAwake_any W)
  have KG := Lib.hid (fun W => ggood_any g W)
  by_cases hg : g.good = true
  · obtain ⟨hIn, hdn⟩ := (Geo.good_iff g).1 hg
    rw [hg] at KG
    by_cases hr : 0 ≤ x ∧ x < g.b
    · obtain ⟨x1, x2⟩ := hr
      have KK := Lib.hid (fun W => gBack_any g W)
      have KI := Lib.hid (fun W => gBits_any g W)
      have KL := Lib.hid (fun W => gLost_any g W)
      have KD := Lib.hid (fun W => gData_any g W)
      simp only [if_pos hg] at KK KI KL KD
      have KB := Lib.hid (fun (m : Int) (p : Int) (h0 : 0 ≤ m) (h1 : m < g.c) (hp : 1 + m * g.k = p) (W : World) => show Calls Try.prog 44 #[g.v, .int .i64 m] W fun e w' => e = .returned (.tuple #[.int .i64 p, .int .i64 g.k]) ∧ Below W.heap.size W w' by
        have h := gBooks_any g m W
        rw [if_pos ⟨hg, h0, h1⟩, if_pos ⟨hg, h0, h1⟩, hp] at h
        exact h)
      have KN := Lib.hid (fun (m : Int) (v : Int) (h0 : 1 ≤ m) (h1 : m ≤ g.n) (hv : g.fr + g.bn + m - 1 = v) (W : World) => show Calls Try.prog 43 #[g.v, .int .i64 m] W fun e w' => e = .returned (.int .i64 v) ∧ Below W.heap.size W w' by
        have h := gNode_any g m W
        unfold Geo.nd at h
        rw [if_pos ⟨hg, h0, h1⟩, hv] at h
        exact h)
      have HM := Lib.hid (fun (i : Int) (h0 : 0 ≤ i) (h1 : i < g.c) => hIn.mul h0 h1)
      have hfr : g.fr = 1 + g.c * g.k := rfl
      have hbn : g.bn = (g.b + 511) / 512 := rfl
      have hdf : g.df = g.fr + g.bn + 2 * g.n := rfl
      have hdn2 : g.dn = g.b - 1 - g.df := rfl
      obtain ⟨q1, q2, q3, q4⟩ := hIn.bounds
      obtain ⟨r1, r2, r3, r4, r5, r6, r7, r8⟩ := hIn
      have e9 : IntKind.i64.wrap (g.fr + g.bn) = g.fr + g.bn := IntWalk.i64_in _ (by omega)
      have e10 : IntKind.i64.wrap (g.fr + g.bn + g.n + g.n) = g.df := by rw [IntWalk.i64_in _ (by omega)]; omega
      have e11 : IntKind.i64.wrap (g.df + g.dn) = g.b - 1 := by rw [IntWalk.i64_in _ (by omega)]; omega
      have e12 : IntKind.i64.wrap (g.bn * 512) = g.bn * 512 := IntWalk.i64_in _ (by omega)
      have f1 : g.b ≤ g.bn * 512 := by omega
      have HDF := Lib.hid hdf
      have HDN := Lib.hid hdn2
      have HFR := Lib.hid hfr
      clear hdf hdn2 hfr hbn
      generalize g.fr = fr at *
      generalize g.bn = bn at *
      generalize g.df = df at *
      generalize g.dn = dn at *
      clear hg hf
      by_cases z0 : x = 0
      · have z3 : (x == 0) = true := by simpa using z0
        have z1 : ¬ x = g.b - 1 := by omega
        have z2 : (x == g.b - 1) = false := by simpa using z1
        have Z0 := Lib.hid z0
        clear z0 z1
        obtain ⟨b, n, c, k⟩ := g
        simp only [Geo.v] at *
        have HX0 := Lib.hid ((Below.refl w.heap.size w).alloc (Nat.le_refl _) (.cells #[.int .i64 b, .int .i64 n, .int .i64 c, .int .i64 k] 45))
        go_enter Try.func12, Try.ntmps12
        go_wp2_with fail
        refine (KA.out _).mono ?_
        rintro e w1 ⟨rfl, hb1⟩
        have HX := Lib.hid (HX0.out.trans (hb1.mono HX0.out.size))
        obtain ⟨c0, c1, c2, c3⟩ := geo_cells hb1
        have HC := Lib.hid (fun (W : World) (h : Below w1.heap.size w1 W) => geo_cells3 hb1 h)
        have HB := Lib.hid (Below.refl w1.heap.size w1)
        clear hb1 HX0
        go_wp2_with fail
        refine (KG.out _).mono ?_
        rintro e w2 ⟨rfl, hb⟩
        have HB := Lib.hid (HB.out.trans (hb.mono HB.out.size))
        clear c0 c1 c2 c3
        obtain ⟨c0, c1, c2, c3⟩ := HC.out _ HB.out
        clear hb
        go_wp2_with fail
        refine (KK.out _).mono ?_
        rintro e w3 ⟨rfl, hb⟩
        have HB := Lib.hid (HB.out.trans (hb.mono HB.out.size))
        clear c0 c1 c2 c3
        obtain ⟨c0, c1, c2, c3⟩ := HC.out _ HB.out
        clear hb
        go_wp2
        clear z3 z2
        go_loopw [5, 6] (fun n' c' wr => ∃ (i : Nat) (s : Int), c' = .int .i64 i ∧ (i : Int) ≤ c ∧ n' = .int .i64 s ∧ Go.RowKit.Hid (s = 1 + ind 1 (1 + (i : Int) * k) x) ∧ Below w1.heap.size w1 wr) (fun _ c' _ => c.toNat - (intOf c').toNat)
        case atStart => exact ⟨0, 1, rfl, by omega, rfl, Lib.hid (by unfold ind; rw [if_neg (by omega)]; rfl), HB.out⟩
        case round =>
          clear HB
          obtain ⟨i, s, rfl, hic, rfl, hr, hbw⟩ := hrel
          have hr := hr.out
          have HB := Lib.hid hbw
          clear hbw
          clear c0 c1 c2 c3
          obtain ⟨c0, c1, c2, c3⟩ := HC.out _ HB.out
          by_cases hlt : (i : Int) < c
          · have hmul := HM.out i (by omega) hlt
            have hnx : ((i + 1 : Nat) : Int) * k = (i : Int) * k + k := by rw [Int.natCast_add, Int.add_mul]; simp
            obtain ⟨p, hp⟩ : ∃ p, (i : Int) * k = p := ⟨_, rfl⟩
            rw [hp] at hr hnx hmul
            have hri := ind_or 1 (1 + p) x
            have hrn := ind_or 1 (1 + p + k) x
            have e1 : IntKind.i64.wrap ((i : Int) + 1) = (i : Int) + 1 := IntWalk.i64_in _ (by omega)
            have e2 : IntKind.i64.wrap (1 + p + k) = 1 + p + k := IntWalk.i64_in _ (by omega)
            have e3 : IntKind.i64.wrap (s + 1) = s + 1 := IntWalk.i64_in _ (by omega)
            have HK := Lib.hid (KB.out i (1 + p) (by omega) hlt (by rw [hp]))
            have HNX := Lib.hid hnx
            by_cases t0 : x < 1 + p
            · have t9 : ¬ 1 + p ≤ x := by omega
              have HRN := Lib.hid (show s = 1 + ind 1 (1 + p + k) x by omega)
              clear hri hrn hmul hnx hp hr
              go_wp2_with fail
              refine (HK.out _).mono ?_
              rintro e w5 ⟨rfl, hb⟩
              have HB := Lib.hid (HB.out.trans (hb.mono HB.out.size))
              clear c0 c1 c2 c3
              obtain ⟨c0, c1, c2, c3⟩ := HC.out _ HB.out
              clear hb
              go_wp2
              go_roundw
              case rel => exact ⟨i + 1, s, by go_num, by omega, by first | rfl | go_num, Lib.hid (HRN.out.trans (by rw [HNX.out, ← Int.add_assoc])), HB.out⟩
              case measure => simp [intOf]; omega
            by_cases t1 : x < 1 + p + k
            · have t9 : 1 + p ≤ x := by omega
              have HRN := Lib.hid (show s + 1 = 1 + ind 1 (1 + p + k) x by omega)
              clear hri hrn hmul hnx hp hr
              go_wp2_with fail
              refine (HK.out _).mono ?_
              rintro e w5 ⟨rfl, hb⟩
              have HB := Lib.hid (HB.out.trans (hb.mono HB.out.size))
              clear c0 c1 c2 c3
              obtain ⟨c0, c1, c2, c3⟩ := HC.out _ HB.out
              clear hb
              go_wp2
              go_roundw
              case rel => exact ⟨i + 1, s + 1, by go_num, by omega, by first | rfl | go_num, Lib.hid (HRN.out.trans (by rw [HNX.out, ← Int.add_assoc])), HB.out⟩
              case measure => simp [intOf]; omega
            have t9 : 1 + p ≤ x := by omega
            have HRN := Lib.hid (show s = 1 + ind 1 (1 + p + k) x by omega)
            clear hri hrn hmul hnx hp hr
            go_wp2_with fail
            refine (HK.out _).mono ?_
            rintro e w5 ⟨rfl, hb⟩
            have HB := Lib.hid (HB.out.trans (hb.mono HB.out.size))
            clear c0 c1 c2 c3
            obtain ⟨c0, c1, c2, c3⟩ := HC.out _ HB.out
            clear hb
            go_wp2
            go_roundw
            case rel => exact ⟨i + 1, s, by go_num, by omega, by first | rfl | go_num, Lib.hid (HRN.out.trans (by rw [HNX.out, ← Int.add_assoc])), HB.out⟩
            case measure => simp [intOf]; omega
          · obtain hic2 : (i : Int) = c := by omega
            rw [hic2, ← HFR.out] at hr
            have HS := Lib.hid hr
            have hr01 := ind_or 1 fr x
            have hs01 : 0 ≤ s ∧ s ≤ 2 := by omega
            obtain ⟨hs0, hs1⟩ := hs01
            clear hr hic hr01
            go_wp2
            go_loopw [5, 9] (fun n' i' wr => ∃ (j : Nat) (s2 : Int), i' = .int .i64 ((j : Int) + 1) ∧ (j : Int) ≤ n ∧ n' = .int .i64 s2 ∧ Go.RowKit.Hid (s2 = s + ind (fr + bn) (fr + bn + j) x) ∧ Below w1.heap.size w1 wr) (fun _ i' _ => n.toNat + 1 - (intOf i').toNat)
            case atStart => exact ⟨0, s, by go_num, by omega, rfl, Lib.hid (by unfold ind; rw [if_neg (by omega), Int.add_zero]), HB.out⟩
            case round =>
              clear HB
              obtain ⟨j, s2, rfl, hjn, rfl, hr2, hbw⟩ := hrel
              have hr2 := hr2.out
              have HB := Lib.hid hbw
              clear hbw
              clear c0 c1 c2 c3
              obtain ⟨c0, c1, c2, c3⟩ := HC.out _ HB.out
              by_cases hlt2 : (j : Int) + 1 ≤ n
              · have hri := ind_or (fr + bn) (fr + bn + j) x
                have hrn := ind_or (fr + bn) (fr + bn + (j + 1 : Nat)) x
                have e1 : IntKind.i64.wrap ((j : Int) + 1 + 1) = (j : Int) + 1 + 1 := IntWalk.i64_in _ (by omega)
                have e3 : IntKind.i64.wrap (s2 + 1) = s2 + 1 := IntWalk.i64_in _ (by omega)
                obtain ⟨v, hv⟩ : ∃ v, fr + bn + ((j : Int) + 1) - 1 = v := ⟨_, rfl⟩
                have HK := Lib.hid (KN.out ((j : Int) + 1) v (by omega) hlt2 hv)
                by_cases t0 : x = v
                · have HRN := Lib.hid (show s2 + 1 = s + ind (fr + bn) (fr + bn + (j + 1 : Nat)) x by omega)
                  have t1 : (x == v) = true := by simpa using t0
                  clear hri hrn hv hr2
                  clear t0
                  go_wp2_with fail
                  refine (HK.out _).mono ?_
                  rintro e w5 ⟨rfl, hb⟩
                  have HB := Lib.hid (HB.out.trans (hb.mono HB.out.size))
                  clear c0 c1 c2 c3
                  obtain ⟨c0, c1, c2, c3⟩ := HC.out _ HB.out
                  clear hb
                  go_wp2
                  go_roundw
                  case rel => exact ⟨j + 1, s2 + 1, by go_num, by omega, by first | rfl | go_num, Lib.hid HRN.out, HB.out⟩
                  case measure => simp [intOf]; omega
                · have HRN := Lib.hid (show s2 = s + ind (fr + bn) (fr + bn + (j + 1 : Nat)) x by omega)
                  have t1 : (x == v) = false := by simpa using t0
                  clear hri hrn hv hr2
                  go_wp2_with fail
                  refine (HK.out _).mono ?_
                  rintro e w5 ⟨rfl, hb⟩
                  have HB := Lib.hid (HB.out.trans (hb.mono HB.out.size))
                  clear c0 c1 c2 c3
                  obtain ⟨c0, c1, c2, c3⟩ := HC.out _ HB.out
                  clear hb
                  go_wp2
                  go_roundw
                  case rel => exact ⟨j + 1, s2, by go_num, by omega, by first | rfl | go_num, Lib.hid HRN.out, HB.out⟩
                  case measure => simp [intOf]; omega
              · obtain hjn2 : (j : Int) = n := by omega
                rw [hjn2] at hr2
                have HS2 := Lib.hid hr2
                clear hr2 hjn
                have p0 : ¬ fr ≤ x := by have := Z0.out; have := HDF.out; have := HDN.out; omega
                have p1 : ¬ fr + bn + n ≤ x := by have := Z0.out; have := HDF.out; have := HDN.out; omega
                have p2 : ¬ df ≤ x := by have := Z0.out; have := HDF.out; have := HDN.out; omega
                obtain rfl : s2 = 1 := by have := Z0.out; have := HDF.out; have := HDN.out; have := HS.out; have := HS2.out; rcases ind_or 1 fr x with h | h <;> rcases ind_or (fr + bn) (fr + bn + n) x with h2 | h2 <;> omega
                clear HS HS2
                go_wp2_with fail
                refine (KI.out _).mono ?_
                rintro e w7 ⟨rfl, hb⟩
                have HB := Lib.hid (HB.out.trans (hb.mono HB.out.size))
                clear c0 c1 c2 c3
                obtain ⟨c0, c1, c2, c3⟩ := HC.out _ HB.out
                clear hb
                go_wp2_with fail
                refine (KL.out _).mono ?_
                rintro e w8 ⟨rfl, hb⟩
                have HB := Lib.hid (HB.out.trans (hb.mono HB.out.size))
                clear c0 c1 c2 c3
                obtain ⟨c0, c1, c2, c3⟩ := HC.out _ HB.out
                clear hb
                go_wp2_with fail
                refine (KD.out _).mono ?_
                rintro e w9 ⟨rfl, hb⟩
                have HB := Lib.hid (HB.out.trans (hb.mono HB.out.size))
                clear c0 c1 c2 c3
                obtain ⟨c0, c1, c2, c3⟩ := HC.out _ HB.out
                clear hb
                go_wp2
                go_ret
                exact ⟨rfl, HX.out.trans (HB.out.mono HX.out.size)⟩
      by_cases z1 : x = g.b - 1
      · have z2 : (x == g.b - 1) = true := by simpa using z1
        have z3 : (x == 0) = false := by simpa using z0
        have Z1 := Lib.hid z1
        clear z1
        obtain ⟨b, n, c, k⟩ := g
        simp only [Geo.v] at *
        have HX0 := Lib.hid ((Below.refl w.heap.size w).alloc (Nat.le_refl _) (.cells #[.int .i64 b, .int .i64 n, .int .i64 c, .int .i64 k] 45))
        go_enter Try.func12, Try.ntmps12
        go_wp2_with fail
        refine (KA.out _).mono ?_
        rintro e w1 ⟨rfl, hb1⟩
        have HX := Lib.hid (HX0.out.trans (hb1.mono HX0.out.size))
        obtain ⟨c0, c1, c2, c3⟩ := geo_cells hb1
        have HC := Lib.hid (fun (W : World) (h : Below w1.heap.size w1 W) => geo_cells3 hb1 h)
        have HB := Lib.hid (Below.refl w1.heap.size w1)
        clear hb1 HX0
        go_wp2_with fail
        refine (KG.out _).mono ?_
        rintro e w2 ⟨rfl, hb⟩
        have HB := Lib.hid (HB.out.trans (hb.mono HB.out.size))
        clear c0 c1 c2 c3
        obtain ⟨c0, c1, c2, c3⟩ := HC.out _ HB.out
        clear hb
        go_wp2_with fail
        refine (KK.out _).mono ?_
        rintro e w3 ⟨rfl, hb⟩
        have HB := Lib.hid (HB.out.trans (hb.mono HB.out.size))
        clear c0 c1 c2 c3
        obtain ⟨c0, c1, c2, c3⟩ := HC.out _ HB.out
        clear hb
        go_wp2
        clear z2 z3 z0
        go_loopw [5, 6] (fun n' c' wr => ∃ (i : Nat) (s : Int), c' = .int .i64 i ∧ (i : Int) ≤ c ∧ n' = .int .i64 s ∧ Go.RowKit.Hid (s = 1 + ind 1 (1 + (i : Int) * k) x) ∧ Below w1.heap.size w1 wr) (fun _ c' _ => c.toNat - (intOf c').toNat)
        case atStart => exact ⟨0, 1, rfl, by omega, rfl, Lib.hid (by unfold ind; rw [if_neg (by omega)]; rfl), HB.out⟩
        case round =>
          clear HB
          obtain ⟨i, s, rfl, hic, rfl, hr, hbw⟩ := hrel
          have hr := hr.out
          have HB := Lib.hid hbw
          clear hbw
          clear c0 c1 c2 c3
          obtain ⟨c0, c1, c2, c3⟩ := HC.out _ HB.out
          by_cases hlt : (i : Int) < c
          · have hmul := HM.out i (by omega) hlt
            have hnx : ((i + 1 : Nat) : Int) * k = (i : Int) * k + k := by rw [Int.natCast_add, Int.add_mul]; simp
            obtain ⟨p, hp⟩ : ∃ p, (i : Int) * k = p := ⟨_, rfl⟩
            rw [hp] at hr hnx hmul
            have hri := ind_or 1 (1 + p) x
            have hrn := ind_or 1 (1 + p + k) x
            have e1 : IntKind.i64.wrap ((i : Int) + 1) = (i : Int) + 1 := IntWalk.i64_in _ (by omega)
            have e2 : IntKind.i64.wrap (1 + p + k) = 1 + p + k := IntWalk.i64_in _ (by omega)
            have e3 : IntKind.i64.wrap (s + 1) = s + 1 := IntWalk.i64_in _ (by omega)
            have HK := Lib.hid (KB.out i (1 + p) (by omega) hlt (by rw [hp]))
            have HNX := Lib.hid hnx
            by_cases t0 : x < 1 + p
            · have t9 : ¬ 1 + p ≤ x := by omega
              have HRN := Lib.hid (show s = 1 + ind 1 (1 + p + k) x by omega)
              clear hri hrn hmul hnx hp hr
              go_wp2_with fail
              refine (HK.out _).mono ?_
              rintro e w5 ⟨rfl, hb⟩
              have HB := Lib.hid (HB.out.trans (hb.mono HB.out.size))
              clear c0 c1 c2 c3
              obtain ⟨c0, c1, c2, c3⟩ := HC.out _ HB.out
              clear hb
              go_wp2
              go_roundw
              case rel => exact ⟨i + 1, s, by go_num, by omega, by first | rfl | go_num, Lib.hid (HRN.out.trans (by rw [HNX.out, ← Int.add_assoc])), HB.out⟩
              case measure => simp [intOf]; omega
            by_cases t1 : x < 1 + p + k
            · have t9 : 1 + p ≤ x := by omega
              have HRN := Lib.hid (show s + 1 = 1 + ind 1 (1 + p + k) x by omega)
              clear hri hrn hmul hnx hp hr
              go_wp2_with fail
              refine (HK.out _).mono ?_
              rintro e w5 ⟨rfl, hb⟩
              have HB := Lib.hid (HB.out.trans (hb.mono HB.out.size))
              clear c0 c1 c2 c3
              obtain ⟨c0, c1, c2, c3⟩ := HC.out _ HB.out
              clear hb
              go_wp2
              go_roundw
              case rel => exact ⟨i + 1, s + 1, by go_num, by omega, by first | rfl | go_num, Lib.hid (HRN.out.trans (by rw [HNX.out, ← Int.add_assoc])), HB.out⟩
              case measure => simp [intOf]; omega
            have t9 : 1 + p ≤ x := by omega
            have HRN := Lib.hid (show s = 1 + ind 1 (1 + p + k) x by omega)
            clear hri hrn hmul hnx hp hr
            go_wp2_with fail
            refine (HK.out _).mono ?_
            rintro e w5 ⟨rfl, hb⟩
            have HB := Lib.hid (HB.out.trans (hb.mono HB.out.size))
            clear c0 c1 c2 c3
            obtain ⟨c0, c1, c2, c3⟩ := HC.out _ HB.out
            clear hb
            go_wp2
            go_roundw
            case rel => exact ⟨i + 1, s, by go_num, by omega, by first | rfl | go_num, Lib.hid (HRN.out.trans (by rw [HNX.out, ← Int.add_assoc])), HB.out⟩
            case measure => simp [intOf]; omega
          · obtain hic2 : (i : Int) = c := by omega
            rw [hic2, ← HFR.out] at hr
            have HS := Lib.hid hr
            have hr01 := ind_or 1 fr x
            have hs01 : 0 ≤ s ∧ s ≤ 2 := by omega
            obtain ⟨hs0, hs1⟩ := hs01
            clear hr hic hr01
            go_wp2
            go_loopw [5, 9] (fun n' i' wr => ∃ (j : Nat) (s2 : Int), i' = .int .i64 ((j : Int) + 1) ∧ (j : Int) ≤ n ∧ n' = .int .i64 s2 ∧ Go.RowKit.Hid (s2 = s + ind (fr + bn) (fr + bn + j) x) ∧ Below w1.heap.size w1 wr) (fun _ i' _ => n.toNat + 1 - (intOf i').toNat)
            case atStart => exact ⟨0, s, by go_num, by omega, rfl, Lib.hid (by unfold ind; rw [if_neg (by omega), Int.add_zero]), HB.out⟩
            case round =>
              clear HB
              obtain ⟨j, s2, rfl, hjn, rfl, hr2, hbw⟩ := hrel
              have hr2 := hr2.out
              have HB := Lib.hid hbw
              clear hbw
              clear c0 c1 c2 c3
              obtain ⟨c0, c1, c2, c3⟩ := HC.out _ HB.out
              by_cases hlt2 : (j : Int) + 1 ≤ n
              · have hri := ind_or (fr + bn) (fr + bn + j) x
                have hrn := ind_or (fr + bn) (fr + bn + (j + 1 : Nat)) x
                have e1 : IntKind.i64.wrap ((j : Int) + 1 + 1) = (j : Int) + 1 + 1 := IntWalk.i64_in _ (by omega)
                have e3 : IntKind.i64.wrap (s2 + 1) = s2 + 1 := IntWalk.i64_in _ (by omega)
                obtain ⟨v, hv⟩ : ∃ v, fr + bn + ((j : Int) + 1) - 1 = v := ⟨_, rfl⟩
                have HK := Lib.hid (KN.out ((j : Int) + 1) v (by omega) hlt2 hv)
                by_cases t0 : x = v
                · have HRN := Lib.hid (show s2 + 1 = s + ind (fr + bn) (fr + bn + (j + 1 : Nat)) x by omega)
                  have t1 : (x == v) = true := by simpa using t0
                  clear hri hrn hv hr2
                  clear t0
                  go_wp2_with fail
                  refine (HK.out _).mono ?_
                  rintro e w5 ⟨rfl, hb⟩
                  have HB := Lib.hid (HB.out.trans (hb.mono HB.out.size))
                  clear c0 c1 c2 c3
                  obtain ⟨c0, c1, c2, c3⟩ := HC.out _ HB.out
                  clear hb
                  go_wp2
                  go_roundw
                  case rel => exact ⟨j + 1, s2 + 1, by go_num, by omega, by first | rfl | go_num, Lib.hid HRN.out, HB.out⟩
                  case measure => simp [intOf]; omega
                · have HRN := Lib.hid (show s2 = s + ind (fr + bn) (fr + bn + (j + 1 : Nat)) x by omega)
                  have t1 : (x == v) = false := by simpa using t0
                  clear hri hrn hv hr2
                  go_wp2_with fail
                  refine (HK.out _).mono ?_
                  rintro e w5 ⟨rfl, hb⟩
                  have HB := Lib.hid (HB.out.trans (hb.mono HB.out.size))
                  clear c0 c1 c2 c3
                  obtain ⟨c0, c1, c2, c3⟩ := HC.out _ HB.out
                  clear hb
                  go_wp2
                  go_roundw
                  case rel => exact ⟨j + 1, s2, by go_num, by omega, by first | rfl | go_num, Lib.hid HRN.out, HB.out⟩
                  case measure => simp [intOf]; omega
              · obtain hjn2 : (j : Int) = n := by omega
                rw [hjn2] at hr2
                have HS2 := Lib.hid hr2
                clear hr2 hjn
                have p0 : fr ≤ x := by have := Z1.out; have := HDF.out; have := HDN.out; omega
                have p1 : ¬ x < fr + bn := by have := Z1.out; have := HDF.out; have := HDN.out; omega
                have p2 : fr + bn + n ≤ x := by have := Z1.out; have := HDF.out; have := HDN.out; omega
                have p3 : ¬ x < df := by have := Z1.out; have := HDF.out; have := HDN.out; omega
                have p4 : df ≤ x := by have := Z1.out; have := HDF.out; have := HDN.out; omega
                have p5 : ¬ x < b - 1 := by have := Z1.out; have := HDF.out; have := HDN.out; omega
                obtain rfl : s2 = 1 := by have := Z1.out; have := HDF.out; have := HDN.out; have := HS.out; have := HS2.out; rcases ind_or 1 fr x with h | h <;> rcases ind_or (fr + bn) (fr + bn + n) x with h2 | h2 <;> omega
                clear HS HS2
                go_wp2_with fail
                refine (KI.out _).mono ?_
                rintro e w7 ⟨rfl, hb⟩
                have HB := Lib.hid (HB.out.trans (hb.mono HB.out.size))
                clear c0 c1 c2 c3
                obtain ⟨c0, c1, c2, c3⟩ := HC.out _ HB.out
                clear hb
                go_wp2_with fail
                refine (KL.out _).mono ?_
                rintro e w8 ⟨rfl, hb⟩
                have HB := Lib.hid (HB.out.trans (hb.mono HB.out.size))
                clear c0 c1 c2 c3
                obtain ⟨c0, c1, c2, c3⟩ := HC.out _ HB.out
                clear hb
                go_wp2_with fail
                refine (KD.out _).mono ?_
                rintro e w9 ⟨rfl, hb⟩
                have HB := Lib.hid (HB.out.trans (hb.mono HB.out.size))
                clear c0 c1 c2 c3
                obtain ⟨c0, c1, c2, c3⟩ := HC.out _ HB.out
                clear hb
                go_wp2
                go_ret
                exact ⟨rfl, HX.out.trans (HB.out.mono HX.out.size)⟩
      have z2 : (x == g.b - 1) = false := by simpa using z1
      have z3 : (x == 0) = false := by simpa using z0
      obtain ⟨b, n, c, k⟩ := g
      simp only [Geo.v] at *
      have HX0 := Lib.hid ((Below.refl w.heap.size w).alloc (Nat.le_refl _) (.cells #[.int .i64 b, .int .i64 n, .int .i64 c, .int .i64 k] 45))
      go_enter Try.func12, Try.ntmps12
      go_wp2_with fail
      refine (KA.out _).mono ?_
      rintro e w1 ⟨rfl, hb1⟩
      have HX := Lib.hid (HX0.out.trans (hb1.mono HX0.out.size))
      obtain ⟨c0, c1, c2, c3⟩ := geo_cells hb1
      have HC := Lib.hid (fun (W : World) (h : Below w1.heap.size w1 W) => geo_cells3 hb1 h)
      have HB := Lib.hid (Below.refl w1.heap.size w1)
      clear hb1 HX0
      go_wp2_with fail
      refine (KG.out _).mono ?_
      rintro e w2 ⟨rfl, hb⟩
      have HB := Lib.hid (HB.out.trans (hb.mono HB.out.size))
      clear c0 c1 c2 c3
      obtain ⟨c0, c1, c2, c3⟩ := HC.out _ HB.out
      clear hb
      go_wp2_with fail
      refine (KK.out _).mono ?_
      rintro e w3 ⟨rfl, hb⟩
      have HB := Lib.hid (HB.out.trans (hb.mono HB.out.size))
      clear c0 c1 c2 c3
      obtain ⟨c0, c1, c2, c3⟩ := HC.out _ HB.out
      clear hb
      go_wp2
      go_loopw [5, 6] (fun n' c' wr => ∃ (i : Nat) (s : Int), c' = .int .i64 i ∧ (i : Int) ≤ c ∧ n' = .int .i64 s ∧ Go.RowKit.Hid (s = 0 + ind 1 (1 + (i : Int) * k) x) ∧ Below w1.heap.size w1 wr) (fun _ c' _ => c.toNat - (intOf c').toNat)
      case atStart => exact ⟨0, 0, rfl, by omega, rfl, Lib.hid (by unfold ind; rw [if_neg (by omega)]; rfl), HB.out⟩
      case round =>
        clear HB
        obtain ⟨i, s, rfl, hic, rfl, hr, hbw⟩ := hrel
        have hr := hr.out
        have HB := Lib.hid hbw
        clear hbw
        clear c0 c1 c2 c3
        obtain ⟨c0, c1, c2, c3⟩ := HC.out _ HB.out
        by_cases hlt : (i : Int) < c
        · have hmul := HM.out i (by omega) hlt
          have hnx : ((i + 1 : Nat) : Int) * k = (i : Int) * k + k := by rw [Int.natCast_add, Int.add_mul]; simp
          obtain ⟨p, hp⟩ : ∃ p, (i : Int) * k = p := ⟨_, rfl⟩
          rw [hp] at hr hnx hmul
          have hri := ind_or 1 (1 + p) x
          have hrn := ind_or 1 (1 + p + k) x
          have e1 : IntKind.i64.wrap ((i : Int) + 1) = (i : Int) + 1 := IntWalk.i64_in _ (by omega)
          have e2 : IntKind.i64.wrap (1 + p + k) = 1 + p + k := IntWalk.i64_in _ (by omega)
          have e3 : IntKind.i64.wrap (s + 1) = s + 1 := IntWalk.i64_in _ (by omega)
          have HK := Lib.hid (KB.out i (1 + p) (by omega) hlt (by rw [hp]))
          have HNX := Lib.hid hnx
          by_cases t0 : x < 1 + p
          · have t9 : ¬ 1 + p ≤ x := by omega
            have HRN := Lib.hid (show s = 0 + ind 1 (1 + p + k) x by omega)
            clear hri hrn hmul hnx hp hr
            go_wp2_with fail
            refine (HK.out _).mono ?_
            rintro e w5 ⟨rfl, hb⟩
            have HB := Lib.hid (HB.out.trans (hb.mono HB.out.size))
            clear c0 c1 c2 c3
            obtain ⟨c0, c1, c2, c3⟩ := HC.out _ HB.out
            clear hb
            go_wp2
            go_roundw
            case rel => exact ⟨i + 1, s, by go_num, by omega, by first | rfl | go_num, Lib.hid (HRN.out.trans (by rw [HNX.out, ← Int.add_assoc])), HB.out⟩
            case measure => simp [intOf]; omega
          by_cases t1 : x < 1 + p + k
          · have t9 : 1 + p ≤ x := by omega
            have HRN := Lib.hid (show s + 1 = 0 + ind 1 (1 + p + k) x by omega)
            clear hri hrn hmul hnx hp hr
            go_wp2_with fail
            refine (HK.out _).mono ?_
            rintro e w5 ⟨rfl, hb⟩
            have HB := Lib.hid (HB.out.trans (hb.mono HB.out.size))
            clear c0 c1 c2 c3
            obtain ⟨c0, c1, c2, c3⟩ := HC.out _ HB.out
            clear hb
            go_wp2
            go_roundw
            case rel => exact ⟨i + 1, s + 1, by go_num, by omega, by first | rfl | go_num, Lib.hid (HRN.out.trans (by rw [HNX.out, ← Int.add_assoc])), HB.out⟩
            case measure => simp [intOf]; omega
          have t9 : 1 + p ≤ x := by omega
          have HRN := Lib.hid (show s = 0 + ind 1 (1 + p + k) x by omega)
          clear hri hrn hmul hnx hp hr
          go_wp2_with fail
          refine (HK.out _).mono ?_
          rintro e w5 ⟨rfl, hb⟩
          have HB := Lib.hid (HB.out.trans (hb.mono HB.out.size))
          clear c0 c1 c2 c3
          obtain ⟨c0, c1, c2, c3⟩ := HC.out _ HB.out
          clear hb
          go_wp2
          go_roundw
          case rel => exact ⟨i + 1, s, by go_num, by omega, by first | rfl | go_num, Lib.hid (HRN.out.trans (by rw [HNX.out, ← Int.add_assoc])), HB.out⟩
          case measure => simp [intOf]; omega
        · obtain hic2 : (i : Int) = c := by omega
          rw [hic2, ← HFR.out] at hr
          have HS := Lib.hid hr
          have hr01 := ind_or 1 fr x
          have hs01 : 0 ≤ s ∧ s ≤ 2 := by omega
          obtain ⟨hs0, hs1⟩ := hs01
          clear hr hic hr01
          go_wp2
          go_loopw [5, 9] (fun n' i' wr => ∃ (j : Nat) (s2 : Int), i' = .int .i64 ((j : Int) + 1) ∧ (j : Int) ≤ n ∧ n' = .int .i64 s2 ∧ Go.RowKit.Hid (s2 = s + ind (fr + bn) (fr + bn + j) x) ∧ Below w1.heap.size w1 wr) (fun _ i' _ => n.toNat + 1 - (intOf i').toNat)
          case atStart => exact ⟨0, s, by go_num, by omega, rfl, Lib.hid (by unfold ind; rw [if_neg (by omega), Int.add_zero]), HB.out⟩
          case round =>
            clear HB
            obtain ⟨j, s2, rfl, hjn, rfl, hr2, hbw⟩ := hrel
            have hr2 := hr2.out
            have HB := Lib.hid hbw
            clear hbw
            clear c0 c1 c2 c3
            obtain ⟨c0, c1, c2, c3⟩ := HC.out _ HB.out
            by_cases hlt2 : (j : Int) + 1 ≤ n
            · have hri := ind_or (fr + bn) (fr + bn + j) x
              have hrn := ind_or (fr + bn) (fr + bn + (j + 1 : Nat)) x
              have e1 : IntKind.i64.wrap ((j : Int) + 1 + 1) = (j : Int) + 1 + 1 := IntWalk.i64_in _ (by omega)
              have e3 : IntKind.i64.wrap (s2 + 1) = s2 + 1 := IntWalk.i64_in _ (by omega)
              obtain ⟨v, hv⟩ : ∃ v, fr + bn + ((j : Int) + 1) - 1 = v := ⟨_, rfl⟩
              have HK := Lib.hid (KN.out ((j : Int) + 1) v (by omega) hlt2 hv)
              by_cases t0 : x = v
              · have HRN := Lib.hid (show s2 + 1 = s + ind (fr + bn) (fr + bn + (j + 1 : Nat)) x by omega)
                have t1 : (x == v) = true := by simpa using t0
                clear hri hrn hv hr2
                clear t0
                go_wp2_with fail
                refine (HK.out _).mono ?_
                rintro e w5 ⟨rfl, hb⟩
                have HB := Lib.hid (HB.out.trans (hb.mono HB.out.size))
                clear c0 c1 c2 c3
                obtain ⟨c0, c1, c2, c3⟩ := HC.out _ HB.out
                clear hb
                go_wp2
                go_roundw
                case rel => exact ⟨j + 1, s2 + 1, by go_num, by omega, by first | rfl | go_num, Lib.hid HRN.out, HB.out⟩
                case measure => simp [intOf]; omega
              · have HRN := Lib.hid (show s2 = s + ind (fr + bn) (fr + bn + (j + 1 : Nat)) x by omega)
                have t1 : (x == v) = false := by simpa using t0
                clear hri hrn hv hr2
                go_wp2_with fail
                refine (HK.out _).mono ?_
                rintro e w5 ⟨rfl, hb⟩
                have HB := Lib.hid (HB.out.trans (hb.mono HB.out.size))
                clear c0 c1 c2 c3
                obtain ⟨c0, c1, c2, c3⟩ := HC.out _ HB.out
                clear hb
                go_wp2
                go_roundw
                case rel => exact ⟨j + 1, s2, by go_num, by omega, by first | rfl | go_num, Lib.hid HRN.out, HB.out⟩
                case measure => simp [intOf]; omega
            · obtain hjn2 : (j : Int) = n := by omega
              rw [hjn2] at hr2
              have HS2 := Lib.hid hr2
              clear hr2 hjn
              by_cases y1 : x < fr
              · have _yy := True.intro
                have p0 : ¬ fr ≤ x := by have := HDF.out; have := HDN.out; omega
                have p1 : ¬ fr + bn + n ≤ x := by have := HDF.out; have := HDN.out; omega
                have p2 : ¬ df ≤ x := by have := HDF.out; have := HDN.out; omega
                obtain rfl : s2 = 1 := by have := HDF.out; have := HDN.out; have := HS.out; have := HS2.out; rcases ind_or 1 fr x with h | h <;> rcases ind_or (fr + bn) (fr + bn + n) x with h2 | h2 <;> omega
                clear HS HS2
                clear y1
                go_wp2_with fail
                refine (KI.out _).mono ?_
                rintro e w7 ⟨rfl, hb⟩
                have HB := Lib.hid (HB.out.trans (hb.mono HB.out.size))
                clear c0 c1 c2 c3
                obtain ⟨c0, c1, c2, c3⟩ := HC.out _ HB.out
                clear hb
                go_wp2_with fail
                refine (KL.out _).mono ?_
                rintro e w8 ⟨rfl, hb⟩
                have HB := Lib.hid (HB.out.trans (hb.mono HB.out.size))
                clear c0 c1 c2 c3
                obtain ⟨c0, c1, c2, c3⟩ := HC.out _ HB.out
                clear hb
                go_wp2_with fail
                refine (KD.out _).mono ?_
                rintro e w9 ⟨rfl, hb⟩
                have HB := Lib.hid (HB.out.trans (hb.mono HB.out.size))
                clear c0 c1 c2 c3
                obtain ⟨c0, c1, c2, c3⟩ := HC.out _ HB.out
                clear hb
                go_wp2
                go_ret
                exact ⟨rfl, HX.out.trans (HB.out.mono HX.out.size)⟩
              have yn0 : ¬ x < fr := y1
              clear y1
              by_cases y1 : x < fr + bn
              · have _yy := True.intro
                have p0 : fr ≤ x := by have := HDF.out; have := HDN.out; omega
                have p1 : x < fr + bn := by have := HDF.out; have := HDN.out; omega
                have p2 : ¬ fr + bn + n ≤ x := by have := HDF.out; have := HDN.out; omega
                have p3 : ¬ df ≤ x := by have := HDF.out; have := HDN.out; omega
                obtain rfl : s2 = 0 := by have := HDF.out; have := HDN.out; have := HS.out; have := HS2.out; rcases ind_or 1 fr x with h | h <;> rcases ind_or (fr + bn) (fr + bn + n) x with h2 | h2 <;> omega
                clear HS HS2
                clear y1
                go_wp2_with fail
                refine (KI.out _).mono ?_
                rintro e w7 ⟨rfl, hb⟩
                have HB := Lib.hid (HB.out.trans (hb.mono HB.out.size))
                clear c0 c1 c2 c3
                obtain ⟨c0, c1, c2, c3⟩ := HC.out _ HB.out
                clear hb
                go_wp2_with fail
                refine (KL.out _).mono ?_
                rintro e w8 ⟨rfl, hb⟩
                have HB := Lib.hid (HB.out.trans (hb.mono HB.out.size))
                clear c0 c1 c2 c3
                obtain ⟨c0, c1, c2, c3⟩ := HC.out _ HB.out
                clear hb
                go_wp2_with fail
                refine (KD.out _).mono ?_
                rintro e w9 ⟨rfl, hb⟩
                have HB := Lib.hid (HB.out.trans (hb.mono HB.out.size))
                clear c0 c1 c2 c3
                obtain ⟨c0, c1, c2, c3⟩ := HC.out _ HB.out
                clear hb
                go_wp2
                go_ret
                exact ⟨rfl, HX.out.trans (HB.out.mono HX.out.size)⟩
              have yn1 : ¬ x < fr + bn := y1
              clear y1
              by_cases y1 : x < fr + bn + n
              · have _yy := True.intro
                have p0 : fr ≤ x := by have := HDF.out; have := HDN.out; omega
                have p1 : ¬ x < fr + bn := by have := HDF.out; have := HDN.out; omega
                have p2 : ¬ fr + bn + n ≤ x := by have := HDF.out; have := HDN.out; omega
                have p3 : ¬ df ≤ x := by have := HDF.out; have := HDN.out; omega
                obtain rfl : s2 = 1 := by have := HDF.out; have := HDN.out; have := HS.out; have := HS2.out; rcases ind_or 1 fr x with h | h <;> rcases ind_or (fr + bn) (fr + bn + n) x with h2 | h2 <;> omega
                clear HS HS2
                clear y1
                go_wp2_with fail
                refine (KI.out _).mono ?_
                rintro e w7 ⟨rfl, hb⟩
                have HB := Lib.hid (HB.out.trans (hb.mono HB.out.size))
                clear c0 c1 c2 c3
                obtain ⟨c0, c1, c2, c3⟩ := HC.out _ HB.out
                clear hb
                go_wp2_with fail
                refine (KL.out _).mono ?_
                rintro e w8 ⟨rfl, hb⟩
                have HB := Lib.hid (HB.out.trans (hb.mono HB.out.size))
                clear c0 c1 c2 c3
                obtain ⟨c0, c1, c2, c3⟩ := HC.out _ HB.out
                clear hb
                go_wp2_with fail
                refine (KD.out _).mono ?_
                rintro e w9 ⟨rfl, hb⟩
                have HB := Lib.hid (HB.out.trans (hb.mono HB.out.size))
                clear c0 c1 c2 c3
                obtain ⟨c0, c1, c2, c3⟩ := HC.out _ HB.out
                clear hb
                go_wp2
                go_ret
                exact ⟨rfl, HX.out.trans (HB.out.mono HX.out.size)⟩
              have yn2 : ¬ x < fr + bn + n := y1
              clear y1
              by_cases y1 : x < df
              · have _yy := True.intro
                have p0 : fr ≤ x := by have := HDF.out; have := HDN.out; omega
                have p1 : ¬ x < fr + bn := by have := HDF.out; have := HDN.out; omega
                have p2 : fr + bn + n ≤ x := by have := HDF.out; have := HDN.out; omega
                have p3 : x < df := by have := HDF.out; have := HDN.out; omega
                have p4 : ¬ df ≤ x := by have := HDF.out; have := HDN.out; omega
                obtain rfl : s2 = 0 := by have := HDF.out; have := HDN.out; have := HS.out; have := HS2.out; rcases ind_or 1 fr x with h | h <;> rcases ind_or (fr + bn) (fr + bn + n) x with h2 | h2 <;> omega
                clear HS HS2
                clear y1
                go_wp2_with fail
                refine (KI.out _).mono ?_
                rintro e w7 ⟨rfl, hb⟩
                have HB := Lib.hid (HB.out.trans (hb.mono HB.out.size))
                clear c0 c1 c2 c3
                obtain ⟨c0, c1, c2, c3⟩ := HC.out _ HB.out
                clear hb
                go_wp2_with fail
                refine (KL.out _).mono ?_
                rintro e w8 ⟨rfl, hb⟩
                have HB := Lib.hid (HB.out.trans (hb.mono HB.out.size))
                clear c0 c1 c2 c3
                obtain ⟨c0, c1, c2, c3⟩ := HC.out _ HB.out
                clear hb
                go_wp2_with fail
                refine (KD.out _).mono ?_
                rintro e w9 ⟨rfl, hb⟩
                have HB := Lib.hid (HB.out.trans (hb.mono HB.out.size))
                clear c0 c1 c2 c3
                obtain ⟨c0, c1, c2, c3⟩ := HC.out _ HB.out
                clear hb
                go_wp2
                go_ret
                exact ⟨rfl, HX.out.trans (HB.out.mono HX.out.size)⟩
              have yn3 : ¬ x < df := y1
              clear y1
              have y1 := True.intro
              have p0 : fr ≤ x := by have := HDF.out; have := HDN.out; omega
              have p1 : ¬ x < fr + bn := by have := HDF.out; have := HDN.out; omega
              have p2 : fr + bn + n ≤ x := by have := HDF.out; have := HDN.out; omega
              have p3 : ¬ x < df := by have := HDF.out; have := HDN.out; omega
              have p4 : df ≤ x := by have := HDF.out; have := HDN.out; omega
              have p5 : x < b - 1 := by have := HDF.out; have := HDN.out; omega
              obtain rfl : s2 = 0 := by have := HDF.out; have := HDN.out; have := HS.out; have := HS2.out; rcases ind_or 1 fr x with h | h <;> rcases ind_or (fr + bn) (fr + bn + n) x with h2 | h2 <;> omega
              clear HS HS2
              clear y1
              go_wp2_with fail
              refine (KI.out _).mono ?_
              rintro e w7 ⟨rfl, hb⟩
              have HB := Lib.hid (HB.out.trans (hb.mono HB.out.size))
              clear c0 c1 c2 c3
              obtain ⟨c0, c1, c2, c3⟩ := HC.out _ HB.out
              clear hb
              go_wp2_with fail
              refine (KL.out _).mono ?_
              rintro e w8 ⟨rfl, hb⟩
              have HB := Lib.hid (HB.out.trans (hb.mono HB.out.size))
              clear c0 c1 c2 c3
              obtain ⟨c0, c1, c2, c3⟩ := HC.out _ HB.out
              clear hb
              go_wp2_with fail
              refine (KD.out _).mono ?_
              rintro e w9 ⟨rfl, hb⟩
              have HB := Lib.hid (HB.out.trans (hb.mono HB.out.size))
              clear c0 c1 c2 c3
              obtain ⟨c0, c1, c2, c3⟩ := HC.out _ HB.out
              clear hb
              go_wp2
              go_ret
              exact ⟨rfl, HX.out.trans (HB.out.mono HX.out.size)⟩
    · by_cases hx : x < 0
      · clear hIn hdn hr hg
        obtain ⟨b, n, c, k⟩ := g
        simp only [Geo.v] at *
        have HX0 := Lib.hid ((Below.refl w.heap.size w).alloc (Nat.le_refl _) (.cells #[.int .i64 b, .int .i64 n, .int .i64 c, .int .i64 k] 45))
        go_enter Try.func12, Try.ntmps12
        go_wp2_with fail
        refine (KA.out _).mono ?_
        rintro e w1 ⟨rfl, hb1⟩
        have HX := Lib.hid (HX0.out.trans (hb1.mono HX0.out.size))
        obtain ⟨c0, c1, c2, c3⟩ := geo_cells hb1
        have HC := Lib.hid (fun (W : World) (h : Below w1.heap.size w1 W) => geo_cells3 hb1 h)
        have HB := Lib.hid (Below.refl w1.heap.size w1)
        clear hb1 HX0
        go_wp2_with fail
        refine (KG.out _).mono ?_
        rintro e w2 ⟨rfl, hb⟩
        have HB := Lib.hid (HB.out.trans (hb.mono HB.out.size))
        clear c0 c1 c2 c3
        obtain ⟨c0, c1, c2, c3⟩ := HC.out _ HB.out
        clear hb
        go_wp2
        go_ret
        exact ⟨rfl, HX.out.trans (HB.out.mono HX.out.size)⟩
      have hx3 : g.b ≤ x := by omega
      clear hIn hdn hr hg
      obtain ⟨b, n, c, k⟩ := g
      simp only [Geo.v] at *
      have HX0 := Lib.hid ((Below.refl w.heap.size w).alloc (Nat.le_refl _) (.cells #[.int .i64 b, .int .i64 n, .int .i64 c, .int .i64 k] 45))
      go_enter Try.func12, Try.ntmps12
      go_wp2_with fail
      refine (KA.out _).mono ?_
      rintro e w1 ⟨rfl, hb1⟩
      have HX := Lib.hid (HX0.out.trans (hb1.mono HX0.out.size))
      obtain ⟨c0, c1, c2, c3⟩ := geo_cells hb1
      have HC := Lib.hid (fun (W : World) (h : Below w1.heap.size w1 W) => geo_cells3 hb1 h)
      have HB := Lib.hid (Below.refl w1.heap.size w1)
      clear hb1 HX0
      go_wp2_with fail
      refine (KG.out _).mono ?_
      rintro e w2 ⟨rfl, hb⟩
      have HB := Lib.hid (HB.out.trans (hb.mono HB.out.size))
      clear c0 c1 c2 c3
      obtain ⟨c0, c1, c2, c3⟩ := HC.out _ HB.out
      clear hb
      go_wp2
      go_ret
      exact ⟨rfl, HX.out.trans (HB.out.mono HX.out.size)⟩
  · have hg' : g.good = false := by simpa using hg
    rw [hg'] at KG
    clear hg hg'
    obtain ⟨b, n, c, k⟩ := g
    simp only [Geo.v] at *
    have HX0 := Lib.hid ((Below.refl w.heap.size w).alloc (Nat.le_refl _) (.cells #[.int .i64 b, .int .i64 n, .int .i64 c, .int .i64 k] 45))
    go_enter Try.func12, Try.ntmps12
    go_wp2_with fail
    refine (KA.out _).mono ?_
    rintro e w1 ⟨rfl, hb1⟩
    have HX := Lib.hid (HX0.out.trans (hb1.mono HX0.out.size))
    obtain ⟨c0, c1, c2, c3⟩ := geo_cells hb1
    have HC := Lib.hid (fun (W : World) (h : Below w1.heap.size w1 W) => geo_cells3 hb1 h)
    have HB := Lib.hid (Below.refl w1.heap.size w1)
    clear hb1 HX0
    go_wp2_with fail
    refine (KG.out _).mono ?_
    rintro e w2 ⟨rfl, hb⟩
    have HB := Lib.hid (HB.out.trans (hb.mono HB.out.size))
    clear c0 c1 c2 c3
    obtain ⟨c0, c1, c2, c3⟩ := HC.out _ HB.out
    clear hb
    go_wp2
    go_ret
    exact ⟨rfl, HX.out.trans (HB.out.mono HX.out.size)⟩
end Go.Proofs.Ytdadplpibdjjbaa
