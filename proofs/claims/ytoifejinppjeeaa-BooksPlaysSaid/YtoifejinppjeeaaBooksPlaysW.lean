/- The walk of the statement BooksPlays. Conditions: the slice can be read; its numbers are ints. -/
import Derived.Test.YtoifejinppjeeaaPlAll
import Derived.Test.YtoifejinppjeeaaActs15
import Derived.Test.YtoifejinppjeeaaRefPut
import Derived.Test.YtoifejinppjeeaaAwake15
import Derived.Test.YtoifejinppjeeaaPmLaw
import Derived.Deep.CutRange
import Derived.Deep.CutBlock
namespace Go.Proofs.Ytoifejinppjeeaa
open Go.RowKit
set_option linter.unusedVariables false
set_option linter.unusedSimpArgs false
theorem nextN_of40 {t : Nat} (h : t ≤ 40) : nextN (BitVec.ofNat 64 t) = BitVec.ofNat 64 (t + 1) := by
  unfold nextN
  rw [if_neg]
  · rw [BitVec.ofNat_add]
  · intro e
    have := congrArg BitVec.toNat e
    simp only [BitVec.toNat_ofNat] at this
    omega
theorem HvAt.put {w : World} {g c : Nat} {hv : List Rc} (h : HvAt w g hv) (hc : c < hv.length) (v : Value) : (∃ z, (w.setCell ⟨g, c * 2, none⟩ v).cell? ⟨g, c * 2 + 1, none⟩ = some z) ∧ (w.setCell ⟨g, c * 2, none⟩ v).frozen? ⟨g, c * 2 + 1, none⟩ = false := by
  obtain ⟨cs, h1, h2, h3⟩ := h
  have b1 := Go.Joins.block_setCell (i := c * 2) (v := v) h1
  refine ⟨⟨.slice hv[c].2.1 hv[c].2.2.1.length hv[c].2.2.2, (Lib.cell_of_heap b1 _).trans ?_⟩, Lib.frozen_of_heap b1 _⟩
  · rw [Array.getElem?_setIfInBounds, if_neg (by omega)]; exact (h3 c hc).2
def RdNs (n : Nat) (ws : List (Int × BitVec 64)) : Fact := fun v w => ∃ (B : Option Addr) (d : Nat), v = .slice B n d ∧ RdW w B ws
theorem stab_rdN {n : Nat} {ws : List (Int × BitVec 64)} : Stab Stood (RdNs n ws) := fun v w w' ⟨B, d, e, hr⟩ h => ⟨B, d, e, hr.below h⟩
theorem recX_few {num : BitVec 64} {ws : List (Int × BitVec 64)} (h : 0 < (recX num ws).length) : ws.length ≤ 400 := by
  rcases Nat.lt_or_ge 400 ws.length with h1 | h1
  · unfold recX at h; rw [if_pos h1] at h; simp at h
  · exact h1
theorem BkSt.few {n : Nat} {a : AM} {st : List (Option Rcd)} (h : BkSt n a st) {i : Nat} (hi : i < n) {r : Rcd} (hs : st.getD i none = some r) : r.2.length ≤ 400 := by
  obtain ⟨W, _, hh⟩ := h.rg
  have := hh i hi
  rw [hs] at this
  exact recX_few this.2.1
theorem PlI.who {n k : Nat} {st : List (Option Rcd)} {L : Nat} {hv : List Rc} (h : PlI n k st L hv) {c : Nat} {r : Rcd} (hc : c < n) (hs : st.getD c none = some r) {q : Nat} (hq : q < n) : (hv[q]'(by have := h.hlen; omega)).1 = r.1 ↔ q = c := by
  constructor
  · intro e
    cases ht : st.getD q none with
    | none =>
      have h0 := h.nil q hq ht
      have h1 := (h.num c _ hc hs).1
      rw [h0] at e
      rw [← e] at h1
      exact absurd h1 (by decide)
    | some s =>
      have h1 := (h.som q s hq ht).1
      exact h.dis q c s r hq hc ht hs (h1.symm.trans e)
  · rintro rfl
    exact (h.som q _ hc hs).1
def lastD (D : List Sd) : Nat → BitVec 64
  | 0 => 0#64
  | q + 1 => match D[q]? with | some s => s.num | none => 0#64
theorem lastD_succ {D : List Sd} {q : Nat} (h : q < D.length) : lastD D (q + 1) = D[q].num := by
  show (match D[q]? with | some s => s.num | none => 0#64) = _
  rw [List.getElem?_eq_getElem h]
theorem lastD_lt {D : List Sd} (hs : ∀ i j, (hi : i < D.length) → (hj : j < D.length) → i < j → D[i].num.toNat < D[j].num.toNat) : ∀ {q : Nat}, (h : q < D.length) → 1 ≤ D[q].num.toNat → (lastD D q).toNat < D[q].num.toNat
  | 0, h, h1 => h1
  | q + 1, h, h1 => by rw [lastD_succ (by omega)]; exact hs q (q + 1) (by omega) h (by omega)
/-- Between two acts. -/
def PlR (n : Nat) (w0 : World) (b m : Nat) (G : MG) (g k : Nat) (vx vn : Value) (w : World) : Prop :=
  ∃ (x b2 c2 : Nat) (own : Nat → Nat) (a : AM) (st : List (Option Rcd)) (L : Nat) (hv : List Rc), vx = .pointer (some ⟨x, 0, none⟩) ∧ vn = U (BitVec.ofNat 64 (L + 1)) ∧ PlM n w0 x b2 c2 b m G k own a st (BitVec.ofNat 64 L) g hv w ∧ PlI n k st L hv ∧ a.cnt (1000 * k)
set_option maxRecDepth 100000 in
set_option maxHeartbeats 8000000 in
theorem BooksPlays_walk (nz : Int) (bs : List Ab) (X : Option Addr) (xc : Nat) (w : World) (hz0 : -9223372036854775808 ≤ nz) (hz1 : nz ≤ 9223372036854775807) (hx : RdB w X bs ∧ AbFit bs) (hxc : bs.length ≤ xc) (hxm : xc ≤ maxLen) :
    Calls Try.prog 18 #[.int .i64 nz, .slice X bs.length xc] w fun e w' => e = .returned (.bool true) ∧ Below w.heap.size w w' := by
  have KA := Lib.hid (bksAwake_any w)
  by_cases q1 : nz < 1
  · go_enter Try.func18, Try.ntmps18
    go_wp2_with fail
    refine KA.out.mono ?_
    rintro e w1 ⟨rfl, hb⟩
    go_wp2
    all_goals go_ret
    all_goals exact ⟨rfl, hb⟩
  have d1 : decide (nz < 1) = false := decide_eq_false q1
  by_cases q2 : 8 < nz
  · go_enter Try.func18, Try.ntmps18
    go_wp2_with fail
    refine KA.out.mono ?_
    rintro e w1 ⟨rfl, hb⟩
    go_wp2
    all_goals go_ret
    all_goals exact ⟨rfl, hb⟩
  have d2 : decide (8 < nz) = false := decide_eq_false q2
  by_cases q3 : (40 : Int) < bs.length
  · go_enter Try.func18, Try.ntmps18
    go_wp2_with fail
    refine KA.out.mono ?_
    rintro e w1 ⟨rfl, hb⟩
    go_wp2
    all_goals go_ret
    all_goals exact ⟨rfl, hb⟩
  have d3 : decide ((40 : Int) < bs.length) = false := decide_eq_false q3
  obtain ⟨n, rfl⟩ : ∃ n : Nat, nz = (n : Int) := ⟨nz.toNat, by omega⟩
  have HN := Lib.hid (show 0 < n ∧ n ≤ 8 by omega)
  have HL := Lib.hid (show bs.length ≤ 40 by omega)
  have HX := Lib.hid hx.1
  have HF := Lib.hid hx.2
  have d4 : decide ((n : Int) < 1) = false := d1
  have d5 : decide (n < 1) = false := decide_eq_false (by omega)
  have d6 : decide (8 < n) = false := decide_eq_false (by omega)
  have d7 : decide (40 < bs.length) = false := decide_eq_false (by omega)
  have hmk := fun W => make_hv n HN.out.1 HN.out.2 W
  have KS := Lib.hid (fun W => shelf_any n W HN.out.1 HN.out.2)
  unfold ShelfPost at KS
  clear hx hxc hxm q1 q2 q3 hz0 hz1
  go_enter Try.func18, Try.ntmps18
  go_wp2_with fail
  refine KA.out.mono ?_
  rintro e w1 ⟨rfl, hb⟩
  have HW := Lib.hid hb
  clear hb KA
  go_wp2_with fail
  refine (KS.out _).mono ?_
  rintro e w2 ⟨⟨b, c, m, own, G, rfl, hm, hrow, hob, hbl, hlow, hblo, hcc, hcm⟩, hb⟩
  have HLOW := Lib.hid (fun q (hq : q < w.heap.size) => hlow q (Nat.lt_of_lt_of_le hq HW.out.size))
  have HW := Lib.hid (HW.out.trans (hb.mono HW.out.size))
  have KO := Lib.hid (bksOpen_any b 0 c m n own G _ _ w2 hrow hm (bkSt_new n) HN.out.1 HN.out.2)
  have HL0 := Lib.hid (show lastTo (List.replicate n none) n = BitVec.ofNat 64 0 from by
    have h := (plI_new n).last_le n (Nat.le_refl _)
    exact BitVec.eq_of_toNat_eq (by simp only [BitVec.toNat_ofNat]; omega))
  rw [HL0.out] at KO
  have HM := Lib.hid hm
  have HS := Lib.hid (bkSt_new n)
  have HC := Lib.hid (show (newA (4 * n)).cnt 0 from fromA_cnt _ _)
  have HROW := Lib.hid hrow
  have HOB := Lib.hid hob
  have HBL := Lib.hid hbl
  clear hm hrow hob hbl hlow hblo hb KS HL0
  generalize newA (4 * n) = a0 at *
  go_wp2_with fail
  refine KO.out.mono ?_
  rintro e w3 ⟨⟨x, b2, c2, rfl, hbk, hx1, hb1⟩, hb⟩
  have HI := Lib.hid (show BoI n w x b2 c2 b m G 0 own a0 (List.replicate n none) (BitVec.ofNat 64 0) none [] 0 w3 from
    ⟨hbk, HM.out.below hb, HS.out, HC.out, HM.out.fresh x hx1, HM.out.fresh b2 hb1, HOB.out, HN.out.1, fun i hi => (HROW.out i hi).same (hb.block b HBL.out), HLOW.out, HW.out.trans (hb.mono HW.out.size), OwnF.nil_ _ _, (fun q h => by cases h), by have := HBL.out; omega, Nat.le_trans HW.out.size hx1⟩)
  have hal : Below w3.heap.size w3 (w3.alloc (.cells (hvCells n) 107)) := (Below.refl _ _).alloc (Nat.le_refl _) _
  have HP := Lib.hid (show PlM n w x b2 c2 b m G 0 own a0 (List.replicate n none) (BitVec.ofNat 64 0) w3.heap.size (List.replicate n rc0) (w3.alloc (.cells (hvCells n) 107)) from
    ⟨HI.out.below hal, hv_new w3 n, HI.out.mem.fresh _ (Nat.le_refl _), by have := HI.out.bk.lt; omega, by have := HI.out.bk.blt HN.out.1; omega, by have := HI.out.blt; omega, HI.out.bel.size, fun r hr => by
      rw [List.eq_of_mem_replicate hr]; exact ⟨.inl rfl, fun h => absurd rfl h⟩⟩)
  have HQ := Lib.hid (show PlR n w b m G w3.heap.size 0 (.pointer (some ⟨x, 0, none⟩)) (U 1#64) (w3.alloc (.cells (hvCells n) 107)) from
    ⟨x, b2, c2, own, a0, _, 0, _, rfl, rfl, HP.out, plI_new n, HC.out.mono (by omega)⟩)
  clear hbk hx1 hb1 hb HM HS HC HROW HOB HBL HLOW HW KO HI hal HP
  go_wp2
  generalize hgg : w3.heap.size = g at HQ ⊢
  clear hgg hmk
  go_loopw [7, 10, 11] (fun vx vn i wr => ∃ k : Nat, k ≤ bs.length ∧ i = .int .i64 k ∧ PlR n w b m G g k vx vn wr) (fun _ _ i _ => bs.length - (intOf i).toNat)
  case atStart => exact ⟨0, Nat.zero_le _, rfl, HQ.out⟩
  case round =>
    clear HQ
    obtain ⟨k, hk, rfl, x, b2, c2, own, a, st, L, hv, rfl, rfl, hp, hi, hcnt⟩ := hrel
    have HP := Lib.hid hp
    have HI := Lib.hid hi
    have HCNT := Lib.hid hcnt
    clear hp hi hcnt
    by_cases hlt : k < bs.length
    · obtain ⟨lb, lo, rfl, hc0⟩ := (HX.out.below HP.out.bo.bel).at_ hlt
      have hAC := hc0 k hlt
      clear hc0
      have e1 : IntKind.i64.wrap ((k : Int) + 1) = (k : Int) + 1 := IntWalk.i64_in _ (by have := HL.out; omega)
      generalize bs[k] = y at *
      obtain ⟨op, cl, B, ws, cw⟩ := y
      obtain ⟨j0, j1, j2, j3⟩ := hAC
      simp only at j0 j1 j2 j3
      have HRW := Lib.hid j3
      clear j3
      have hal : Below wr.heap.size wr (wr.alloc (.cells #[.int .i64 op, .int .i64 cl, .slice B ws.length cw] 105)) := (Below.refl _ _).alloc (Nat.le_refl _) _
      have HP1 := Lib.hid (HP.out.below hal)
      have HA1 := Lib.hid (heap_alloc_new wr (.cells #[.int .i64 op, .int .i64 cl, .slice B ws.length cw] 105))
      have HRW1 := Lib.hid (HRW.out.below hal)
      have HB0 := Lib.hid (HP.out.bo.mem.fresh wr.heap.size (Nat.le_refl _))
      have HB1 := Lib.hid (show wr.heap.size ≠ x ∧ wr.heap.size ≠ g from ⟨by have := HP.out.bo.bk.lt; omega, by have := HP.out.hat.lt; omega⟩)
      by_cases h20 : (20 : Int) < ws.length
      · go_wp2
        go_ret
        exact ⟨rfl, HP1.out.bo.bel⟩
      have d20 : decide ((20 : Int) < ws.length) = false := decide_eq_false h20
      have HW20 := Lib.hid (show ws.length ≤ 20 by omega)
      have HK40 := Lib.hid (show k < 40 by have := HL.out; omega)
      clear hal HP HRW h20
      have q0 := Lib.cell_of_heap HA1.out 0
      have q1 := Lib.cell_of_heap HA1.out 1
      have q2 := Lib.cell_of_heap HA1.out 2
      go_upto_region 17 with fail
      go_cut [13] from 78 to 86 (fun v13 wx => v13 = .bool (decide (0 ≤ cl ∧ cl < (n : Int))) ∧ wx = wr.alloc (.cells #[.int .i64 op, .int .i64 cl, .slice B ws.length cw] 105))
      case first =>
        by_cases g0 : 0 ≤ cl
        · by_cases g1 : cl < (n : Int)
          · have f0 : decide (0 ≤ cl) = true := decide_eq_true g0
            have f1 : decide (cl < (n : Int)) = true := decide_eq_true g1
            have FF := Lib.hid (decide_eq_true (show 0 ≤ cl ∧ cl < (n : Int) from ⟨g0, g1⟩))
            clear g0 g1
            go_wp2
            go_meet
            exact ⟨by rw [FF.out], rfl⟩
          · have f0 : decide (0 ≤ cl) = true := decide_eq_true g0
            have f1 : decide (cl < (n : Int)) = false := decide_eq_false g1
            have FF := Lib.hid (decide_eq_false (show ¬ (0 ≤ cl ∧ cl < (n : Int)) by omega))
            clear g0 g1
            go_wp2
            go_meet
            exact ⟨by rw [FF.out], rfl⟩
        · have f0 : decide (0 ≤ cl) = false := decide_eq_false g0
          have FF := Lib.hid (decide_eq_false (show ¬ (0 ≤ cl ∧ cl < (n : Int)) by omega))
          clear g0
          go_wp2
          go_meet
          exact ⟨by rw [FF.out], rfl⟩
      obtain ⟨rfl, rfl⟩ := hcut
      generalize hz : decide (0 ≤ cl ∧ cl < (n : Int)) = z
      have HZ := Lib.hid hz
      clear hz
      generalize wr.alloc (.cells #[.int .i64 op, .int .i64 cl, .slice B ws.length cw] 105) = w1 at *
      generalize wr.heap.size = bx at *
      go_upto_block 2 with fail
      go_cut [7, 8, 10, 13, 14, 15, 16, 17, 18, 19, 20] from 64 to 307 (fun vx v8 vn v13 v14 v15 v16 v17 v18 v19 v20 wx => PlR n w b m G g (k + 1) vx vn wx)
      case first =>
        by_cases h0 : op = 0
        · as_aux_lemma =>
            have h0b : (op == 0) = true := by rw [beq_iff_eq]; exact h0
            clear h0
            have KW := Lib.hid (writesF_any ws B cw w1 HRW1.out (by have := HW20.out; omega))
            go_wp2_with fail
            refine KW.out.mono ?_
            rintro e w4 ⟨⟨B4, d4, rfl, hr4, hf4⟩, hb4⟩
            have HAP4 := Lib.hid (show Apt own x g B4 ws from fun h0 q hq => by have h := hf4 q hq; have h2 := HP1.out.bo.bk.lt; have h3 := HP1.out.hat.lt; exact ⟨HP1.out.bo.mem.fresh q h, by omega, by omega⟩)
            have hal := (Below.refl w4.heap.size w4).alloc (Nat.le_refl _) (.cells #[U (BitVec.ofNat 64 (L + 1)), .slice B4 ws.length d4] 107)
            have hbb := hb4.trans (hal.mono hb4.size)
            have HP5 := Lib.hid (HP1.out.below hbb)
            have HA5 := Lib.hid (heap_below HA1.out hbb)
            have HRW5 := Lib.hid (HRW1.out.below hbb)
            have HR5 := Lib.hid (hr4.below hal)
            have HX5 := Lib.hid (heap_alloc_new w4 (.cells #[U (BitVec.ofNat 64 (L + 1)), .slice B4 ws.length d4] 107))
            have HRX := Lib.hid (show own w4.heap.size = 0 ∧ w4.heap.size ≠ x ∧ w4.heap.size ≠ g from by have h := hb4.size; have h2 := HP1.out.bo.bk.lt; have h3 := HP1.out.hat.lt; exact ⟨HP1.out.bo.mem.fresh _ h, by omega, by omega⟩)
            have KPU := Lib.hid (rfPut_any (BitVec.ofNat 64 (L + 1)) ws B4 d4 _ HR5.out (by have := HW20.out; omega))
            clear hal hbb hr4 hf4 hb4 KW q0 q1 q2 HP1 HA1 HRW1
            have r0 := Lib.cell_of_heap HX5.out 0
            have r1 := Lib.cell_of_heap HX5.out 1
            go_wp2_with fail
            refine KPU.out.mono ?_
            rintro e w6 ⟨⟨B6, d6, rfl, ho6⟩, hb6⟩
            generalize w4.alloc (.cells #[U (BitVec.ofNat 64 (L + 1)), .slice B4 ws.length d4] 107) = w5 at *
            generalize w4.heap.size = rx at *
            have HP6 := Lib.hid (HP5.out.below hb6)
            have HA6 := Lib.hid (heap_below HA5.out hb6)
            have HX6 := Lib.hid (heap_below HX5.out hb6)
            have HRW6 := Lib.hid (HRW5.out.below hb6)
            have HR6 := Lib.hid (HR5.out.below hb6)
            clear r0 r1 hb6 ho6 HP5 HA5 HX5 HRW5 HR5 KPU
            have q1 := Lib.cell_of_heap HA6.out 1
            have q2 := Lib.cell_of_heap HA6.out 2
            have hXW : recX (BitVec.ofNat 64 (L + 1)) ws = recW (BitVec.ofNat 64 (L + 1)) ws := by unfold recX; rw [if_neg (by have := HW20.out; omega)]
            generalize hrl : (recW (BitVec.ofNat 64 (L + 1)) ws).length = rl
            have HXW := Lib.hid (show (recX (BitVec.ofNat 64 (L + 1)) ws).length = rl by rw [hXW, hrl])
            have HNX := Lib.hid (nextN_of40 (show L ≤ 40 by have := HI.out.few; have := HK40.out; omega))
            clear hXW hrl
            by_cases hc : 0 ≤ cl ∧ cl < (n : Int)
            · obtain ⟨ci, rfl⟩ : ∃ ci : Nat, cl = (ci : Int) := ⟨cl.toNat, by omega⟩
              have hcn : ci < n := by omega
              obtain rfl : z = true := by rw [← HZ.out]; exact decide_eq_true hc
              have HCN := Lib.hid hcn
              have hcl : ci < hv.length := by rw [HI.out.hlen]; exact hcn
              have hcn2 : decide ((ci : Int) < (n : Int)) = true := decide_eq_true (by omega)
              have KK := Lib.hid (bksKeep_any x b2 0 c2 m n (BitVec.ofNat 64 L) own G a ci (1000 * k) ws B cw w6 HP6.out.bo.bk HP6.out.bo.mem HP6.out.bo.ox HP6.out.bo.ob2 HP6.out.bo.s.clean HCNT.out (by have := HK40.out; omega) hcn HN.out.2 HRW6.out)
              rw [HNX.out] at KK
              have HCK := Lib.hid ((HCNT.out.keepB ((4 * ci : Nat) : Int) 4 (BitVec.ofNat 64 (L + 1)) ws).mono (show 1000 * k + 1000 ≤ 1000 * (k + 1) by omega))
              have hkk := HP6.out.bo.s.keep hcn (BitVec.ofNat 64 (L + 1)) ws
              rw [HXW.out] at hkk
              clear hc
              rcases hkk with ⟨hlen, hke⟩ | ⟨hl0, hl24, hno, hke⟩ | ⟨hl0, hl24, hno, a', hke, hs'⟩
              · as_aux_lemma =>
                  rw [hke] at KK
                  have h10 : ¬ ((1 : Int) = 0) := by decide
                  simp only [if_neg h10] at KK
                  clear hke h10 HCK
                  by_cases hl : rl = 0
                  · have f1 : ((rl : Int) == 0) = true := by rw [beq_iff_eq]; omega
                    clear hl hlen
                    go_wp2_with fail
                    refine KK.out.mono ?_
                    rintro e w7 ⟨rfl, hp⟩
                    obtain ⟨own7, hp7, hf7⟩ := HP6.out.turn hp HP6.out.bo.s (HCNT.out.mono (by omega))
                    have HP7 := Lib.hid hp7
                    clear hp hp7 hf7 KK q1 q2
                    go_wp2
                    go_meet
                    exact ⟨x, b2, c2, own7, a, st, L, hv, rfl, rfl, HP7.out, HI.out.mono, HCNT.out.mono (by omega)⟩
                  · have f1 : ((rl : Int) == 0) = false := by rw [beq_eq_false_iff_ne]; omega
                    have f2 : decide (24 < (rl : Int)) = true := decide_eq_true (by omega)
                    clear hl hlen
                    go_wp2_with fail
                    refine KK.out.mono ?_
                    rintro e w7 ⟨rfl, hp⟩
                    obtain ⟨own7, hp7, hf7⟩ := HP6.out.turn hp HP6.out.bo.s (HCNT.out.mono (by omega))
                    have HP7 := Lib.hid hp7
                    clear hp hp7 hf7 KK q1 q2
                    go_wp2
                    go_meet
                    exact ⟨x, b2, c2, own7, a, st, L, hv, rfl, rfl, HP7.out, HI.out.mono, HCNT.out.mono (by omega)⟩
              · as_aux_lemma =>
                  rw [hke] at KK
                  have h10 : ¬ ((15 : Int) = 0) := by decide
                  simp only [if_neg h10] at KK
                  clear hke h10 HCK
                  have f1 : ((rl : Int) == 0) = false := by rw [beq_eq_false_iff_ne]; omega
                  have f2 : decide (24 < (rl : Int)) = false := decide_eq_false (by omega)
                  have HNZ := Lib.hid (show hv[ci].1 ≠ 0#64 from by
                    obtain ⟨r, hr⟩ := Option.ne_none_iff_exists'.1 hno
                    have h1 := (HI.out.som ci r hcn hr).1
                    have h2 := (HI.out.num ci r hcn hr).1
                    rw [h1]
                    intro e
                    rw [e] at h2
                    exact absurd h2 (by decide))
                  clear hno hl0 hl24
                  go_wp2_with fail
                  refine KK.out.mono ?_
                  rintro e w7 ⟨rfl, hp⟩
                  obtain ⟨own7, hp7, hf7⟩ := HP6.out.turn hp HP6.out.bo.s (HCNT.out.mono (by omega))
                  have HP7 := Lib.hid hp7
                  have HA7 := Lib.hid ((hf7.block bx (heap_lt HA6.out) HB0.out HB1.out.1).trans HA6.out)
                  clear hp hp7 hf7 KK q1 q2
                  have q1 := Lib.cell_of_heap HA7.out 1
                  obtain ⟨s1, s2⟩ := HP7.out.hat.cell hcl
                  have nz := HNZ.out
                  generalize hv[ci].1 = nu at s1 nz
                  have nz1 : (nu == 0#64) = false := beq_eq_false_iff_ne.2 nz
                  have nz2 : (nu != 0#64) = true := bne_iff_ne.2 nz
                  clear HNZ s2 nz
                  go_wp2
                  go_meet
                  exact ⟨x, b2, c2, own7, a, st, L, hv, rfl, rfl, HP7.out, HI.out.mono, HCNT.out.mono (by omega)⟩
              · as_aux_lemma =>
                  rw [hke] at KK HCK
                  simp only [if_true] at KK HCK
                  have HS2 := Lib.hid hs'
                  clear hke hs'
                  have f1 : ((rl : Int) == 0) = false := by rw [beq_eq_false_iff_ne]; omega
                  have f2 : decide (24 < (rl : Int)) = false := decide_eq_false (by omega)
                  have HNZ := Lib.hid (HI.out.nil ci hcn hno)
                  have HNO := Lib.hid hno
                  clear hno hl0 hl24
                  go_wp2_with fail
                  refine KK.out.mono ?_
                  rintro e w7 ⟨rfl, hp⟩
                  obtain ⟨own7, hp7, hf7⟩ := HP6.out.turn hp HS2.out (HCK.out.mono (by omega))
                  have HP7 := Lib.hid hp7
                  have HA7 := Lib.hid ((hf7.block bx (heap_lt HA6.out) HB0.out HB1.out.1).trans HA6.out)
                  have HX7 := Lib.hid ((hf7.block rx (heap_lt HX6.out) HRX.out.1 HRX.out.2.1).trans HX6.out)
                  have HR7 := Lib.hid (HR6.out.turn HAP4.out hf7)
                  clear hp hp7 hf7 KK q1 q2
                  have q1 := Lib.cell_of_heap HA7.out 1
                  have r0 := Lib.cell_of_heap HX7.out 0
                  have r1 := Lib.cell_of_heap HX7.out 1
                  obtain ⟨s1, s2⟩ := HP7.out.hat.cell hcl
                  have s3 := HP7.out.hat.fz (ci * 2)
                  obtain ⟨⟨sz, s4⟩, s5⟩ := HP7.out.hat.put hcl (U (BitVec.ofNat 64 (L + 1)))
                  have s6 : w7.frozen? ⟨g, ci * 2 + 1, none⟩ = false := HP7.out.hat.fz (ci * 2 + 1)
                  have HF := Lib.hid (HP7.out.set hcl (BitVec.ofNat 64 (L + 1), B4, ws, d4) HR7.out.1 HR7.out.2)
                  have HI7 := Lib.hid (HI.out.keep HK40.out HCN.out HNO.out ws B4 d4)
                  rw [HNZ.out] at s1
                  have eL : BitVec.ofNat 64 (L + 1 + 1) = BitVec.ofNat 64 (L + 1) + 1#64 := BitVec.ofNat_add _ _
                  have HEL := Lib.hid eL
                  clear eL
                  go_wp2
                  go_meet
                  exact ⟨x, b2, c2, own7, a', _, L + 1, _, rfl, by rw [HEL.out], HF.out, HI7.out, HCK.out⟩
            · obtain rfl : z = false := by rw [← HZ.out]; exact decide_eq_false hc
              have KD := Lib.hid (bksKeep_no HP6.out.bo.bk cl hc B ws.length cw)
              have HP2 := Lib.hid (show PlM n w x b2 c2 b m G (k + 1) own a st (BitVec.ofNat 64 L) g hv w6 from { HP6.out with bo := { HP6.out.bo with cn := HP6.out.bo.cn.mono (by omega) } })
              clear hc
              go_wp2_with fail
              refine KD.out.mono ?_
              rintro e w7 ⟨rfl, rfl⟩
              go_wp2
              go_meet
              exact ⟨x, b2, c2, own, a, st, L, hv, rfl, rfl, HP2.out, HI.out.mono, HCNT.out.mono (by omega)⟩
        have h0b : (op == 0) = false := by rw [beq_eq_false_iff_ne]; exact h0
        by_cases h1 : op = 1
        · as_aux_lemma =>
            have h1b : (op == 1) = true := by rw [beq_iff_eq]; exact h1
            clear h1 h0
            by_cases hc : 0 ≤ cl ∧ cl < (n : Int)
            · obtain ⟨ci, rfl⟩ : ∃ ci : Nat, cl = (ci : Int) := ⟨cl.toNat, by omega⟩
              have hcn : ci < n := by omega
              obtain rfl : z = true := by rw [← HZ.out]; exact decide_eq_true hc
              obtain ⟨a', hpu, hs'⟩ := HP1.out.bo.s.done hcn
              have KD := Lib.hid (bksDone_any x b2 0 c2 m n (BitVec.ofNat 64 L) own G a ci (1000 * k) w1 HP1.out.bo.bk HP1.out.bo.mem HP1.out.bo.ox HP1.out.bo.ob2 HP1.out.bo.s.clean HCNT.out (by have := HK40.out; omega) hcn HN.out.2)
              rw [hpu] at KD
              dsimp only at KD
              have HC2 := Lib.hid (show a'.cnt (1000 * (k + 1)) by have h := (HCNT.out.push ((4 * ci : Nat) : Int) 4 0 [0#64]).mono (show 1000 * k + 1 + 2 ≤ 1000 * (k + 1) by omega); rw [hpu] at h; exact h)
              have HS2 := Lib.hid hs'
              have HCN := Lib.hid hcn
              have hcn2 : decide ((ci : Int) < (n : Int)) = true := decide_eq_true (by omega)
              clear hpu hs' hc
              go_wp2_with fail
              refine KD.out.mono ?_
              rintro e w4 ⟨rfl, hp⟩
              obtain ⟨own4, hp4, hf4⟩ := HP1.out.turn hp HS2.out (HC2.out.mono (by omega))
              have HP4 := Lib.hid hp4
              have HA4 := Lib.hid ((hf4.block bx (heap_lt HA1.out) HB0.out HB1.out.1).trans HA1.out)
              clear hp hp4 hf4 KD HS2 q0 q1 q2
              have q1 := Lib.cell_of_heap HA4.out 1
              have hcl : ci < hv.length := by rw [HI.out.hlen]; exact HCN.out
              obtain ⟨s1, s2⟩ := HP4.out.hat.cell hcl
              have s3 := HP4.out.hat.fz (ci * 2)
              obtain ⟨⟨sz, s4⟩, s5⟩ := HP4.out.hat.put hcl (U 0#64)
              have s6 : w4.frozen? ⟨g, ci * 2 + 1, none⟩ = false := HP4.out.hat.fz (ci * 2 + 1)
              have HF := Lib.hid (HP4.out.set hcl rc0 (.inl rfl) (fun h => absurd rfl h))
              have HI4 := Lib.hid (HI.out.done HCN.out)
              clear HP1 HP4 HI
              go_wp2
              go_meet
              exact ⟨x, b2, c2, own4, a', st.set ci none, L, _, rfl, rfl, HF.out, HI4.out, HC2.out⟩
            · obtain rfl : z = false := by rw [← HZ.out]; exact decide_eq_false hc
              have KD := Lib.hid (bksDone_no HP1.out.bo.bk cl hc)
              have HP2 := Lib.hid (show PlM n w x b2 c2 b m G (k + 1) own a st (BitVec.ofNat 64 L) g hv w1 from { HP1.out with bo := { HP1.out.bo with cn := HP1.out.bo.cn.mono (by omega) } })
              clear hc
              go_wp2_with fail
              refine KD.out.mono ?_
              rintro e w4 ⟨rfl, rfl⟩
              go_wp2
              go_meet
              exact ⟨x, b2, c2, own, a, st, L, hv, rfl, rfl, HP2.out, HI.out.mono, HCNT.out.mono (by omega)⟩
        have h1b : (op == 1) = false := by rw [beq_eq_false_iff_ne]; exact h1
        clear h0 h1
        as_aux_lemma =>
          have KC := Lib.hid (mCrash_any m own G a [] none 0 w1 HP1.out.bo.mem (room_mono HP1.out.bo.s.clean.room (by omega)) (fun _ _ _ => .inl rfl) (Nat.le_refl _) (by unfold maxLen; omega))
          go_wp2_with fail
          refine KC.out.mono ?_
          rintro e w5 ⟨rfl, own5, hm5, hf5⟩
          have KO := Lib.hid (mOn_any hm5)
          clear KC
          go_wp2_with fail
          refine KO.out.mono ?_
          rintro e w6 ⟨rfl, own6, hm6, hf6⟩
          have HP6 := Lib.hid (HP1.out.fell [] hm6 (hf5.trans hf6))
          clear hm5 hf5 hm6 hf6 KO HP1 q0 q1 q2 HA1 HRW1 HB0 HB1
          have HC6 := Lib.hid (show ((a.crash []).on).cnt (1000 * k) from (HCNT.out.crash' []).on)
          generalize (a.crash []).on = a6 at *
          have KP := Lib.hid (bksOpen_any b 0 c m n own6 G a6 st w6 HP6.out.bo.row HP6.out.bo.mem HP6.out.bo.s HN.out.1 HN.out.2)
          go_wp2_with fail
          refine KP.out.mono ?_
          rintro e w7 ⟨⟨y, b7, c7, rfl, hbk, hy, hb7⟩, hb⟩
          have HP7 := Lib.hid (HP6.out.anew hb hbk hy hb7)
          have HI7 := Lib.hid HI.out.fell
          clear hbk hy hb7 hb HP6 KP
          go_wp2
          go_loopw [10, 20] (fun vq i wq => wq = w7 ∧ ∃ j : Nat, j ≤ n ∧ i = .int .i64 j ∧ vq = U (lastTo st j + 1#64)) (fun _ i _ => n - (intOf i).toNat)
          case atStart => exact ⟨rfl, 0, Nat.zero_le _, rfl, rfl⟩
          case round =>
            obtain ⟨rfl, j, hj, rfl, rfl⟩ := hrel
            by_cases hjn : j < n
            · have hjl : j < hv.length := by rw [HI.out.hlen]; exact hjn
              obtain ⟨s1, s2⟩ := HP7.out.hat.cell hjl
              have hnum := HI.out.numOf_eq hjn
              have hls := lastTo_succ st j (by rw [HI.out.slen]; exact hjn)
              rw [← hnum] at hls
              have HLL := Lib.hid (HI.out.last_le j hj)
              have HFW := Lib.hid HI.out.few
              have ej : IntKind.i64.wrap ((j : Int) + 1) = (j : Int) + 1 := IntWalk.i64_in _ (by have := HN.out; omega)
              have fj : decide ((j : Int) < (n : Int)) = true := decide_eq_true (by omega)
              generalize hnu : hv[j].1 = nu at s1 hls
              clear hnu hnum s2
              have hadd : (lastTo st j + 1#64).toNat = (lastTo st j).toNat + 1 := by
                rw [BitVec.toNat_add]
                have h1 := HLL.out
                have h2 := HFW.out
                have h3 := HK40.out
                have h4 : (1#64).toNat = 1 := rfl
                rw [h4]
                omega
              have HLS := Lib.hid hls
              have HADD := Lib.hid hadd
              clear hls hadd
              obtain ⟨l1, hl1⟩ : ∃ q, lastTo st (j + 1) = q := ⟨_, rfl⟩
              rw [hl1] at HLS
              have HL1 := Lib.hid hl1
              clear hl1
              generalize lastTo st j = l0 at *
              by_cases hge : l0 + 1#64 ≤ nu
              · have fg : decide (l0 + 1#64 ≤ nu) = true := decide_eq_true hge
                have HE := Lib.hid (show l1 = nu from by have h := HLS.out; unfold maxW at h; rw [if_pos (by have := HADD.out; have := BitVec.le_def.1 hge; omega)] at h; exact h)
                go_wp2
                go_roundw
                case rel => exact ⟨trivial, j + 1, hjn, by go_num, by rw [HL1.out, HE.out]⟩
                case measure => simp [intOf]; omega
              · have fg : decide (l0 + 1#64 ≤ nu) = false := decide_eq_false hge
                have HE := Lib.hid (show l1 = l0 from by have h := HLS.out; unfold maxW at h; rw [if_neg (by have := HADD.out; have h9 := Nat.lt_of_not_le (fun q => hge (BitVec.le_def.2 q)); omega)] at h; exact h)
                go_wp2
                go_roundw
                case rel => exact ⟨trivial, j + 1, hjn, by go_num, by rw [HL1.out, HE.out]⟩
                case measure => simp [intOf]; omega
            · obtain rfl : j = n := by omega
              go_wp2
              go_meet
              have hlt := (lastTo st j).isLt
              exact ⟨y, b7, c7, own6, a6, st, (lastTo st j).toNat, hv, rfl, by rw [BitVec.ofNat_add]; simp, by rw [BitVec.ofNat_toNat, BitVec.setWidth_eq]; exact HP7.out, HI7.out, HC6.out.mono (by omega)⟩
      case rest =>
        clear HP1 HI HCNT q0 q1 q2 HA1 HRW1 HB0 HB1 HZ
        obtain ⟨x2, b6, c6, own2, a2, st2, L2, hv2, rfl, rfl, hp, hi, hcnt⟩ := hcut
        have HP := Lib.hid hp
        have HI := Lib.hid hi
        have HCNT := Lib.hid hcnt
        clear hp hi hcnt
        have KALL := Lib.hid (bksAll_any x2 b6 0 c6 m n (BitVec.ofNat 64 L2) own2 G a2 st2 wc HP.out.bo.bk HP.out.bo.mem HP.out.bo.s HN.out.1 HN.out.2)
        unfold AllPost at KALL
        go_wp2_with fail
        refine KALL.out.mono ?_
        rintro e w8 ⟨D, A8, c8, rfl, hl8, hp8, hs8, hr8, hb8⟩
        obtain ⟨hdl, hdm, hds⟩ := HI.out.all hp8 hs8
        have HP8 := Lib.hid (HP.out.below hb8)
        have HR8 := Lib.hid hr8
        have HDL := Lib.hid hdl
        have HDM := Lib.hid hdm
        have HDS := Lib.hid hds
        have HL8 := Lib.hid hl8
        clear hl8 hp8 hs8 hr8 hb8 hdl hdm hds HP KALL
        have KHE := Lib.hid (bksHeld_any x2 b6 0 c6 m n (BitVec.ofNat 64 L2) own2 G a2 st2 w8 HP8.out.bo.bk HP8.out.bo.mem HP8.out.bo.s HN.out.1 HN.out.2)
        unfold HeldPost at KHE
        go_wp2_with fail
        refine KHE.out.mono ?_
        rintro e w9 ⟨A9, c9, rfl, hr9, hb9⟩
        have HP9 := Lib.hid (HP8.out.below hb9)
        have HRD := Lib.hid (HR8.out.below hb9)
        have HRH := Lib.hid hr9
        clear hr9 hb9 HP8 HR8 KHE
        go_wp2
        go_loopw [23, 25] (fun va i wq => wq = w9 ∧ ∃ j : Nat, j ≤ n ∧ i = .int .i64 j ∧ va = .int .i64 ((standF st2 j).length : Nat)) (fun _ i _ => n - (intOf i).toNat)
        case atStart => exact ⟨rfl, 0, Nat.zero_le _, rfl, rfl⟩
        case round =>
          obtain ⟨rfl, j, hj, rfl, rfl⟩ := hrel
          by_cases hjn : j < n
          · as_aux_lemma =>
              have hjl : j < hv2.length := by rw [HI.out.hlen]; exact hjn
              obtain ⟨s1, s2⟩ := HP9.out.hat.cell hjl
              have hcn := standF_cnt st2 j
              have ej : IntKind.i64.wrap ((j : Int) + 1) = (j : Int) + 1 := IntWalk.i64_in _ (by have := HN.out; omega)
              have fj : decide ((j : Int) < (n : Int)) = true := decide_eq_true (by omega)
              have htj := standF_len st2 j
              have et : IntKind.i64.wrap (((standF st2 j).length : Int) + 1) = ((standF st2 j).length : Int) + 1 := IntWalk.i64_in _ (by have := HN.out; omega)
              cases hs : st2.getD j none with
              | none =>
                have hz := HI.out.nil j hjn hs
                rw [hz] at s1
                rw [hs] at hcn
                simp at hcn
                have HCN := Lib.hid hcn
                clear hcn hs hz s2 htj
                go_wp2
                go_roundw
                case rel => exact ⟨trivial, j + 1, hjn, by go_num, by rw [HCN.out]⟩
                case measure => simp [intOf]; omega
              | some r =>
                have h1 := (HI.out.som j r hjn hs).1
                have h2 := (HI.out.num j r hjn hs).1
                have hha := held_at hjn hs
                obtain ⟨hlt, hq⟩ := List.getElem?_eq_some_iff.1 hha
                obtain ⟨bx2, off2, rfl, hcx0⟩ := HRH.out.at_ hlt
                have hcx := hcx0 _ hlt
                unfold I6 at hcx
                rw [hq] at hcx
                rw [hs] at hcn
                simp at hcn
                rw [h1] at s1
                have hnz : r.1 ≠ 0#64 := by
                  intro e
                  rw [e] at h2
                  exact absurd h2 (by decide)
                have nz1 : (r.1 == 0#64) = false := beq_eq_false_iff_ne.2 hnz
                have HCN := Lib.hid hcn
                clear hcn hs s2 htj hha hq hcx0 h1 h2 hnz HRH
                generalize (heldL st2 n).length = hl at *
                have HLT := Lib.hid hlt
                have f1 : decide ((hl : Int) ≤ ((standF st2 j).length : Int)) = false := decide_eq_false (by omega)
                have f2 : decide (((standF st2 j).length : Int) < (hl : Int)) = true := decide_eq_true (by omega)
                have f3 : ((j : Int) != (j : Int)) = false := by simp
                go_wp2
                go_roundw
                case rel => exact ⟨trivial, j + 1, hjn, by go_num, by rw [HCN.out]; go_num⟩
                case measure => simp [intOf]; omega
          · obtain rfl : n = j := by omega
            have KNX := Lib.hid (bksNext_any HP9.out.bo.bk)
            rw [nextN_of40 (show L2 ≤ 40 by have := HI.out.few; have := HK40.out; omega)] at KNX
            have hhl := held_len st2 n
            rw [← HDL.out] at hhl ⊢
            rw [hhl]
            have x1 : ((D.length : Int) != (D.length : Int)) = false := by simp
            have x2 : (BitVec.ofNat 64 (L2 + 1) != BitVec.ofNat 64 (L2 + 1)) = false := by simp
            clear hhl
            go_wp2_with fail
            refine KNX.out.mono ?_
            rintro e w10 ⟨rfl, rfl⟩
            clear KNX
            go_wp2
            -- the loop over the records
            go_loopw [24, 26, 27, 28] (fun vl i v27 v28 wq => ∃ q : Nat, q ≤ D.length ∧ i = .int .i64 q ∧ vl = U (lastD D q) ∧ Below wr.heap.size wr wq) (fun _ i _ _ _ => D.length - (intOf i).toNat)
            case atStart => exact ⟨0, Nat.zero_le _, rfl, rfl, Below.refl _ _⟩
            case round =>
              obtain ⟨q, hq, rfl, rfl, hbq⟩ := hrel
              have HBQ := Lib.hid hbq
              clear hbq
              by_cases hqd : q < D.length
              · as_aux_lemma =>
                  have HDL8 := Lib.hid (show D.length ≤ 8 by have := HL8.out; have := HN.out; omega)
                  obtain ⟨hcl, hst⟩ := HDM.out q hqd
                  obtain ⟨g8, o8, rfl, hat⟩ := (HRD.out.below HBQ.out).at_ (k := q) (by simpa using hqd)
                  have hat := hat q (by simpa using hqd)
                  simp only [List.getElem_map] at hat
                  have HNM := Lib.hid (HI.out.num _ _ hcl hst)
                  have HLT := Lib.hid (lastD_lt HDS.out hqd HNM.out.1)
                  have HLS := Lib.hid (lastD_succ hqd)
                  have HWHO := Lib.hid (show ∀ p, (hp : p < hv2.length) → (hv2[p]'hp).1 = D[q].num → p = D[q].cl from fun p hp e => (HI.out.who hcl hst (q := p) (by have := HI.out.hlen; omega)).1 e)
                  have HSAME := Lib.hid (show ∀ p, (hp : p < hv2.length) → p = D[q].cl → (hv2[p]'hp).1 = D[q].num ∧ (hv2[p]'hp).2.2.1 = D[q].ws from fun p hp e => by subst e; exact HI.out.som _ _ hcl hst)
                  have HFW := Lib.hid (HP9.out.bo.s.few hcl hst)
                  have HCL := Lib.hid hcl
                  have HLQ := Lib.hid (show ∃ l1, lastD D (q + 1) = l1 from ⟨_, rfl⟩)
                  clear hst hcl HDM HDS
                  generalize D[q] = s at *
                  obtain ⟨nv, B9, d9, wv, cl2⟩ := s
                  obtain ⟨j0, j1, j2⟩ := hat
                  unfold recOf at j0 j1 j2
                  simp only at j0 j1 j2
                  have HRV := Lib.hid j2
                  have HLT := Lib.hid (show (lastD D q).toNat < nv.toNat from HLT.out)
                  have HLS := Lib.hid (show lastD D (q + 1) = nv from HLS.out)
                  have HFW := Lib.hid (show wv.length ≤ 400 from HFW.out)
                  have HCL := Lib.hid (show cl2 < n from HCL.out)
                  clear j2 HNM HLQ
                  have f1 : decide (nv ≤ lastD D q) = false := decide_eq_false (fun e => by have := HLT.out; have := BitVec.le_def.1 e; omega)
                  have eq1 : IntKind.i64.wrap ((q : Int) + 1) = (q : Int) + 1 := IntWalk.i64_in _ (by have := HDL8.out; omega)
                  generalize lastD D q = l0 at *
                  go_wp2
                  go_loopw [27, 28] (fun vo i wp => ∃ p : Nat, p ≤ n ∧ i = .int .i64 p ∧ vo = .bool (decide (cl2 < p)) ∧ Below wr.heap.size wr wp) (fun _ i _ => n - (intOf i).toNat)
                  case atStart => exact ⟨0, Nat.zero_le _, rfl, rfl, Below.refl _ _⟩
                  case round =>
                    obtain ⟨p, hp, rfl, rfl, hbp⟩ := hrel
                    have HBP := Lib.hid hbp
                    clear hbp
                    by_cases hpn : p < n
                    · have hpl : p < hv2.length := by rw [HI.out.hlen]; exact hpn
                      obtain ⟨s1, s2⟩ := (HP9.out.below (HBQ.out.trans (HBP.out.mono HBQ.out.size))).hat.cell hpl
                      have ep : IntKind.i64.wrap ((p : Int) + 1) = (p : Int) + 1 := IntWalk.i64_in _ (by have := HN.out; omega)
                      have fp : decide ((p : Int) < (n : Int)) = true := decide_eq_true (by omega)
                      have hpv : (p : Int) < (hv2.length : Int) := by omega
                      have HHL := Lib.hid (HI.out.hlen)
                      rcases Nat.lt_trichotomy p cl2 with hlt | heq | hgt
                      · as_aux_lemma =>
                          have fo : decide (cl2 < p) = false := decide_eq_false (by omega)
                          have fo2 : decide (cl2 < p + 1) = false := decide_eq_false (by omega)
                          have HNE := Lib.hid (show ¬ (hv2[p]'hpl).1 = nv from fun e => by have := HWHO.out p hpl e; omega)
                          generalize hv2[p] = r at *
                          obtain ⟨rn, rb, rw9, rd9⟩ := r
                          simp only at s1 s2
                          have nb : (rn == nv) = false := beq_eq_false_iff_ne.2 HNE.out
                          rw [fo]
                          clear hlt fo s2 j0 j1 f1
                          go_wp2_with fail
                          go_quiet (fail)
                          go_wp2
                          go_roundw
                          case rel => exact ⟨p + 1, hpn, by go_num, by rw [fo2], by first | exact HBP.out | exact HBP.out.trans ((Drawn.some_ _ _).below _)⟩
                          case measure => simp [intOf]; omega
                      · as_aux_lemma =>
                          subst heq
                          have fo : decide (p < p) = false := decide_eq_false (by omega)
                          have fo2 : decide (p < p + 1) = true := decide_eq_true (by omega)
                          have HRR := Lib.hid ((HP9.out.below (HBQ.out.trans (HBP.out.mono HBQ.out.size))).rd _ (List.getElem_mem hpl)).1
                          have HSM := Lib.hid (show (hv2[p]'hpl).1 = nv ∧ (hv2[p]'hpl).2.2.1 = wv from HSAME.out p hpl rfl)
                          clear HWHO HSAME
                          generalize hv2[p] = r at *
                          obtain ⟨rn, rb, rw9, rd9⟩ := r
                          obtain ⟨e1, e2⟩ := HSM.out
                          simp only at e1 e2
                          subst e1
                          subst e2
                          simp only at s1 s2
                          have HRR := Lib.hid (show RdW wr rb rw9 from HRR.out)
                          have nb : (rn == rn) = true := beq_self_eq_true _
                          have j1 := (HBP.out.cell (p := ⟨g8, o8 + q * 2 + 1, none⟩) (cell_lt j1)).trans j1
                          have HRV := Lib.hid (HRV.out.below HBP.out)
                          rw [fo]
                          clear fo j0 f1 HSM
                          go_wp2_with fail
                          apply wp_region_inv' 308 (Eqs _ :: Eqs _ :: Eqs _ :: Eqs _ :: Eqs _ :: Eqs _ :: Eqs _ :: Eqs _ :: Eqs _ :: Eqs _ :: Eqs _ :: Eqs _ :: Eqs _ :: Eqs _ :: Eqs _ :: (RdNs rw9.length rw9) :: Eqs _ :: Eqs _ :: Eqs _ :: Eqs _ :: Eqs _ :: Eqs _ :: Eqs _ :: Eqs _ :: Eqs _ :: []) (by kernel_rfl) (by rfl) (stab_cons (stab_eq _) (stab_cons (stab_eq _) (stab_cons (stab_eq _) (stab_cons (stab_eq _) (stab_cons (stab_eq _) (stab_cons (stab_eq _) (stab_cons (stab_eq _) (stab_cons (stab_eq _) (stab_cons (stab_eq _) (stab_cons (stab_eq _) (stab_cons (stab_eq _) (stab_cons (stab_eq _) (stab_cons (stab_eq _) (stab_cons (stab_eq _) (stab_cons (stab_eq _) (stab_cons stab_rdN (stab_cons (stab_eq _) (stab_cons (stab_eq _) (stab_cons (stab_eq _) (stab_cons (stab_eq _) (stab_cons (stab_eq _) (stab_cons (stab_eq _) (stab_cons (stab_eq _) (stab_cons (stab_eq _) (stab_cons (stab_eq _) stab_nil))))))))))))))))))))))))) (by kernel_rfl) (by kernel_rfl)
                          case hstep =>
                            refine StepsOK.cons ?_ ?_
                            · -- 0: Go.Op.move (Go.Operand.tmp 27)
                              intro a w1 hR1 hF hU hsz
                              have e27 : a.eval (.tmp 27) = _ := hU 27 (by kernel_rfl)
                              rw [if_pos (by rfl)]
                              intro K hK
                              clear hF hU hsz
                              obtain ⟨q1, q2, q3⟩ := eval_rest a
                              generalize hρ : a.eval = ρ
                              rw [hρ] at q1 q2 q3 e27
                              clear hρ
                              have u1 := OpUp_value Try.prog K
                              have u2 := OpUp_enter Try.prog K
                              go_simp
                              exact hK _ _ (Stood.refl _) rfl
                            refine StepsOK.cons ?_ ?_
                            · -- 1: Go.Op.move (Go.Operand.tmp 282)
                              intro a w1 hR1 hF hU hsz
                              have e282 : a.eval (.tmp 282) = _ := hF 0 _ _ rfl rfl (by kernel_rfl)
                              rw [if_pos (by rfl)]
                              intro K hK
                              clear hF hU hsz
                              obtain ⟨q1, q2, q3⟩ := eval_rest a
                              generalize hρ : a.eval = ρ
                              rw [hρ] at q1 q2 q3 e282
                              clear hρ
                              have u1 := OpUp_value Try.prog K
                              have u2 := OpUp_enter Try.prog K
                              go_simp
                              exact hK _ _ (Stood.refl _) rfl
                            refine StepsOK.cons ?_ ?_
                            · -- 2: Go.Op.move (Go.Operand.tmp 9)
                              intro a w1 hR1 hF hU hsz
                              have e9 : a.eval (.tmp 9) = _ := hU 9 (by kernel_rfl)
                              have e283 : a.eval (.tmp 283) = _ := hF 1 _ _ rfl rfl (by kernel_rfl)
                              rw [wanted_guard (ops := _) rfl rfl rfl e283, if_pos (by rfl)]
                              intro K hK
                              clear hF hU hsz
                              obtain ⟨q1, q2, q3⟩ := eval_rest a
                              generalize hρ : a.eval = ρ
                              rw [hρ] at q1 q2 q3 e9 e283
                              clear hρ
                              have u1 := OpUp_value Try.prog K
                              have u2 := OpUp_enter Try.prog K
                              go_simp
                              exact hK _ _ (Stood.refl _) rfl
                            refine StepsOK.cons ?_ ?_
                            · -- 3: Go.Op.move (Go.Operand.tmp 28)
                              intro a w1 hR1 hF hU hsz
                              have e28 : a.eval (.tmp 28) = _ := hU 28 (by kernel_rfl)
                              have e283 : a.eval (.tmp 283) = _ := hF 1 _ _ rfl rfl (by kernel_rfl)
                              rw [wanted_guard (ops := _) rfl rfl rfl e283, if_pos (by rfl)]
                              intro K hK
                              clear hF hU hsz
                              obtain ⟨q1, q2, q3⟩ := eval_rest a
                              generalize hρ : a.eval = ρ
                              rw [hρ] at q1 q2 q3 e28 e283
                              clear hρ
                              have u1 := OpUp_value Try.prog K
                              have u2 := OpUp_enter Try.prog K
                              go_simp
                              exact hK _ _ (Stood.refl _) rfl
                            refine StepsOK.cons ?_ ?_
                            · -- 4: Go.Op.indexAddr 103 (Go.Operand.tmp 284) (Go.Operand.tmp 285)
                              intro a w1 hR1 hF hU hsz
                              have e284 : a.eval (.tmp 284) = _ := hF 2 _ _ rfl rfl (by kernel_rfl)
                              have e285 : a.eval (.tmp 285) = _ := hF 3 _ _ rfl rfl (by kernel_rfl)
                              have e283 : a.eval (.tmp 283) = _ := hF 1 _ _ rfl rfl (by kernel_rfl)
                              rw [wanted_guard (ops := _) rfl rfl rfl e283, if_pos (by rfl)]
                              intro K hK
                              clear hF hU hsz
                              obtain ⟨q1, q2, q3⟩ := eval_rest a
                              generalize hρ : a.eval = ρ
                              rw [hρ] at q1 q2 q3 e283 e284 e285
                              clear hρ
                              have u1 := OpUp_value Try.prog K
                              have u2 := OpUp_enter Try.prog K
                              go_simp
                              exact hK _ _ (Stood.refl _) rfl
                            refine StepsOK.cons ?_ ?_
                            · -- 5: Go.Op.fieldAddr 107 (Go.Operand.tmp 286) 0
                              intro a w1 hR1 hF hU hsz
                              have e286 : a.eval (.tmp 286) = _ := hF 4 _ _ rfl rfl (by kernel_rfl)
                              have e283 : a.eval (.tmp 283) = _ := hF 1 _ _ rfl rfl (by kernel_rfl)
                              rw [wanted_guard (ops := _) rfl rfl rfl e283, if_pos (by rfl)]
                              intro K hK
                              clear hF hU hsz
                              obtain ⟨q1, q2, q3⟩ := eval_rest a
                              generalize hρ : a.eval = ρ
                              rw [hρ] at q1 q2 q3 e283 e286
                              clear hρ
                              have u1 := OpUp_value Try.prog K
                              have u2 := OpUp_enter Try.prog K
                              go_simp
                              exact hK _ _ (Stood.refl _) rfl
                            refine StepsOK.cons ?_ ?_
                            · -- 6: Go.Op.load 22 (Go.Operand.tmp 287)
                              intro a w1 hR1 hF hU hsz
                              have e287 : a.eval (.tmp 287) = _ := hF 5 _ _ rfl rfl (by kernel_rfl)
                              have e283 : a.eval (.tmp 283) = _ := hF 1 _ _ rfl rfl (by kernel_rfl)
                              rw [wanted_guard (ops := _) rfl rfl rfl e283, if_pos (by rfl)]
                              intro K hK
                              clear hF hU hsz
                              have s1_ := ((Stood.cur hR1).cell (cell_lt s1)).trans s1
                              obtain ⟨q1, q2, q3⟩ := eval_rest a
                              generalize hρ : a.eval = ρ
                              rw [hρ] at q1 q2 q3 e283 e287
                              clear hρ
                              have u1 := OpUp_value Try.prog K
                              have u2 := OpUp_enter Try.prog K
                              go_simp
                              exact hK _ _ (Stood.refl _) rfl
                            refine StepsOK.cons ?_ ?_
                            · -- 7: Go.Op.move (Go.Operand.tmp 24)
                              intro a w1 hR1 hF hU hsz
                              have e24 : a.eval (.tmp 24) = _ := hU 24 (by kernel_rfl)
                              have e283 : a.eval (.tmp 283) = _ := hF 1 _ _ rfl rfl (by kernel_rfl)
                              rw [wanted_guard (ops := _) rfl rfl rfl e283, if_pos (by rfl)]
                              intro K hK
                              clear hF hU hsz
                              obtain ⟨q1, q2, q3⟩ := eval_rest a
                              generalize hρ : a.eval = ρ
                              rw [hρ] at q1 q2 q3 e24 e283
                              clear hρ
                              have u1 := OpUp_value Try.prog K
                              have u2 := OpUp_enter Try.prog K
                              go_simp
                              exact hK _ _ (Stood.refl _) rfl
                            refine StepsOK.cons ?_ ?_
                            · -- 8: Go.Op.binOp Go.BinOp.eql 22 (Go.Operand.tmp 288) (Go.Operand.tmp 289) 22
                              intro a w1 hR1 hF hU hsz
                              have e288 : a.eval (.tmp 288) = _ := hF 6 _ _ rfl rfl (by kernel_rfl)
                              have e289 : a.eval (.tmp 289) = _ := hF 7 _ _ rfl rfl (by kernel_rfl)
                              have e283 : a.eval (.tmp 283) = _ := hF 1 _ _ rfl rfl (by kernel_rfl)
                              rw [wanted_guard (ops := _) rfl rfl rfl e283, if_pos (by rfl)]
                              intro K hK
                              clear hF hU hsz
                              obtain ⟨q1, q2, q3⟩ := eval_rest a
                              generalize hρ : a.eval = ρ
                              rw [hρ] at q1 q2 q3 e283 e288 e289
                              clear hρ
                              have u1 := OpUp_value Try.prog K
                              have u2 := OpUp_enter Try.prog K
                              go_simp
                              exact hK _ _ (Stood.refl _) rfl
                            refine StepsOK.cons ?_ ?_
                            · -- 9: Go.Op.move (Go.Operand.tmp 290)
                              intro a w1 hR1 hF hU hsz
                              have e290 : a.eval (.tmp 290) = _ := hF 8 _ _ rfl rfl (by kernel_rfl)
                              have e283 : a.eval (.tmp 283) = _ := hF 1 _ _ rfl rfl (by kernel_rfl)
                              rw [wanted_guard (ops := _) rfl rfl rfl e283, if_pos (by rfl)]
                              intro K hK
                              clear hF hU hsz
                              obtain ⟨q1, q2, q3⟩ := eval_rest a
                              generalize hρ : a.eval = ρ
                              rw [hρ] at q1 q2 q3 e283 e290
                              clear hρ
                              have u1 := OpUp_value Try.prog K
                              have u2 := OpUp_enter Try.prog K
                              go_simp
                              exact hK _ _ (Stood.refl _) rfl
                            refine StepsOK.cons ?_ ?_
                            · -- 10: Go.Op.move (Go.Operand.tmp 21)
                              intro a w1 hR1 hF hU hsz
                              have e21 : a.eval (.tmp 21) = _ := hU 21 (by kernel_rfl)
                              have e291 : a.eval (.tmp 291) = _ := hF 9 _ _ rfl rfl (by kernel_rfl)
                              rw [wanted_guard (ops := _) rfl rfl rfl e291, if_pos (by rfl)]
                              intro K hK
                              clear hF hU hsz
                              obtain ⟨q1, q2, q3⟩ := eval_rest a
                              generalize hρ : a.eval = ρ
                              rw [hρ] at q1 q2 q3 e21 e291
                              clear hρ
                              have u1 := OpUp_value Try.prog K
                              have u2 := OpUp_enter Try.prog K
                              go_simp
                              exact hK _ _ (Stood.refl _) rfl
                            refine StepsOK.cons ?_ ?_
                            · -- 11: Go.Op.move (Go.Operand.tmp 26)
                              intro a w1 hR1 hF hU hsz
                              have e26 : a.eval (.tmp 26) = _ := hU 26 (by kernel_rfl)
                              have e291 : a.eval (.tmp 291) = _ := hF 9 _ _ rfl rfl (by kernel_rfl)
                              rw [wanted_guard (ops := _) rfl rfl rfl e291, if_pos (by rfl)]
                              intro K hK
                              clear hF hU hsz
                              obtain ⟨q1, q2, q3⟩ := eval_rest a
                              generalize hρ : a.eval = ρ
                              rw [hρ] at q1 q2 q3 e26 e291
                              clear hρ
                              have u1 := OpUp_value Try.prog K
                              have u2 := OpUp_enter Try.prog K
                              go_simp
                              exact hK _ _ (Stood.refl _) rfl
                            refine StepsOK.cons ?_ ?_
                            · -- 12: Go.Op.indexAddr 70 (Go.Operand.tmp 292) (Go.Operand.tmp 293)
                              intro a w1 hR1 hF hU hsz
                              have e292 : a.eval (.tmp 292) = _ := hF 10 _ _ rfl rfl (by kernel_rfl)
                              have e293 : a.eval (.tmp 293) = _ := hF 11 _ _ rfl rfl (by kernel_rfl)
                              have e291 : a.eval (.tmp 291) = _ := hF 9 _ _ rfl rfl (by kernel_rfl)
                              rw [wanted_guard (ops := _) rfl rfl rfl e291, if_pos (by rfl)]
                              intro K hK
                              clear hF hU hsz
                              obtain ⟨q1, q2, q3⟩ := eval_rest a
                              generalize hρ : a.eval = ρ
                              rw [hρ] at q1 q2 q3 e291 e292 e293
                              clear hρ
                              have u1 := OpUp_value Try.prog K
                              have u2 := OpUp_enter Try.prog K
                              go_simp
                              exact hK _ _ (Stood.refl _) rfl
                            refine StepsOK.cons ?_ ?_
                            · -- 13: Go.Op.fieldAddr 77 (Go.Operand.tmp 294) 1
                              intro a w1 hR1 hF hU hsz
                              have e294 : a.eval (.tmp 294) = _ := hF 12 _ _ rfl rfl (by kernel_rfl)
                              have e291 : a.eval (.tmp 291) = _ := hF 9 _ _ rfl rfl (by kernel_rfl)
                              rw [wanted_guard (ops := _) rfl rfl rfl e291, if_pos (by rfl)]
                              intro K hK
                              clear hF hU hsz
                              obtain ⟨q1, q2, q3⟩ := eval_rest a
                              generalize hρ : a.eval = ρ
                              rw [hρ] at q1 q2 q3 e291 e294
                              clear hρ
                              have u1 := OpUp_value Try.prog K
                              have u2 := OpUp_enter Try.prog K
                              go_simp
                              exact hK _ _ (Stood.refl _) rfl
                            refine StepsOK.cons ?_ ?_
                            · -- 14: Go.Op.load 75 (Go.Operand.tmp 295)
                              intro a w1 hR1 hF hU hsz
                              have e295 : a.eval (.tmp 295) = _ := hF 13 _ _ rfl rfl (by kernel_rfl)
                              have e291 : a.eval (.tmp 291) = _ := hF 9 _ _ rfl rfl (by kernel_rfl)
                              rw [wanted_guard (ops := _) rfl rfl rfl e291, if_pos (by rfl)]
                              intro K hK
                              clear hF hU hsz
                              have j1_ := ((Stood.cur hR1).cell (cell_lt j1)).trans j1
                              obtain ⟨q1, q2, q3⟩ := eval_rest a
                              generalize hρ : a.eval = ρ
                              rw [hρ] at q1 q2 q3 e291 e295
                              clear hρ
                              have u1 := OpUp_value Try.prog K
                              have u2 := OpUp_enter Try.prog K
                              go_simp
                              exact hK _ _ (Stood.refl _) rfl
                            refine StepsOK.cons ?_ ?_
                            · -- 15: Go.Op.call { callee := Go.Callee.value (Go.Operand.func 68), args := #[Go.Operan
                              intro a w1 hR1 hF hU hsz
                              have e296 : a.eval (.tmp 296) = _ := hF 14 _ _ rfl rfl (by kernel_rfl)
                              have e291 : a.eval (.tmp 291) = _ := hF 9 _ _ rfl rfl (by kernel_rfl)
                              rw [wanted_guard (ops := _) rfl rfl rfl e291, if_pos (by rfl)]
                              intro K hK
                              clear hF hU hsz
                              obtain ⟨q1, q2, q3⟩ := eval_rest a
                              generalize hρ : a.eval = ρ
                              rw [hρ] at q1 q2 q3 e291 e296
                              clear hρ
                              have u1 := OpUp_value Try.prog K
                              have u2 := OpUp_enter Try.prog K
                              go_simp
                              refine (writes_any rw9 B9 d9 w1 (HRV.out.below (Stood.cur hR1)) (by have := HFW.out; omega)).mono ?_
                              rintro e w' ⟨⟨B8, d8, rfl, hr8⟩, hb⟩
                              exact ⟨_, rfl, hK _ _ hb ⟨B8, d8, rfl, hr8⟩⟩
                            refine StepsOK.cons ?_ ?_
                            · -- 16: Go.Op.move (Go.Operand.tmp 9)
                              intro a w1 hR1 hF hU hsz
                              have e9 : a.eval (.tmp 9) = _ := hU 9 (by kernel_rfl)
                              have e291 : a.eval (.tmp 291) = _ := hF 9 _ _ rfl rfl (by kernel_rfl)
                              rw [wanted_guard (ops := _) rfl rfl rfl e291, if_pos (by rfl)]
                              intro K hK
                              clear hF hU hsz
                              obtain ⟨q1, q2, q3⟩ := eval_rest a
                              generalize hρ : a.eval = ρ
                              rw [hρ] at q1 q2 q3 e9 e291
                              clear hρ
                              have u1 := OpUp_value Try.prog K
                              have u2 := OpUp_enter Try.prog K
                              go_simp
                              exact hK _ _ (Stood.refl _) rfl
                            refine StepsOK.cons ?_ ?_
                            · -- 17: Go.Op.move (Go.Operand.tmp 28)
                              intro a w1 hR1 hF hU hsz
                              have e28 : a.eval (.tmp 28) = _ := hU 28 (by kernel_rfl)
                              have e291 : a.eval (.tmp 291) = _ := hF 9 _ _ rfl rfl (by kernel_rfl)
                              rw [wanted_guard (ops := _) rfl rfl rfl e291, if_pos (by rfl)]
                              intro K hK
                              clear hF hU hsz
                              obtain ⟨q1, q2, q3⟩ := eval_rest a
                              generalize hρ : a.eval = ρ
                              rw [hρ] at q1 q2 q3 e28 e291
                              clear hρ
                              have u1 := OpUp_value Try.prog K
                              have u2 := OpUp_enter Try.prog K
                              go_simp
                              exact hK _ _ (Stood.refl _) rfl
                            refine StepsOK.cons ?_ ?_
                            · -- 18: Go.Op.indexAddr 103 (Go.Operand.tmp 298) (Go.Operand.tmp 299)
                              intro a w1 hR1 hF hU hsz
                              have e298 : a.eval (.tmp 298) = _ := hF 16 _ _ rfl rfl (by kernel_rfl)
                              have e299 : a.eval (.tmp 299) = _ := hF 17 _ _ rfl rfl (by kernel_rfl)
                              have e291 : a.eval (.tmp 291) = _ := hF 9 _ _ rfl rfl (by kernel_rfl)
                              rw [wanted_guard (ops := _) rfl rfl rfl e291, if_pos (by rfl)]
                              intro K hK
                              clear hF hU hsz
                              obtain ⟨q1, q2, q3⟩ := eval_rest a
                              generalize hρ : a.eval = ρ
                              rw [hρ] at q1 q2 q3 e291 e298 e299
                              clear hρ
                              have u1 := OpUp_value Try.prog K
                              have u2 := OpUp_enter Try.prog K
                              go_simp
                              exact hK _ _ (Stood.refl _) rfl
                            refine StepsOK.cons ?_ ?_
                            · -- 19: Go.Op.fieldAddr 107 (Go.Operand.tmp 300) 1
                              intro a w1 hR1 hF hU hsz
                              have e300 : a.eval (.tmp 300) = _ := hF 18 _ _ rfl rfl (by kernel_rfl)
                              have e291 : a.eval (.tmp 291) = _ := hF 9 _ _ rfl rfl (by kernel_rfl)
                              rw [wanted_guard (ops := _) rfl rfl rfl e291, if_pos (by rfl)]
                              intro K hK
                              clear hF hU hsz
                              obtain ⟨q1, q2, q3⟩ := eval_rest a
                              generalize hρ : a.eval = ρ
                              rw [hρ] at q1 q2 q3 e291 e300
                              clear hρ
                              have u1 := OpUp_value Try.prog K
                              have u2 := OpUp_enter Try.prog K
                              go_simp
                              exact hK _ _ (Stood.refl _) rfl
                            refine StepsOK.cons ?_ ?_
                            · -- 20: Go.Op.load 83 (Go.Operand.tmp 301)
                              intro a w1 hR1 hF hU hsz
                              have e301 : a.eval (.tmp 301) = _ := hF 19 _ _ rfl rfl (by kernel_rfl)
                              have e291 : a.eval (.tmp 291) = _ := hF 9 _ _ rfl rfl (by kernel_rfl)
                              rw [wanted_guard (ops := _) rfl rfl rfl e291, if_pos (by rfl)]
                              intro K hK
                              clear hF hU hsz
                              have s2_ := ((Stood.cur hR1).cell (cell_lt s2)).trans s2
                              obtain ⟨q1, q2, q3⟩ := eval_rest a
                              generalize hρ : a.eval = ρ
                              rw [hρ] at q1 q2 q3 e291 e301
                              clear hρ
                              have u1 := OpUp_value Try.prog K
                              have u2 := OpUp_enter Try.prog K
                              go_simp
                              exact hK _ _ (Stood.refl _) rfl
                            refine StepsOK.cons ?_ ?_
                            · -- 21: Go.Op.call { callee := Go.Callee.value (Go.Operand.func 70), args := #[Go.Operan
                              intro a w1 hR1 hF hU hsz
                              have e297 := hF 15 _ _ rfl rfl (by kernel_rfl)
                              obtain ⟨B297, d297, e297, r297⟩ := e297
                              have e297 : a.eval (.tmp 297) = _ := e297
                              have e302 : a.eval (.tmp 302) = _ := hF 20 _ _ rfl rfl (by kernel_rfl)
                              have e291 : a.eval (.tmp 291) = _ := hF 9 _ _ rfl rfl (by kernel_rfl)
                              rw [wanted_guard (ops := _) rfl rfl rfl e291, if_pos (by rfl)]
                              intro K hK
                              clear hF hU hsz
                              obtain ⟨q1, q2, q3⟩ := eval_rest a
                              generalize hρ : a.eval = ρ
                              rw [hρ] at q1 q2 q3 e291 e297 e302
                              clear hρ
                              have u1 := OpUp_value Try.prog K
                              have u2 := OpUp_enter Try.prog K
                              go_simp
                              have KE := equalW_any rw9 rw9 B297 rb d297 rd9 w1 r297 (HRR.out.below (Stood.cur hR1)) (by have := HFW.out; omega) (by have := HFW.out; omega)
                              rw [beq_self_eq_true] at KE
                              refine KE.mono ?_
                              rintro e w' ⟨rfl, hd⟩
                              exact ⟨_, rfl, hK _ _ (hd.below _) rfl⟩
                            refine StepsOK.cons ?_ ?_
                            · -- 22: Go.Op.pick (Go.Operand.tmp 291) (Go.Operand.tmp 303) (Go.Operand.const (Go.Value
                              intro a w1 hR1 hF hU hsz
                              have e291 : a.eval (.tmp 291) = _ := hF 9 _ _ rfl rfl (by kernel_rfl)
                              have e303 : a.eval (.tmp 303) = _ := hF 21 _ _ rfl rfl (by kernel_rfl)
                              have e283 : a.eval (.tmp 283) = _ := hF 1 _ _ rfl rfl (by kernel_rfl)
                              rw [wanted_guard (ops := _) rfl rfl rfl e283, if_pos (by rfl)]
                              intro K hK
                              clear hF hU hsz
                              obtain ⟨q1, q2, q3⟩ := eval_rest a
                              generalize hρ : a.eval = ρ
                              rw [hρ] at q1 q2 q3 e283 e291 e303
                              clear hρ
                              have u1 := OpUp_value Try.prog K
                              have u2 := OpUp_enter Try.prog K
                              go_simp
                              exact hK _ _ (Stood.refl _) rfl
                            refine StepsOK.cons ?_ ?_
                            · -- 23: Go.Op.pick (Go.Operand.tmp 283) (Go.Operand.const (Go.Value.bool true)) (Go.Oper
                              intro a w1 hR1 hF hU hsz
                              have e283 : a.eval (.tmp 283) = _ := hF 1 _ _ rfl rfl (by kernel_rfl)
                              have e304 : a.eval (.tmp 304) = _ := hF 22 _ _ rfl rfl (by kernel_rfl)
                              rw [if_pos (by rfl)]
                              intro K hK
                              clear hF hU hsz
                              obtain ⟨q1, q2, q3⟩ := eval_rest a
                              generalize hρ : a.eval = ρ
                              rw [hρ] at q1 q2 q3 e283 e304
                              clear hρ
                              have u1 := OpUp_value Try.prog K
                              have u2 := OpUp_enter Try.prog K
                              go_simp
                              exact hK _ _ (Stood.refl _) rfl
                            refine StepsOK.cons ?_ ?_
                            · -- 24: Go.Op.assign (Go.Operand.tmp 305)
                              intro a w1 hR1 hF hU hsz
                              have e305 : a.eval (.tmp 305) = _ := hF 23 _ _ rfl rfl (by kernel_rfl)
                              rw [if_pos (by rfl)]
                              intro K hK
                              clear hF hU hsz
                              obtain ⟨q1, q2, q3⟩ := eval_rest a
                              generalize hρ : a.eval = ρ
                              rw [hρ] at q1 q2 q3 e305
                              clear hρ
                              have u1 := OpUp_value Try.prog K
                              have u2 := OpUp_enter Try.prog K
                              go_simp
                              exact hK _ _ (Stood.refl _) rfl
                            exact StepsOK.nil
                          case hend =>
                            intro vs0 w1 hR1 hH0
                            obtain ⟨vs1, rfl, hH1⟩ := hH0.eq_
                            obtain ⟨vs2, rfl, hH2⟩ := hH1.eq_
                            obtain ⟨vs3, rfl, hH3⟩ := hH2.eq_
                            obtain ⟨vs4, rfl, hH4⟩ := hH3.eq_
                            obtain ⟨vs5, rfl, hH5⟩ := hH4.eq_
                            obtain ⟨vs6, rfl, hH6⟩ := hH5.eq_
                            obtain ⟨vs7, rfl, hH7⟩ := hH6.eq_
                            obtain ⟨vs8, rfl, hH8⟩ := hH7.eq_
                            obtain ⟨vs9, rfl, hH9⟩ := hH8.eq_
                            obtain ⟨vs10, rfl, hH10⟩ := hH9.eq_
                            obtain ⟨vs11, rfl, hH11⟩ := hH10.eq_
                            obtain ⟨vs12, rfl, hH12⟩ := hH11.eq_
                            obtain ⟨vs13, rfl, hH13⟩ := hH12.eq_
                            obtain ⟨vs14, rfl, hH14⟩ := hH13.eq_
                            obtain ⟨vs15, rfl, hH15⟩ := hH14.eq_
                            obtain ⟨v15, vs16, rfl, hv15, hH16⟩ := hH15.cons
                            obtain ⟨vs17, rfl, hH17⟩ := hH16.eq_
                            obtain ⟨vs18, rfl, hH18⟩ := hH17.eq_
                            obtain ⟨vs19, rfl, hH19⟩ := hH18.eq_
                            obtain ⟨vs20, rfl, hH20⟩ := hH19.eq_
                            obtain ⟨vs21, rfl, hH21⟩ := hH20.eq_
                            obtain ⟨vs22, rfl, hH22⟩ := hH21.eq_
                            obtain ⟨vs23, rfl, hH23⟩ := hH22.eq_
                            obtain ⟨vs24, rfl, hH24⟩ := hH23.eq_
                            obtain ⟨vs25, rfl, hH25⟩ := hH24.eq_
                            obtain rfl := hH25.nil
                            clear hH0 hH1 hH2 hH3 hH4 hH5 hH6 hH7 hH8 hH9 hH10 hH11 hH12 hH13 hH14 hH15 hH16 hH17 hH18 hH19 hH20 hH21 hH22 hH23 hH24 hH25
                            simp only [putAll, Act.put, List.setIfInBounds_toArray, List.set_cons_zero, List.set_cons_succ]
                            obtain ⟨_, _, rfl, _⟩ := hv15
                            have HB1 := Lib.hid (HBP.out.trans ((Stood.cur hR1).mono HBP.out.size))
                            clear hR1 s1 s2 j1
                            go_wp2
                            go_roundw
                            case rel => exact ⟨p + 1, hpn, by go_num, by rw [fo2], HB1.out⟩
                            case measure => simp [intOf]; omega
                      · as_aux_lemma =>
                          have fo : decide (cl2 < p) = true := decide_eq_true hgt
                          have fo2 : decide (cl2 < p + 1) = true := decide_eq_true (by omega)
                          rw [fo]
                          clear hgt fo s1 s2 j0 j1 f1
                          go_wp2_with fail
                          go_quiet (fail)
                          go_wp2
                          go_roundw
                          case rel => exact ⟨p + 1, hpn, by go_num, by rw [fo2], by first | exact HBP.out | exact HBP.out.trans ((Drawn.some_ _ _).below _)⟩
                          case measure => simp [intOf]; omega
                    · obtain rfl : p = n := by omega
                      have fo : decide (cl2 < p) = true := decide_eq_true HCL.out
                      rw [fo]
                      clear fo
                      go_wp2
                      go_roundw
                      case rel => exact ⟨q + 1, hqd, by go_num, by rw [HLS.out], HBQ.out.trans (HBP.out.mono HBQ.out.size)⟩
                      case measure => simp [intOf]; omega
              · obtain rfl : q = D.length := by omega
                go_wp2
                go_roundw
                case rel => exact ⟨k + 1, hlt, by go_num, _, _, _, _, _, _, _, _, rfl, rfl, HP9.out.below HBQ.out, HI.out, HCNT.out⟩
                case measure => simp [intOf]; omega
            -- the end of the loop over the records
    · obtain rfl : k = bs.length := by omega
      go_wp2
      go_ret
      exact ⟨rfl, HP.out.bo.bel⟩
end Go.Proofs.Ytoifejinppjeeaa
