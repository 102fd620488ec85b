/- The walk of the statement LockKnown. No condition. -/
import Derived.Test.YtfdngdnnjmcigaaLkLaw
namespace Go.Proofs.Ytfdngdnnjmcigaa
open Go.RowKit Go.Maps
set_option linter.unusedVariables false
set_option linter.unusedSimpArgs false
theorem RdL.turnJ {w0 w w' : World} {x b n : Nat} {T : Int → Sl} {A : Option Addr} {ws : List Wt} (h : RdL w A ws) (hj : LkJ w0 w x b n T) (hg : w.grownBy w' (some b)) : RdL w' A ws := by
  obtain ⟨D, ho, _⟩ := hj.lk.map
  exact h.turn ho hg
set_option maxRecDepth 100000 in
set_option maxHeartbeats 8000000 in
theorem LockKnown_walk (w : World) : Calls Try.prog 3 #[] w fun e w' => e = .returned (.bool true) ∧ Below w.heap.size w w' := by
  have KA := Lib.hid (lkAwake_any w)
  go_enter Try.func3, Try.ntmps3
  go_wp2_with fail
  refine KA.out.mono ?_
  rintro e wq ⟨rfl, hb⟩
  have HW := Lib.hid hb
  have KN := Lib.hid (new_any wq)
  clear hb KA
  go_wp2_with fail
  refine KN.out.mono ?_
  rintro e w0 ⟨x, b, rfl, hb1, hx1, hl, hb⟩
  have J0 := Lib.hid (show LkJ w w0 x b 0 (fun _ => nilSl) from ⟨hl, nilT0, HW.out.trans (hb.mono HW.out.size), Nat.le_trans HW.out.size hb1⟩)
  clear hb1 hx1 hl hb KN HW
  have hv1 : mayV (fun _ => nilSl) 1 [] = 1 := by
    exact mayV_arg (.inr (.inl rfl))
  have K1 := Lib.hid (take_any (fun _ => nilSl) 1 [] none 0 w0 x b 0 J0.out.lk (by unfold I64; omega) (.inl rfl) (by decide) (by decide))
  go_wp2_with fail
  refine K1.out.mono ?_
  rintro e w2 hp
  obtain rfl := hp.1
  have hp2 := J0.out.takeN hp (by rw [hv1]; decide)
  rw [hv1]
  have J2 := Lib.hid hp2
  clear hp2 K1 hv1 hp
  have al3 := (Below.refl w2.heap.size w2).alloc (Nat.le_refl _) (.cells #[.int .i64 2, .bool false, .int .i64 1, .bool false] 28)
  have J3 := Lib.hid (J2.out.below al3)
  have R3 := Lib.hid (show RdL (w2.alloc (.cells #[.int .i64 2, .bool false, .int .i64 1, .bool false] 28)) (some ⟨w2.heap.size, 0, none⟩) [(2, false), (1, false)] from RdL.new w2 [(2, false), (1, false)] 28)
  clear al3
  have hv4 : mayV (fun _ => nilSl) 1 [(2, false), (1, false)] = 1 := by
    exact mayV_arg (.inr (.inr (by decide)))
  have K4 := Lib.hid (take_any (fun _ => nilSl) 1 [(2, false), (1, false)] (some ⟨w2.heap.size, 0, none⟩) 2 (w2.alloc (.cells #[.int .i64 2, .bool false, .int .i64 1, .bool false] 28)) x b 0 J3.out.lk (by unfold I64; omega) R3.out (by decide) (by decide))
  go_wp2_with fail
  refine K4.out.mono ?_
  rintro e w5 hp
  obtain rfl := hp.1
  have hp5 := J3.out.takeN hp (by rw [hv4]; decide)
  rw [hv4]
  have J5 := Lib.hid hp5
  clear hp5 K4 hv4 hp
  clear J3 R3
  have al6 := (Below.refl w5.heap.size w5).alloc (Nat.le_refl _) (.cells #[.int .i64 2, .bool false, .int .i64 2, .bool true] 28)
  have J6 := Lib.hid (J5.out.below al6)
  have R6 := Lib.hid (show RdL (w5.alloc (.cells #[.int .i64 2, .bool false, .int .i64 2, .bool true] 28)) (some ⟨w5.heap.size, 0, none⟩) [(2, false), (2, true)] from RdL.new w5 [(2, false), (2, true)] 28)
  clear al6
  have hv7 : mayV (fun _ => nilSl) 1 [(2, false), (2, true)] = 1 := by
    exact mayV_arg (.inr (.inr (by decide)))
  have K7 := Lib.hid (take_any (fun _ => nilSl) 1 [(2, false), (2, true)] (some ⟨w5.heap.size, 0, none⟩) 2 (w5.alloc (.cells #[.int .i64 2, .bool false, .int .i64 2, .bool true] 28)) x b 0 J6.out.lk (by unfold I64; omega) R6.out (by decide) (by decide))
  go_wp2_with fail
  refine K7.out.mono ?_
  rintro e w8 hp
  obtain rfl := hp.1
  have hp8 := J6.out.takeN hp (by rw [hv7]; decide)
  rw [hv7]
  have J8 := Lib.hid hp8
  clear hp8 K7 hv7 hp
  clear J6 R6
  have al9 := (Below.refl w8.heap.size w8).alloc (Nat.le_refl _) (.cells #[.int .i64 (-5), .bool true, .int .i64 7, .bool false] 28)
  have J9 := Lib.hid (J8.out.below al9)
  have R9 := Lib.hid (show RdL (w8.alloc (.cells #[.int .i64 (-5), .bool true, .int .i64 7, .bool false] 28)) (some ⟨w8.heap.size, 0, none⟩) [(-5, true), (7, false)] from RdL.new w8 [(-5, true), (7, false)] 28)
  clear al9
  have hv10 : mayV (fun _ => nilSl) 1 [(-5, true), (7, false)] = 0 := by
    exact mayV_ok (by simp [nilSl, risesB]) (by rintro ⟨z, hz, hne, y, hy, q, hq, ha⟩; simp [nilSl] at hy)
  have K10 := Lib.hid (take_any (fun _ => nilSl) 1 [(-5, true), (7, false)] (some ⟨w8.heap.size, 0, none⟩) 2 (w8.alloc (.cells #[.int .i64 (-5), .bool true, .int .i64 7, .bool false] 28)) x b 0 J9.out.lk (by unfold I64; omega) R9.out (by decide) (by decide))
  go_wp2_with fail
  refine K10.out.mono ?_
  rintro e w11 hp
  obtain rfl := hp.1
  have hp11 := J9.out.take0 hp (by exact hv10)
  obtain ⟨B11, d11, hp11⟩ := hp11
  rw [hv10]
  have J11 := Lib.hid hp11
  clear hp11 K10 hv10 hp
  clear J9 R9
  have al12 := (Below.refl w11.heap.size w11).alloc (Nat.le_refl _) (.cells #[.int .i64 9, .bool false] 28)
  have J12 := Lib.hid (J11.out.below al12)
  have R12 := Lib.hid (show RdL (w11.alloc (.cells #[.int .i64 9, .bool false] 28)) (some ⟨w11.heap.size, 0, none⟩) [(9, false)] from RdL.new w11 [(9, false)] 28)
  clear al12
  have hv13 : mayV (upd (fun _ => nilSl) 1 (B11, [(-5, true), (7, false)], d11)) 1 [(9, false)] = 1 := by
    exact mayV_arg (.inl (by simp [upd]))
  have K13 := Lib.hid (take_any (upd (fun _ => nilSl) 1 (B11, [(-5, true), (7, false)], d11)) 1 [(9, false)] (some ⟨w11.heap.size, 0, none⟩) 1 (w11.alloc (.cells #[.int .i64 9, .bool false] 28)) x b 1 J12.out.lk (by unfold I64; omega) R12.out (by decide) (by decide))
  go_wp2_with fail
  refine K13.out.mono ?_
  rintro e w14 hp
  obtain rfl := hp.1
  have hp14 := J12.out.takeN hp (by rw [hv13]; decide)
  rw [hv13]
  have J14 := Lib.hid hp14
  clear hp14 K13 hv13 hp
  clear J12 R12
  have al15 := (Below.refl w14.heap.size w14).alloc (Nat.le_refl _) (.cells #[.int .i64 7, .bool false] 28)
  have J15 := Lib.hid (J14.out.below al15)
  have R15 := Lib.hid (show RdL (w14.alloc (.cells #[.int .i64 7, .bool false] 28)) (some ⟨w14.heap.size, 0, none⟩) [(7, false)] from RdL.new w14 [(7, false)] 28)
  clear al15
  have hv16 : mayV (upd (fun _ => nilSl) 1 (B11, [(-5, true), (7, false)], d11)) 2 [(7, false)] = 0 := by
    exact mayV_ok (by simp [upd, nilSl, risesB]) (by rintro ⟨z, hz, hne, y, hy, q, hq, ha⟩; simp only [upd, nilSl] at hy; (repeat' split at hy) <;> simp at hy hq <;> (rcases hy with rfl | rfl <;> (subst hq; exact absurd ha (by decide))))
  have K16 := Lib.hid (mayF_any (upd (fun _ => nilSl) 1 (B11, [(-5, true), (7, false)], d11)) 2 [(7, false)] (some ⟨w14.heap.size, 0, none⟩) 1 (w14.alloc (.cells #[.int .i64 7, .bool false] 28)) x b 1 J15.out.lk (by unfold I64; omega) R15.out (by decide))
  rw [hv16] at K16
  go_wp2_with fail
  refine K16.out.mono ?_
  rintro e w17 ⟨rfl, hb⟩
  have hp17 := J15.out.below hb
  have J17 := Lib.hid hp17
  clear hp17 K16 hv16 hb
  clear J15 R15
  have al18 := (Below.refl w17.heap.size w17).alloc (Nat.le_refl _) (.cells #[.int .i64 6, .bool false, .int .i64 7, .bool true] 28)
  have J18 := Lib.hid (J17.out.below al18)
  have R18 := Lib.hid (show RdL (w17.alloc (.cells #[.int .i64 6, .bool false, .int .i64 7, .bool true] 28)) (some ⟨w17.heap.size, 0, none⟩) [(6, false), (7, true)] from RdL.new w17 [(6, false), (7, true)] 28)
  clear al18
  have hv19 : mayV (upd (fun _ => nilSl) 1 (B11, [(-5, true), (7, false)], d11)) 2 [(6, false), (7, true)] = 15 := by
    exact mayV_busy (by simp [upd, nilSl, risesB]) ⟨1, by unfold I64; omega, by omega, (7, false), by simp [upd], (7, true), by simp, rfl⟩
  have K19 := Lib.hid (mayF_any (upd (fun _ => nilSl) 1 (B11, [(-5, true), (7, false)], d11)) 2 [(6, false), (7, true)] (some ⟨w17.heap.size, 0, none⟩) 2 (w17.alloc (.cells #[.int .i64 6, .bool false, .int .i64 7, .bool true] 28)) x b 1 J18.out.lk (by unfold I64; omega) R18.out (by decide))
  rw [hv19] at K19
  go_wp2_with fail
  refine K19.out.mono ?_
  rintro e w20 ⟨rfl, hb⟩
  have hp20 := J18.out.below hb
  have J20 := Lib.hid hp20
  clear hp20 K19 hv19 hb
  clear J18 R18
  have al21 := (Below.refl w20.heap.size w20).alloc (Nat.le_refl _) (.cells #[.int .i64 (-5), .bool false] 28)
  have J21 := Lib.hid (J20.out.below al21)
  have R21 := Lib.hid (show RdL (w20.alloc (.cells #[.int .i64 (-5), .bool false] 28)) (some ⟨w20.heap.size, 0, none⟩) [(-5, false)] from RdL.new w20 [(-5, false)] 28)
  clear al21
  have hv22 : mayV (upd (fun _ => nilSl) 1 (B11, [(-5, true), (7, false)], d11)) 2 [(-5, false)] = 15 := by
    exact mayV_busy (by simp [upd, nilSl, risesB]) ⟨1, by unfold I64; omega, by omega, (-5, true), by simp [upd], (-5, false), by simp, rfl⟩
  have K22 := Lib.hid (take_any (upd (fun _ => nilSl) 1 (B11, [(-5, true), (7, false)], d11)) 2 [(-5, false)] (some ⟨w20.heap.size, 0, none⟩) 1 (w20.alloc (.cells #[.int .i64 (-5), .bool false] 28)) x b 1 J21.out.lk (by unfold I64; omega) R21.out (by decide) (by decide))
  go_wp2_with fail
  refine K22.out.mono ?_
  rintro e w23 hp
  obtain rfl := hp.1
  have hp23 := J21.out.takeN hp (by rw [hv22]; decide)
  rw [hv22]
  have J23 := Lib.hid hp23
  clear hp23 K22 hv22 hp
  clear J21 R21
  have KH := Lib.hid (holds_any (upd (fun _ => nilSl) 1 (B11, [(-5, true), (7, false)], d11)) 1 w23 x b 1 J23.out.lk (by unfold I64; omega) J23.out.nt)
  have hT3 : ((upd (fun _ => nilSl) 1 (B11, [(-5, true), (7, false)], d11)) 1).2.1 = [(-5, true), (7, false)] := by simp [upd]
  rw [hT3] at KH
  clear hT3
  go_wp2_with fail
  refine KH.out.mono ?_
  rintro e wi ⟨⟨Bi, di, rfl, hr⟩, hb⟩
  have RI := Lib.hid hr
  have JI := Lib.hid (J23.out.below hb)
  clear hr hb KH J23
  have KG := Lib.hid (give_any (upd (fun _ => nilSl) 1 (B11, [(-5, true), (7, false)], d11)) 1 wi x b 1 JI.out.lk (by unfold I64; omega))
  go_wp2_with fail
  refine KG.out.mono ?_
  rintro e wg1 ⟨rfl, hl, hg⟩
  have RI1 := Lib.hid (RI.out.turnJ JI.out hg)
  have JG1 := Lib.hid (JI.out.give hl hg)
  clear hl hg KG JI RI
  have KG := Lib.hid (give_any (upd (upd (fun _ => nilSl) 1 (B11, [(-5, true), (7, false)], d11)) 1 nilSl) 4 wg1 x b 1 JG1.out.lk (by unfold I64; omega))
  go_wp2_with fail
  refine KG.out.mono ?_
  rintro e wg2 ⟨rfl, hl, hg⟩
  have RI2 := Lib.hid (RI1.out.turnJ JG1.out hg)
  have JG2 := Lib.hid (JG1.out.give hl hg)
  clear hl hg KG JG1 RI1
  have al24 := (Below.refl wg2.heap.size wg2).alloc (Nat.le_refl _) (.cells #[.int .i64 (-5), .bool true, .int .i64 7, .bool true] 28)
  have J24 := Lib.hid (JG2.out.below al24)
  have R24 := Lib.hid (show RdL (wg2.alloc (.cells #[.int .i64 (-5), .bool true, .int .i64 7, .bool true] 28)) (some ⟨wg2.heap.size, 0, none⟩) [(-5, true), (7, true)] from RdL.new wg2 [(-5, true), (7, true)] 28)
  clear al24
  have RI3 := Lib.hid (RI2.out.below ((Below.refl wg2.heap.size wg2).alloc (Nat.le_refl _) (.cells #[.int .i64 (-5), .bool true, .int .i64 7, .bool true] 28)))
  clear RI2
  have hvj : mayV (upd (upd (upd (fun _ => nilSl) 1 (B11, [(-5, true), (7, false)], d11)) 1 nilSl) 4 nilSl) 2 [(-5, true), (7, true)] = 0 := by
    exact mayV_ok (by simp [upd, nilSl, risesB]) (by rintro ⟨z, hz, hne, y, hy, q, hq, ha⟩; simp only [upd, nilSl] at hy; (repeat' split at hy) <;> first | omega | (simp at hy))
  have KJ := Lib.hid (take_any (upd (upd (upd (fun _ => nilSl) 1 (B11, [(-5, true), (7, false)], d11)) 1 nilSl) 4 nilSl) 2 [(-5, true), (7, true)] (some ⟨wg2.heap.size, 0, none⟩) 2 (wg2.alloc (.cells #[.int .i64 (-5), .bool true, .int .i64 7, .bool true] 28)) x b 1 J24.out.lk (by unfold I64; omega) R24.out (by decide) (by decide))
  go_wp2_with fail
  refine KJ.out.mono ?_
  rintro e wj hp
  obtain rfl := hp.1
  have RI4 := Lib.hid (RI3.out.turnJ J24.out hp.2.1)
  obtain ⟨Bj, dj, hpj⟩ := J24.out.take0 hp (by exact hvj)
  rw [hvj]
  have JJ := Lib.hid hpj
  clear hp hpj KJ hvj RI3 J24 R24
  have KW := Lib.hid (who_any (upd (upd (upd (upd (fun _ => nilSl) 1 (B11, [(-5, true), (7, false)], d11)) 1 nilSl) 4 nilSl) 2 (Bj, [(-5, true), (7, true)], dj)) 7 wj x b 2 JJ.out.lk (by unfold I64; omega) (by decide))
  unfold WhoPost at KW
  go_wp2_with fail
  refine KW.out.mono ?_
  rintro e wa ⟨B9, d9, rs, rfl, hr, hs, hm, _, hb⟩
  have HRS := Lib.hid (show rs = [2] from lt_ext hs (by simp) fun z => by
    rw [hm z]
    unfold HasK
    simp only [upd, nilSl]
    constructor
    · rintro ⟨_, h⟩
      by_cases h2 : z = 2
      · simp [h2]
      · exfalso
        (repeat' split at h) <;> first | omega | (simp at h)
    · intro h
      simp at h
      subst h
      exact ⟨by unfold I64; omega, by simp⟩)
  have JA := Lib.hid (JJ.out.below hb)
  have RI5 := Lib.hid (RI4.out.below hb)
  have hrs := HRS.out
  subst hrs
  have HR9 := Lib.hid hr
  clear hr hs hm hb KW HRS RI4 JJ
  have KH := Lib.hid (holds_any (upd (upd (upd (upd (fun _ => nilSl) 1 (B11, [(-5, true), (7, false)], d11)) 1 nilSl) 4 nilSl) 2 (Bj, [(-5, true), (7, true)], dj)) 1 wa x b 2 JA.out.lk (by unfold I64; omega) JA.out.nt)
  have hT3 : ((upd (upd (upd (upd (fun _ => nilSl) 1 (B11, [(-5, true), (7, false)], d11)) 1 nilSl) 4 nilSl) 2 (Bj, [(-5, true), (7, true)], dj)) 1).2.1 = [] := by simp [upd, nilSl]
  rw [hT3] at KH
  clear hT3
  obtain ⟨bi, oi, rfl, hci⟩ := RI5.out.at_ (k := 0) (by decide)
  obtain ⟨i0, i1⟩ := hci 0 (by decide)
  obtain ⟨bk, ok, rfl, hck⟩ := HR9.out.at_ (k := 0) (by decide)
  have k0 := hck 0 (by decide)
  simp only [List.getElem_cons_zero, Nat.zero_mul, Nat.add_zero] at i0 i1 k0
  unfold Zv at k0
  clear hci hck
  go_wp2_with fail
  refine KH.out.mono ?_
  rintro e wb ⟨⟨B8, d8, rfl, _⟩, hb⟩
  have HB := Lib.hid (JA.out.bel.trans (hb.mono JA.out.bel.size))
  clear hb KH
  go_wp2
  go_ret
  exact ⟨rfl, HB.out⟩
end Go.Proofs.Ytfdngdnnjmcigaa
