/- What a law carries of a table of locks; the walk of lintellaw23.awake. No condition. -/
import Derived.Test.YtfdngdnnjmcigaaLk5
import Derived.Test.YtfdngdnnjmcigaaLk6
namespace Go.Proofs.Ytfdngdnnjmcigaa
open Go.RowKit Go.Maps
set_option linter.unusedVariables false
set_option linter.unusedSimpArgs false
theorem RdL.new (w : World) (ws : List Wt) (t : TypeId) : RdL (w.alloc (.cells (ws.flatMap encW).toArray t)) (some ⟨w.heap.size, 0, none⟩) ws := by
  refine .inr ⟨w.heap.size, 0, rfl, fun k hk => ?_⟩
  obtain ⟨h1, h2⟩ := flatW_at ws k hk
  have hh := heap_alloc_new w (.cells (ws.flatMap encW).toArray t)
  rw [Nat.zero_add]
  exact ⟨(Lib.cell_of_heap hh _).trans (by simpa using h1), (Lib.cell_of_heap hh _).trans (by simpa using h2)⟩
structure LkJ (w0 w : World) (x b n : Nat) (T : Int → Sl) : Prop where
  lk : LkAt w x b n T
  nt : NilT T
  bel : Below w0.heap.size w0 w
  lo : w0.heap.size ≤ b
section
variable {w0 w w' : World} {x b n : Nat} {T : Int → Sl} {who : Int} {ls : List Wt} {e : Ending}
theorem LkJ.below (h : LkJ w0 w x b n T) (hb : Below w.heap.size w w') : LkJ w0 w' x b n T := ⟨h.lk.below hb, h.nt, h.bel.trans (hb.mono h.bel.size), h.lo⟩
theorem LkJ.turn (h : LkJ w0 w x b n T) (hg : w.grownBy w' (some b)) : Below w0.heap.size w0 w' := h.bel.grown hg h.bel.size (fun k hk => by cases hk; exact h.lo)
theorem LkJ.takeN (h : LkJ w0 w x b n T) (hp : TakePost T who ls x b n w e w') (hm : mayV T who ls ≠ 0) : LkJ w0 w' x b n T := ⟨hp.2.2.1 hm, h.nt, h.turn hp.2.1, h.lo⟩
theorem LkJ.take0 (h : LkJ w0 w x b n T) (hp : TakePost T who ls x b n w e w') (hm : mayV T who ls = 0) : ∃ B d, LkJ w0 w' x b (n + 1) (upd T who (B, ls, d)) := by
  obtain ⟨B, d, h1, _⟩ := hp.2.2.2 hm
  exact ⟨B, d, h1, h.nt.upd (fun e => absurd e (mayV_zero hm).1), h.turn hp.2.1, h.lo⟩
theorem LkJ.give (h : LkJ w0 w x b n T) (hl : LkAt w' x b n (upd T who nilSl)) (hg : w.grownBy w' (some b)) : LkJ w0 w' x b n (upd T who nilSl) := ⟨hl, h.nt.upd (fun _ => rfl), h.turn hg, h.lo⟩
end
theorem lt_ext {l m : List Int} (hl : l.Pairwise (· < ·)) (hm : m.Pairwise (· < ·)) (h : ∀ z, z ∈ l ↔ z ∈ m) : l = m := by
  have nd : ∀ {l : List Int}, l.Pairwise (· < ·) → l.Nodup := fun h => h.imp fun h e => by omega
  have hp : l.Perm m := (List.perm_ext_iff_of_nodup (nd hl) (nd hm)).2 h
  exact List.Perm.eq_of_pairwise (le := (· < ·)) (fun a b _ _ h1 h2 => by omega) hl hm hp
theorem nilT0 : NilT (fun _ => nilSl) := fun _ _ _ => rfl
set_option maxRecDepth 100000 in
set_option maxHeartbeats 8000000 in
theorem lkAwake_any (w : World) : Calls Try.prog 6 #[] w fun e w' => e = .returned (.bool true) ∧ Below w.heap.size w w' := by
  have KN := Lib.hid (new_any w)
  go_enter Try.func6, Try.ntmps6
  go_wp2_with fail
  refine KN.out.mono ?_
  rintro e w0 ⟨x, b, rfl, hb1, hx1, hl, hb⟩
  have J0 := Lib.hid (show LkJ w w0 x b 0 (fun _ => nilSl) from ⟨hl, nilT0, hb, hb1⟩)
  clear hb1 hx1 hl hb KN
  have al1 := (Below.refl w0.heap.size w0).alloc (Nat.le_refl _) (.cells #[.int .i64 1, .bool false] 28)
  have J1 := Lib.hid (J0.out.below al1)
  have R1 := Lib.hid (show RdL (w0.alloc (.cells #[.int .i64 1, .bool false] 28)) (some ⟨w0.heap.size, 0, none⟩) [(1, false)] from RdL.new w0 [(1, false)] 28)
  clear al1
  have hv2 : mayV (fun _ => nilSl) 1 [(1, false)] = 0 := by
    exact mayV_ok (by simp [upd, nilSl, risesB]) (by rintro ⟨z, hz, hne, y, hy, q, hq, ha⟩; simp only [upd, nilSl] at hy; (repeat' split at hy) <;> simp at hy hq <;> (subst hy; subst hq; exact absurd ha (by decide)))
  have K2 := Lib.hid (take_any (fun _ => nilSl) 1 [(1, false)] (some ⟨w0.heap.size, 0, none⟩) 1 (w0.alloc (.cells #[.int .i64 1, .bool false] 28)) x b 0 J1.out.lk (by unfold In64; omega) R1.out (by decide) (by decide))
  go_wp2_with fail
  refine K2.out.mono ?_
  rintro e w3 hp
  obtain rfl := hp.1
  have hp3 := J1.out.take0 hp (by exact hv2)
  obtain ⟨B3, d3, hp3⟩ := hp3
  rw [hv2]
  have J3 := Lib.hid hp3
  clear hp3 K2 hv2 hp
  clear J1 R1
  have al4 := (Below.refl w3.heap.size w3).alloc (Nat.le_refl _) (.cells #[.int .i64 1, .bool false] 28)
  have J4 := Lib.hid (J3.out.below al4)
  have R4 := Lib.hid (show RdL (w3.alloc (.cells #[.int .i64 1, .bool false] 28)) (some ⟨w3.heap.size, 0, none⟩) [(1, false)] from RdL.new w3 [(1, false)] 28)
  clear al4
  have hv5 : mayV (upd (fun _ => nilSl) 1 (B3, [(1, false)], d3)) 2 [(1, false)] = 0 := by
    exact mayV_ok (by simp [upd, nilSl, risesB]) (by rintro ⟨z, hz, hne, y, hy, q, hq, ha⟩; simp only [upd, nilSl] at hy; (repeat' split at hy) <;> simp at hy hq <;> (subst hy; subst hq; exact absurd ha (by decide)))
  have K5 := Lib.hid (take_any (upd (fun _ => nilSl) 1 (B3, [(1, false)], d3)) 2 [(1, false)] (some ⟨w3.heap.size, 0, none⟩) 1 (w3.alloc (.cells #[.int .i64 1, .bool false] 28)) x b 1 J4.out.lk (by unfold In64; omega) R4.out (by decide) (by decide))
  go_wp2_with fail
  refine K5.out.mono ?_
  rintro e w6 hp
  obtain rfl := hp.1
  have hp6 := J4.out.take0 hp (by exact hv5)
  obtain ⟨B6, d6, hp6⟩ := hp6
  rw [hv5]
  have J6 := Lib.hid hp6
  clear hp6 K5 hv5 hp
  clear J4 R4
  have al7 := (Below.refl w6.heap.size w6).alloc (Nat.le_refl _) (.cells #[.int .i64 1, .bool true] 28)
  have J7 := Lib.hid (J6.out.below al7)
  have R7 := Lib.hid (show RdL (w6.alloc (.cells #[.int .i64 1, .bool true] 28)) (some ⟨w6.heap.size, 0, none⟩) [(1, true)] from RdL.new w6 [(1, true)] 28)
  clear al7
  have hv8 : mayV (upd (upd (fun _ => nilSl) 1 (B3, [(1, false)], d3)) 2 (B6, [(1, false)], d6)) 3 [(1, true)] = 15 := by
    exact mayV_busy (by simp [upd, nilSl, risesB]) ⟨1, by unfold In64; omega, by omega, (1, false), by simp [upd], (1, true), by simp, rfl⟩
  have K8 := Lib.hid (take_any (upd (upd (fun _ => nilSl) 1 (B3, [(1, false)], d3)) 2 (B6, [(1, false)], d6)) 3 [(1, true)] (some ⟨w6.heap.size, 0, none⟩) 1 (w6.alloc (.cells #[.int .i64 1, .bool true] 28)) x b 2 J7.out.lk (by unfold In64; omega) R7.out (by decide) (by decide))
  go_wp2_with fail
  refine K8.out.mono ?_
  rintro e w9 hp
  obtain rfl := hp.1
  have hp9 := J7.out.takeN hp (by rw [hv8]; decide)
  rw [hv8]
  have J9 := Lib.hid hp9
  clear hp9 K8 hv8 hp
  clear J7 R7
  have KW := Lib.hid (who_any (upd (upd (fun _ => nilSl) 1 (B3, [(1, false)], d3)) 2 (B6, [(1, false)], d6)) 1 w9 x b 2 J9.out.lk (by unfold In64; omega) (by decide))
  unfold WhoPost at KW
  go_wp2_with fail
  refine KW.out.mono ?_
  rintro e wa ⟨B9, d9, rs, rfl, hr, hs, hm, _, hb⟩
  have HRS := Lib.hid (show rs = [1, 2] from lt_ext hs (by simp) fun z => by
    rw [hm z]
    unfold HasK
    simp only [upd, nilSl]
    constructor
    · rintro ⟨_, h⟩
      by_cases h2 : z = 2
      · simp [h2]
      · by_cases h1 : z = 1
        · simp [h1]
        · simp [h1, h2] at h
    · intro h
      simp at h
      rcases h with rfl | rfl
      · exact ⟨by unfold In64; omega, by simp⟩
      · exact ⟨by unfold In64; omega, by simp⟩)
  have JA := Lib.hid (J9.out.below hb)
  have HRL := Lib.hid (show rs.length = 2 by rw [HRS.out]; rfl)
  clear hr hs hm hb KW HRS
  have KH := Lib.hid (holds_any (upd (upd (fun _ => nilSl) 1 (B3, [(1, false)], d3)) 2 (B6, [(1, false)], d6)) 3 wa x b 2 JA.out.lk (by unfold In64; omega) JA.out.nt)
  have hT3 : ((upd (upd (fun _ => nilSl) 1 (B3, [(1, false)], d3)) 2 (B6, [(1, false)], d6)) 3).2.1 = [] := by simp [upd, nilSl]
  rw [hT3] at KH
  clear hT3
  rw [HRL.out]
  go_wp2_with fail
  refine KH.out.mono ?_
  rintro e wb ⟨⟨B8, d8, rfl, _⟩, hb⟩
  have HB := Lib.hid (JA.out.bel.trans (hb.mono JA.out.bel.size))
  clear hb KH
  go_wp2
  go_ret
  exact ⟨rfl, HB.out⟩
end Go.Proofs.Ytfdngdnnjmcigaa
