/- The walk of the statement PmemAtom. Condition: the slices can be read. -/
import Derived.Test.YtoifejinppjeeaaPmLaw
import Derived.Test.YtoifejinppjeeaaActs4
import Derived.BigGuard
namespace Go.Proofs.Ytoifejinppjeeaa
open Go.RowKit
set_option linter.unusedVariables false
set_option linter.unusedSimpArgs false
/-- A word that is nought, or was stored there. -/
def Src (pre : List Ac) (p : Nat) (u : BitVec 64) : Prop := u = 0#64 ∨ ∃ x ∈ pre, x.2.1 % 16 = (p : Int) ∧ x.2.2.1 = u
structure LnG (pre : List Ac) (i : Nat) (l : Ln) : Prop where
  len : l.ss.length = 8
  sure : ∀ j, j < 8 → Src pre (8 * i + j) (l.ss.getD j 0#64)
  opn : ∀ s ∈ l.os, ∀ j : Nat, s.1 = (j : Int) → Src pre (8 * i + j) s.2
theorem LnG.doW {pre : List Ac} {i : Nat} {l : Ln} (h : LnG pre i l) (ws : List St) (hs : ∀ s ∈ ws, s ∈ l.os) (j : Nat) (hj : j < 8) : Src pre (8 * i + j) ((doW l.ss ws).getD j 0#64) := by
  have hg := doW_get ws (List.getElem?_eq_getElem (show j < l.ss.length by rw [h.len]; exact hj))
  rw [List.getD_eq_getElem?_getD, hg]
  show Src _ _ (lastV _ _ _)
  rcases lastV_or ws (l.ss[j]'(by rw [h.len]; exact hj)) j with h1 | ⟨s, h1, h2, h3⟩
  · rw [h1]
    have := h.sure j hj
    rwa [List.getD_eq_getElem?_getD, List.getElem?_eq_getElem (by rw [h.len]; exact hj)] at this
  · rw [← h3]
    exact h.opn s (hs s h1) j h2
theorem LnG.at_ {pre : List Ac} {i : Nat} {l : Ln} (h : LnG pre i l) (j : Nat) (hj : j < 8) : Src pre (8 * i + j) (l.at_ (j : Int)) := by
  rw [at_eq l j hj]
  rcases lastV_or l.os (l.ss.getD j 0#64) j with h1 | ⟨s, h1, h2, h3⟩
  · rw [h1]; exact h.sure j hj
  · rw [← h3]; exact h.opn s h1 j h2
theorem LnG.fence {pre : List Ac} {i : Nat} {l : Ln} (h : LnG pre i l) : LnG pre i l.fence :=
  ⟨(doW_len _ _).trans h.len, fun j hj => h.doW _ (fun s hs => List.mem_of_mem_take hs) j hj, fun s hs j e => h.opn s (List.mem_of_mem_drop hs) j e⟩
theorem LnG.fall {pre : List Ac} {i : Nat} {l : Ln} (h : LnG pre i l) (z : Int) : LnG pre i (l.fall z) :=
  ⟨(doW_len _ _).trans h.len, fun j hj => h.doW _ (fun s hs => List.mem_of_mem_take hs) j hj, fun s hs => by cases hs⟩
theorem LnG.flush {pre : List Ac} {i : Nat} {l : Ln} (h : LnG pre i l) : LnG pre i l.flush := ⟨h.len, h.sure, h.opn⟩
theorem Src.mono {pre : List Ac} {p : Nat} {u : BitVec 64} (h : Src pre p u) (x : Ac) : Src (pre ++ [x]) p u := by
  rcases h with h | ⟨y, h1, h2⟩
  · exact .inl h
  · exact .inr ⟨y, List.mem_append_left _ h1, h2⟩
theorem LnG.mono {pre : List Ac} {i : Nat} {l : Ln} (h : LnG pre i l) (x : Ac) : LnG (pre ++ [x]) i l := ⟨h.len, fun j hj => (h.sure j hj).mono x, fun s hs j e => (h.opn s hs j e).mono x⟩
structure InvA (pre : List Ac) (a : AM) : Prop where
  len : a.ls.length = 2
  on : a.off = false
  fuse : a.fuse = 0
  lns : ∀ i, i < 2 → LnG pre i (a.ln i)
  room : a.room pre.length
  cnt : (0 ≤ a.n1 ∧ a.n1 ≤ pre.length) ∧ (0 ≤ a.n2 ∧ a.n2 ≤ pre.length) ∧ (0 ≤ a.n3 ∧ a.n3 ≤ pre.length)
theorem InvA.fit {pre : List Ac} {a : AM} (h : InvA pre a) (hp : pre.length ≤ 1000) : a.fit := by
  obtain ⟨h1, h2, h3⟩ := h.cnt
  exact ⟨by rw [h.fuse]; omega, by omega, by omega, by omega⟩
theorem invA_new : InvA [] (newA 2) :=
  ⟨newA_len 2, rfl, rfl, fun i hi => by
    rw [newA_ln 2 i hi]
    refine ⟨rfl, fun j hj => .inl ?_, fun s hs => by cases hs⟩
    unfold z8
    rw [List.getD_eq_getElem?_getD, List.getElem?_replicate, if_pos hj]; rfl, newA_room 2 0, by simp [newA, fromA]⟩
/-- A store at the place that an act names. -/
theorem InvA.store {pre : List Ac} {a : AM} (h : InvA pre a) (x : Ac) : a.store (x.2.1 % 16) x.2.2.1 = (a.store1 (x.2.1 % 16) x.2.2.1, 0) ∧ ∃ a', a' = a.store1 (x.2.1 % 16) x.2.2.1 ∧ InvA (pre ++ [x]) a' := by
  have hz0 := Int.emod_nonneg x.2.1 (b := 16) (by omega)
  have hz1 := Int.emod_lt_of_pos x.2.1 (b := 16) (by omega)
  have hh : a.has (x.2.1 % 16) = true := decide_eq_true (by rw [h.len]; omega)
  refine ⟨store_ok h.on h.fuse hh, _, rfl, (store1_len _ _ _).trans h.len, h.on, h.fuse, fun i hi => ?_, ?_, ?_⟩
  · rw [store1_ln hh]
    split
    · rename_i e
      have hl := (h.lns i hi).mono x
      rw [e]
      refine ⟨hl.len, hl.sure, fun s hs j ej => ?_⟩
      rcases List.mem_append.1 hs with h1 | h1
      · exact hl.opn s h1 j ej
      · rw [List.mem_singleton.1 h1] at ej ⊢
        simp only at ej
        exact .inr ⟨x, by simp, by omega, rfl⟩
    · exact (h.lns i hi).mono x
  · have := store1_room h.room (x.2.1 % 16) x.2.2.1
    rw [List.length_append]
    exact this
  · obtain ⟨h1, h2, h3⟩ := h.cnt
    rw [List.length_append]
    unfold AM.store1
    simp only [List.length_cons, List.length_nil]
    omega
theorem InvA.flush {pre : List Ac} {a : AM} {c : Int} (h : InvA pre a) (hc : a.n2 < pre.length) : a.flush [0] = ({ a with ls := flushL a.ls [0], n2 := a.n2 + 1 }, 0) ∧ InvA pre { a with ls := flushL a.ls [0], n2 := a.n2 + 1 } := by
  refine ⟨flush_ok h.on h.fuse ?_, (flushL_len _ _).trans h.len, h.on, h.fuse, fun i hi => ?_, flushL_room h.room _, ?_⟩
  · simp only [List.any_cons, List.any_nil, Bool.or_false]
    exact decide_eq_false (by rw [h.len]; omega)
  · have hg := get_ln (a := a) (i := i) (by rw [h.len]; exact hi)
    rcases flushL_get [0] a.ls i _ hg with h1 | h1
    · rw [ln_get (a := { a with ls := flushL a.ls [0], n2 := a.n2 + 1 }) h1]; exact h.lns i hi
    · rw [ln_get (a := { a with ls := flushL a.ls [0], n2 := a.n2 + 1 }) h1]; exact (h.lns i hi).flush
  · obtain ⟨h1, h2, h3⟩ := h.cnt
    simp only
    omega
theorem InvA.fence {pre : List Ac} {a : AM} (h : InvA pre a) (hc : a.n3 < pre.length) : a.fence = ({ a with ls := a.ls.map Ln.fence, n3 := a.n3 + 1 }, 0) ∧ InvA pre { a with ls := a.ls.map Ln.fence, n3 := a.n3 + 1 } := by
  refine ⟨fence_ok h.on h.fuse, (List.length_map _).trans h.len, h.on, h.fuse, fun i hi => ?_, fence_room h.room, ?_⟩
  · have hg := get_ln (a := a) (i := i) (by rw [h.len]; exact hi)
    have h1 : ({ a with ls := a.ls.map Ln.fence, n3 := a.n3 + 1 } : AM).ls[i]? = some (a.ln i).fence := by
      simp only [List.getElem?_map, hg]; rfl
    rw [ln_get h1]
    exact (h.lns i hi).fence
  · obtain ⟨h1, h2, h3⟩ := h.cnt
    simp only
    omega
/-- Behind a fall each word is one that was stored there, or nought. -/
theorem InvA.words {pre : List Ac} {a : AM} (h : InvA pre a) (ks : List Int) : (a.crash ks).words.length = 16 ∧ ∀ p, p < 16 → Src pre p ((a.crash ks).words.getD p 0#64) := by
  have hl : (a.crash ks).ls.length = 2 := (crash_len a ks).trans h.len
  refine ⟨by unfold AM.words; rw [words_len, hl], fun p hp => ?_⟩
  have hw := words_get (a.crash ks) (p / 8) (p % 8) (by omega) (by rw [hl]; omega)
  rw [show 8 * (p / 8) + p % 8 = p by omega] at hw
  rw [List.getD_eq_getElem?_getD, hw]
  have hi : p / 8 < 2 := by omega
  have hg := get_ln (a := a) (i := p / 8) (by rw [h.len]; exact hi)
  obtain ⟨z, hz⟩ := crashL_get a.ls ks (p / 8) _ hg
  have hln : (a.crash ks).ln (p / 8) = if (a.ln (p / 8)).os = [] then a.ln (p / 8) else (a.ln (p / 8)).fall z := by
    refine ln_get ?_
    rw [crash_on ks h.on]
    exact hz
  have hG : LnG pre (p / 8) ((a.crash ks).ln (p / 8)) := by
    rw [hln]
    split
    · exact h.lns _ hi
    · exact (h.lns _ hi).fall z
  have := hG.at_ (p % 8) (by omega)
  rw [show 8 * (p / 8) + p % 8 = p by omega] at this
  exact this
/-- Does an act name this place with this word? -/
def hit (p : Nat) (u : BitVec 64) (x : Ac) : Bool := decide (x.2.1 % 16 = (p : Int)) && (x.2.2.1 == u)
theorem src_hit {pre : List Ac} {p : Nat} {u : BitVec 64} (h : Src pre p u) : ((u == 0#64) || pre.any (hit p u)) = true := by
  rcases h with h | ⟨x, h1, h2, h3⟩
  · rw [h]; rfl
  · rw [Bool.or_eq_true]
    exact .inr (List.any_eq_true.2 ⟨x, h1, by unfold hit; rw [decide_eq_true h2, h3]; simp⟩)
set_option maxRecDepth 100000 in
set_option maxHeartbeats 8000000 in
theorem PmemAtom_walk (l : List Ac) (L : Option Addr) (lc : Nat) (ks : List Int) (K : Option Addr) (kc : Nat) (w : World) (hl : RdA w L l ∧ AcFit l) (hlc : l.length ≤ lc) (hlm : lc ≤ maxLen) (hk : RdF I6 w K ks ∧ ∀ z ∈ ks, -9223372036854775808 ≤ z ∧ z ≤ 9223372036854775807) (hkc : ks.length ≤ kc) (hkm : kc ≤ maxLen) :
    Calls Try.prog 5 #[.slice L l.length lc, .slice K ks.length kc] w fun e w' => e = .returned (.bool true) ∧ Below w.heap.size w w' := by
  have KA := Lib.hid (fun W => pmAwake_any W)
  have KN := Lib.hid (fun W => show Calls Try.prog 20 #[.int .i64 2] W (fun e w' => Made W.heap.size (newA 2) e w' ∧ Below W.heap.size W w') from mNew_any 2 W (by omega) (by omega))
  have HL := Lib.hid hl.1
  have HK := Lib.hid hk.1
  have HKM := Lib.hid hkm
  clear hl hk hlm hkm
  by_cases q1 : 40 < (l.length : Int)
  · skip
    have HW := Lib.hid (Below.refl w.heap.size w)
    go_enter Try.func5, Try.ntmps5
    go_wp2_with fail
    refine (KA.out _).mono ?_
    rintro e w1 ⟨rfl, hb⟩
    have HW := Lib.hid (HW.out.trans (hb.mono HW.out.size))
    clear hb
    go_wp2
    go_ret
    exact ⟨rfl, HW.out⟩
  by_cases q2 : 10 < (ks.length : Int)
  · skip
    have HW := Lib.hid (Below.refl w.heap.size w)
    go_enter Try.func5, Try.ntmps5
    go_wp2_with fail
    refine (KA.out _).mono ?_
    rintro e w1 ⟨rfl, hb⟩
    have HW := Lib.hid (HW.out.trans (hb.mono HW.out.size))
    clear hb
    go_wp2
    go_ret
    exact ⟨rfl, HW.out⟩
  have HW := Lib.hid (Below.refl w.heap.size w)
  go_enter Try.func5, Try.ntmps5
  go_wp2_with fail
  refine (KA.out _).mono ?_
  rintro e w1 ⟨rfl, hb⟩
  have HW := Lib.hid (HW.out.trans (hb.mono HW.out.size))
  clear hb
  go_wp2_with fail
  refine (KN.out _).mono ?_
  rintro e w2 ⟨⟨m, own, G, rfl, hm, hlow⟩, hb⟩
  have HLOW := Lib.hid (fun k (hk : k < w.heap.size) => hlow k (Nat.lt_of_lt_of_le hk HW.out.size))
  have HW := Lib.hid (HW.out.trans (hb.mono HW.out.size))
  clear hb
  have HM := Lib.hid hm
  clear hm hlow
  have HINV := Lib.hid invA_new
  generalize newA 2 = a0 at *
  go_wp2
  go_loopw [7] (fun i wr => ∃ k : Nat, k ≤ l.length ∧ i = .int .i64 k ∧ ∃ own' a', MemAt wr m own' G a' ∧ InvA (l.take k) a' ∧ (∀ k, k < w.heap.size → own' k = 0) ∧ Below w.heap.size w wr) (fun i _ => l.length - (intOf i).toNat)
  case atStart => exact ⟨0, Nat.zero_le _, rfl, own, a0, HM.out, HINV.out, HLOW.out, HW.out⟩
  case round =>
    clear HM HINV HLOW HW
    skip
    obtain ⟨k, hk, rfl, own, a, hm, hinv, hlow, hw⟩ := hrel
    have HM := Lib.hid hm
    have HINV := Lib.hid hinv
    have HLOW := Lib.hid hlow
    have HW := Lib.hid hw
    clear hm hinv hlow hw
    by_cases hlt : k < l.length
    · obtain ⟨lb, lo, rfl, hlc⟩ := HL.out.at_ hlt
      have HAC := Lib.hid (fun (W : World) (h : Below w.heap.size w W) => (hlc k hlt).below h)
      have HT := Lib.hid (List.take_succ_eq_append_getElem hlt)
      have HTL := Lib.hid (show (l.take k).length = k by rw [List.length_take]; omega)
      clear hlc
      generalize l[k] = x at *
      have hst := HINV.out.store x
      obtain ⟨op, at_, v, Lx, nx, cx⟩ := x
      obtain ⟨hst1, a1, ha1, hinv1⟩ := hst
      have KS := Lib.hid (fun (W : World) (h : Below wr.heap.size wr W) => mStore_any m own G a (at_ % 16) v W (HM.out.below h) (room_mono HINV.out.room (by rw [HTL.out]; omega)) (HINV.out.fit (by rw [HTL.out]; omega)))
      simp only at hst1 ha1 hinv1
      rw [hst1] at KS
      rw [← ha1] at KS
      rw [← HT.out] at hinv1
      have HINV1 := Lib.hid hinv1
      have HN := Lib.hid HINV.out.cnt
      have HN1 := Lib.hid (show a1.n2 = a.n2 ∧ a1.n3 = a.n3 by rw [ha1]; exact ⟨rfl, rfl⟩)
      clear hst1 ha1 hinv1
      unfold AcAt at HAC
      simp only at HAC
      obtain ⟨k0, k1, k2, _⟩ := HAC.out wr HW.out
      have e0 : IntKind.i64.wrap ((k : Int) + 1) = (k : Int) + 1 := IntWalk.i64_in _ (by omega)
      go_wp2_with fail
      apply wp_region_last 112 (Eqs _ :: Eqs _ :: Eqs _ :: Eqs _ :: Eqs _ :: Eqs _ :: Eqs _ :: Eqs _ :: Eqs _ :: Eqs _ :: Eqs _ :: Eqs _ :: []) rfl (by kernel_rfl) (by rfl) (stab_cons (stab_eq _) (stab_cons (stab_eq _) (stab_cons (stab_eq _) (stab_cons (stab_eq _) (stab_cons (stab_eq _) (stab_cons (stab_eq _) (stab_cons (stab_eq _) (stab_cons (stab_eq _) (stab_cons (stab_eq _) (stab_cons (stab_eq _) (stab_cons (stab_eq _) (stab_cons (stab_eq _) stab_nil)))))))))))) (by kernel_rfl) (by kernel_rfl) (by kernel_rfl)
      case hstep =>
        simp only [List.dropLast_cons_cons, List.dropLast_singleton]
        refine StepsOK.cons ?_ ?_
        · -- 0: Go.Op.move (Go.Operand.tmp 5)
          intro a w1 hR1 hF hU hsz
          have e5 : a.eval (.tmp 5) = _ := hU 5 (by kernel_rfl)
          rw [if_pos (by rfl)]
          intro K hK
          clear hF hU hsz
          obtain ⟨q1, q2, q3⟩ := eval_rest a
          generalize hρ : a.eval = ρ
          rw [hρ] at q1 q2 q3 e5
          clear hρ
          have u1 := OpUp_value Try.prog K
          have u2 := OpUp_enter Try.prog K
          go_simp
          exact hK _ _ (Stood.refl _) rfl
        refine StepsOK.cons ?_ ?_
        · -- 1: Go.Op.move (Go.Operand.tmp 0)
          intro a w1 hR1 hF hU hsz
          have e0 : a.eval (.tmp 0) = _ := hU 0 (by kernel_rfl)
          rw [if_pos (by rfl)]
          intro K hK
          clear hF hU hsz
          obtain ⟨q1, q2, q3⟩ := eval_rest a
          generalize hρ : a.eval = ρ
          rw [hρ] at q1 q2 q3 e0
          clear hρ
          have u1 := OpUp_value Try.prog K
          have u2 := OpUp_enter Try.prog K
          go_simp
          exact hK _ _ (Stood.refl _) rfl
        refine StepsOK.cons ?_ ?_
        · -- 2: Go.Op.move (Go.Operand.tmp 7)
          intro a w1 hR1 hF hU hsz
          have e7 : a.eval (.tmp 7) = _ := hU 7 (by kernel_rfl)
          rw [if_pos (by rfl)]
          intro K hK
          clear hF hU hsz
          obtain ⟨q1, q2, q3⟩ := eval_rest a
          generalize hρ : a.eval = ρ
          rw [hρ] at q1 q2 q3 e7
          clear hρ
          have u1 := OpUp_value Try.prog K
          have u2 := OpUp_enter Try.prog K
          go_simp
          exact hK _ _ (Stood.refl _) rfl
        refine StepsOK.cons ?_ ?_
        · -- 3: Go.Op.indexAddr 38 (Go.Operand.tmp 35) (Go.Operand.tmp 36)
          intro a w1 hR1 hF hU hsz
          have e35 : a.eval (.tmp 35) = _ := hF 1 _ _ rfl rfl (by kernel_rfl)
          have e36 : a.eval (.tmp 36) = _ := hF 2 _ _ rfl rfl (by kernel_rfl)
          rw [if_pos (by rfl)]
          intro K hK
          clear hF hU hsz
          obtain ⟨q1, q2, q3⟩ := eval_rest a
          generalize hρ : a.eval = ρ
          rw [hρ] at q1 q2 q3 e35 e36
          clear hρ
          have u1 := OpUp_value Try.prog K
          have u2 := OpUp_enter Try.prog K
          go_simp
          exact hK _ _ (Stood.refl _) rfl
        refine StepsOK.cons ?_ ?_
        · -- 4: Go.Op.fieldAddr 41 (Go.Operand.tmp 37) 1
          intro a w1 hR1 hF hU hsz
          have e37 : a.eval (.tmp 37) = _ := hF 3 _ _ rfl rfl (by kernel_rfl)
          rw [if_pos (by rfl)]
          intro K hK
          clear hF hU hsz
          obtain ⟨q1, q2, q3⟩ := eval_rest a
          generalize hρ : a.eval = ρ
          rw [hρ] at q1 q2 q3 e37
          clear hρ
          have u1 := OpUp_value Try.prog K
          have u2 := OpUp_enter Try.prog K
          go_simp
          exact hK _ _ (Stood.refl _) rfl
        refine StepsOK.cons ?_ ?_
        · -- 5: Go.Op.load 3 (Go.Operand.tmp 38)
          intro a w1 hR1 hF hU hsz
          have e38 : a.eval (.tmp 38) = _ := hF 4 _ _ rfl rfl (by kernel_rfl)
          rw [if_pos (by rfl)]
          intro K hK
          clear hF hU hsz
          have hz1 := ((Stood.cur hR1).cell (cell_lt k1)).trans k1
          obtain ⟨q1, q2, q3⟩ := eval_rest a
          generalize hρ : a.eval = ρ
          rw [hρ] at q1 q2 q3 e38
          clear hρ
          have u1 := OpUp_value Try.prog K
          have u2 := OpUp_enter Try.prog K
          go_simp
          exact hK _ _ (Stood.refl _) rfl
        refine StepsOK.cons ?_ ?_
        · -- 6: Go.Op.binOp Go.BinOp.and 3 (Go.Operand.tmp 39) (Go.Operand.const (Go.Value.int G
          intro a w1 hR1 hF hU hsz
          have e39 : a.eval (.tmp 39) = _ := hF 5 _ _ rfl rfl (by kernel_rfl)
          rw [if_pos (by rfl)]
          intro K hK
          clear hF hU hsz
          obtain ⟨q1, q2, q3⟩ := eval_rest a
          generalize hρ : a.eval = ρ
          rw [hρ] at q1 q2 q3 e39
          clear hρ
          have u1 := OpUp_value Try.prog K
          have u2 := OpUp_enter Try.prog K
          go_simp
          exact hK _ _ (Stood.refl _) rfl
        refine StepsOK.cons ?_ ?_
        · -- 7: Go.Op.move (Go.Operand.tmp 0)
          intro a w1 hR1 hF hU hsz
          have e0 : a.eval (.tmp 0) = _ := hU 0 (by kernel_rfl)
          rw [if_pos (by rfl)]
          intro K hK
          clear hF hU hsz
          obtain ⟨q1, q2, q3⟩ := eval_rest a
          generalize hρ : a.eval = ρ
          rw [hρ] at q1 q2 q3 e0
          clear hρ
          have u1 := OpUp_value Try.prog K
          have u2 := OpUp_enter Try.prog K
          go_simp
          exact hK _ _ (Stood.refl _) rfl
        refine StepsOK.cons ?_ ?_
        · -- 8: Go.Op.move (Go.Operand.tmp 7)
          intro a w1 hR1 hF hU hsz
          have e7 : a.eval (.tmp 7) = _ := hU 7 (by kernel_rfl)
          rw [if_pos (by rfl)]
          intro K hK
          clear hF hU hsz
          obtain ⟨q1, q2, q3⟩ := eval_rest a
          generalize hρ : a.eval = ρ
          rw [hρ] at q1 q2 q3 e7
          clear hρ
          have u1 := OpUp_value Try.prog K
          have u2 := OpUp_enter Try.prog K
          go_simp
          exact hK _ _ (Stood.refl _) rfl
        refine StepsOK.cons ?_ ?_
        · -- 9: Go.Op.indexAddr 38 (Go.Operand.tmp 41) (Go.Operand.tmp 42)
          intro a w1 hR1 hF hU hsz
          have e41 : a.eval (.tmp 41) = _ := hF 7 _ _ rfl rfl (by kernel_rfl)
          have e42 : a.eval (.tmp 42) = _ := hF 8 _ _ rfl rfl (by kernel_rfl)
          rw [if_pos (by rfl)]
          intro K hK
          clear hF hU hsz
          obtain ⟨q1, q2, q3⟩ := eval_rest a
          generalize hρ : a.eval = ρ
          rw [hρ] at q1 q2 q3 e41 e42
          clear hρ
          have u1 := OpUp_value Try.prog K
          have u2 := OpUp_enter Try.prog K
          go_simp
          exact hK _ _ (Stood.refl _) rfl
        refine StepsOK.cons ?_ ?_
        · -- 10: Go.Op.fieldAddr 41 (Go.Operand.tmp 43) 2
          intro a w1 hR1 hF hU hsz
          have e43 : a.eval (.tmp 43) = _ := hF 9 _ _ rfl rfl (by kernel_rfl)
          rw [if_pos (by rfl)]
          intro K hK
          clear hF hU hsz
          obtain ⟨q1, q2, q3⟩ := eval_rest a
          generalize hρ : a.eval = ρ
          rw [hρ] at q1 q2 q3 e43
          clear hρ
          have u1 := OpUp_value Try.prog K
          have u2 := OpUp_enter Try.prog K
          go_simp
          exact hK _ _ (Stood.refl _) rfl
        refine StepsOK.cons ?_ ?_
        · -- 11: Go.Op.load 22 (Go.Operand.tmp 44)
          intro a w1 hR1 hF hU hsz
          have e44 : a.eval (.tmp 44) = _ := hF 10 _ _ rfl rfl (by kernel_rfl)
          rw [if_pos (by rfl)]
          intro K hK
          clear hF hU hsz
          have hz1 := ((Stood.cur hR1).cell (cell_lt k2)).trans k2
          obtain ⟨q1, q2, q3⟩ := eval_rest a
          generalize hρ : a.eval = ρ
          rw [hρ] at q1 q2 q3 e44
          clear hρ
          have u1 := OpUp_value Try.prog K
          have u2 := OpUp_enter Try.prog K
          go_simp
          exact hK _ _ (Stood.refl _) rfl
        exact StepsOK.nil
      case hend =>
        intro vs0 w1 hR1 hH0
        obtain ⟨vs1, rfl, hH1⟩ := hH0.eq_
        obtain ⟨vs2, rfl, hH2⟩ := hH1.eq_
        obtain ⟨vs3, rfl, hH3⟩ := hH2.eq_
        obtain ⟨vs4, rfl, hH4⟩ := hH3.eq_
        obtain ⟨vs5, rfl, hH5⟩ := hH4.eq_
        obtain ⟨vs6, rfl, hH6⟩ := hH5.eq_
        obtain ⟨vs7, rfl, hH7⟩ := hH6.eq_
        obtain ⟨vs8, rfl, hH8⟩ := hH7.eq_
        obtain ⟨vs9, rfl, hH9⟩ := hH8.eq_
        obtain ⟨vs10, rfl, hH10⟩ := hH9.eq_
        obtain ⟨vs11, rfl, hH11⟩ := hH10.eq_
        obtain ⟨vs12, rfl, hH12⟩ := hH11.eq_
        obtain rfl := hH12.nil
        clear hH0 hH1 hH2 hH3 hH4 hH5 hH6 hH7 hH8 hH9 hH10 hH11 hH12
        simp only [List.dropLast_cons_cons, List.dropLast_singleton, putAll, Act.put, List.setIfInBounds_toArray, List.set_cons_zero, List.set_cons_succ]

        have hb := (Stood.cur hR1)
        have KS := Lib.hid (KS.out w1 hb)
        have HW := Lib.hid (HW.out.trans (hb.mono HW.out.size))
        have HM := Lib.hid (HM.out.below hb)
        clear hb
        clear hR1 k0 k1 k2
        go_wp2_with fail
        refine KS.out.mono ?_
        rintro e w2 ⟨rfl, own1, hm2, hfr⟩
        have HLOWn := Lib.hid (hfr.low HW.out.size HLOW.out)
        have HW := Lib.hid (HW.out.trans (hfr.below HW.out.size HLOW.out))
        have HM := Lib.hid hm2
        clear hm2 hfr
        have HLOW := HLOWn
        clear HLOWn KS
        obtain ⟨k0, _⟩ := HAC.out w2 HW.out
        by_cases h1 : op = 1
        · subst h1
          have hn2 : a1.n2 < (l.take (k + 1)).length := by have h1 := HN1.out.1; have h2 := HN.out.2.1; have h3 := HTL.out; rw [List.length_take] at *; omega
          obtain ⟨hfl1, hfl2⟩ := HINV1.out.flush (c := 0) hn2
          have KF := Lib.hid (fun (W : World) (hb : Below w2.heap.size w2 W) (hr : ∀ W9 own9, MFr W W9 own1 own9 → RdF I6 W9 (some ⟨w2.heap.size, 0, none⟩) [0]) => mFlush_any m own1 G a1 [0] (some ⟨w2.heap.size, 0, none⟩) 1 W (HM.out.below hb) (room_mono HINV1.out.room (by rw [List.length_take]; omega)) (HINV1.out.fit (by rw [List.length_take]; omega)) hr (by simp))
          rw [hfl1] at KF
          have HFZ := Lib.hid (HM.out.fresh _ (Nat.le_refl _))
          have HBX := Lib.hid (heap_alloc_new w2 (.cells #[.int .i64 0] 3))
          have hba : Below w2.heap.size w2 (w2.alloc (.cells #[.int .i64 0] 3)) := (Below.refl _ _).alloc (Nat.le_refl _) _
          have KF := Lib.hid (KF.out _ hba (fun W9 own9 hf9 => by
            obtain ⟨h9, _⟩ := hf9.heap HBX.out HFZ.out
            exact .inr ⟨w2.heap.size, 0, rfl, fun j hj => by
              obtain rfl : j = 0 := by simpa using hj
              exact Lib.cell_of_heap h9 0⟩))
          have HINV2 := Lib.hid hfl2
          have HW := Lib.hid (HW.out.trans (hba.mono HW.out.size))
          clear hfl1 hfl2 hba hn2
          go_wp2_with fail
          refine KF.out.mono ?_
          rintro e w3 ⟨rfl, own2, hm2, hfr⟩
          have HLOWn := Lib.hid (hfr.low HW.out.size HLOW.out)
          have HW := Lib.hid (HW.out.trans (hfr.below HW.out.size HLOW.out))
          have HM := Lib.hid hm2
          clear hm2 hfr k0
          obtain ⟨k0, _⟩ := HAC.out w3 HW.out
          go_wp2
          go_roundw
          case rel => exact ⟨k + 1, by omega, by go_num, own2, _, HM.out, HINV2.out, HLOWn.out, HW.out⟩
          case measure => simp [intOf]; omega
        have h1b : (op == 1) = false := by rw [beq_eq_false_iff_ne]; exact h1
        by_cases h2 : op = 2
        · subst h2
          have hn3 : a1.n3 < (l.take (k + 1)).length := by have h1 := HN1.out.2; have h2 := HN.out.2.2; have h3 := HTL.out; rw [List.length_take] at *; omega
          obtain ⟨hfl1, hfl2⟩ := HINV1.out.fence hn3
          have KF := Lib.hid (mFence_any m own1 G a1 w2 HM.out (room_mono HINV1.out.room (by rw [List.length_take]; omega)) (HINV1.out.fit (by rw [List.length_take]; omega)))
          rw [hfl1] at KF
          have HINV2 := Lib.hid hfl2
          clear hfl1 hfl2 hn3 h1
          go_wp2_with fail
          refine KF.out.mono ?_
          rintro e w3 ⟨rfl, own2, hm2, hfr⟩
          have HLOWn := Lib.hid (hfr.low HW.out.size HLOW.out)
          have HW := Lib.hid (HW.out.trans (hfr.below HW.out.size HLOW.out))
          have HM := Lib.hid hm2
          clear hm2 hfr k0
          go_wp2
          go_roundw
          case rel => exact ⟨k + 1, by omega, by go_num, own2, _, HM.out, HINV2.out, HLOWn.out, HW.out⟩
          case measure => simp [intOf]; omega
        have h2b : (op == 2) = false := by rw [beq_eq_false_iff_ne]; exact h2
        clear h1 h2
        go_wp2
        go_roundw
        case rel => exact ⟨k + 1, by omega, by go_num, own1, a1, HM.out, HINV1.out, HLOW.out, HW.out⟩
        case measure => simp [intOf]; omega
    · obtain rfl : k = l.length := by omega
      have HINV := Lib.hid (show InvA l a by have h := HINV.out; rw [List.take_length] at h; exact h)
      clear hlt hk
      have KC := Lib.hid (mCrash_any m own G a ks K kc wr HM.out (room_mono HINV.out.room (by omega)) (fun W own9 hf9 => HK.out.below (HW.out.trans (hf9.below HW.out.size HLOW.out))) hkc HKM.out)
      go_wp2_with fail
      refine (KC.out).mono ?_
      rintro e w51 ⟨rfl, own51, hm2, hfr⟩
      have HLOWn := Lib.hid (hfr.low HW.out.size HLOW.out)
      have HW := Lib.hid (HW.out.trans (hfr.below HW.out.size HLOW.out))
      have HM := Lib.hid hm2
      clear hm2 hfr
      have HLOW := HLOWn
      clear HLOWn
      have KW := Lib.hid (mWords_any m own51 G (a.crash ks) w51 HM.out (crash_room (room_mono HINV.out.room (by omega)) ks))
      obtain ⟨hwl, hws⟩ := HINV.out.words ks
      have HWL := Lib.hid hwl
      have HWS := Lib.hid hws
      have hcl : (a.crash ks).ls.length = 2 := (crash_len a ks).trans HINV.out.len
      rw [hcl] at KW
      clear hwl hws hcl
      generalize (a.crash ks).words = us at *
      go_wp2_with fail
      refine KW.out.mono ?_
      rintro e w52 ⟨⟨B, d, rfl, ho⟩, hb⟩
      have HU := Lib.hid ho.rd
      have HW := Lib.hid (HW.out.trans (hb.mono HW.out.size))
      have HL2 := Lib.hid (HL.out.below HW.out)
      clear ho hb KW KC
      go_wp2
      go_loopw [9] (fun i wr => ∃ k : Nat, k ≤ 16 ∧ i = .int .i64 k ∧ Drawn w52 wr) (fun i _ => 16 - (intOf i).toNat)
      case atStart => exact ⟨0, by omega, rfl, Drawn.refl _⟩
      case round =>
        obtain ⟨p, hp, rfl, hd⟩ := hrel
        have HD := Lib.hid hd
        clear hd
        by_cases hp16 : p < 16
        · have hp16' : (p : Int) < 16 := by omega
          have hpu : p < us.length := by rw [HWL.out]; exact hp16
          obtain ⟨ub, uo, rfl, huc⟩ := (HU.out.drawn HD.out).at_ hpu
          have hu1 := huc p hpu
          have HUC := Lib.hid (fun (W : World) (h : Drawn w52 W) => show W.cell? ⟨ub, uo + p, none⟩ = some (U us[p]) from by
            obtain ⟨b9, o9, e9, h9⟩ := (HU.out.drawn h).at_ hpu
            injection e9 with e9; injection e9 with e91 e92 _; subst e91 e92
            exact h9 p hpu)
          have hsrc := HWS.out p hp16
          rw [List.getD_eq_getElem?_getD, List.getElem?_eq_getElem hpu] at hsrc
          have HSRC := Lib.hid (src_hit (show Src l p us[p] from hsrc))
          have hi16 : (p : Int) < ((8 * 2 : Nat) : Int) := by omega
          have e9 : IntKind.i64.wrap ((p : Int) + 1) = (p : Int) + 1 := IntWalk.i64_in _ (by omega)
          clear huc hsrc
          generalize us[p] = u at *
          clear hpu
          go_wp2
          rename World => wo
          go_loopw [10, 11] (fun o i wr => ∃ (k : Nat) (bk : Bool), k ≤ l.length ∧ i = .int .i64 k ∧ o = .bool bk ∧ bk = ((u == 0#64) || (l.take k).any (hit p u)) ∧ Drawn w52 wr) (fun _ i _ => l.length - (intOf i).toNat)
          case atStart => exact ⟨0, (u == 0#64), Nat.zero_le _, rfl, rfl, by simp, HD.out⟩
          case round =>
            obtain ⟨k, bk, hk, rfl, rfl, hbk, hd⟩ := hrel
            have HBK := Lib.hid hbk
            have HD := Lib.hid hd
            clear hbk hd
            have hu1 := HUC.out wr HD.out
            by_cases hlt : k < l.length
            · obtain ⟨lb, lo, rfl, hlc⟩ := (HL2.out.below (HD.out.below _)).at_ hlt
              obtain ⟨_, k1, k2, _⟩ := hlc k hlt
              have HT := Lib.hid (any_take_f (hit p u) l k hlt)
              have e0 : IntKind.i64.wrap ((k : Int) + 1) = (k : Int) + 1 := IntWalk.i64_in _ (by omega)
              clear hlc
              generalize l[k] = x at *
              obtain ⟨op, at_, v, Lx, nx, cx⟩ := x
              simp only at k1 k2
              cases bk with
              | true =>
                have HB2 := Lib.hid (show true = ((u == 0#64) || (l.take (k + 1)).any (hit p u)) by rw [HT.out, ← Bool.or_assoc, ← HBK.out]; rfl)
                clear k1 k2 hu1
                go_wp2
                go_quiet (fail)
                go_wp2
                go_roundw
                case rel => exact ⟨k + 1, true, by omega, by go_num, rfl, HB2.out, HD.out.trans (Drawn.some_ _ _)⟩
                case measure => simp [intOf]; omega
              | false =>
                have HB2 := Lib.hid (fun (b : Bool) (h : hit p u (op, at_, v, Lx, nx, cx) = b) => show b = ((u == 0#64) || (l.take (k + 1)).any (hit p u)) by rw [HT.out, ← Bool.or_assoc, ← HBK.out, h]; rfl)
                have z0 := Int.emod_nonneg at_ (b := 16) (by omega)
                have z1 := Int.emod_lt_of_pos at_ (b := 16) (by omega)
                by_cases he : at_ % 16 = (p : Int)
                · by_cases hv : v = u
                  · have HB3 := Lib.hid (HB2.out true (by unfold hit; simp only [decide_eq_true he, hv]; simp))
                    have hb1 : (at_ % 16 == (p : Int)) = true := by rw [beq_iff_eq]; exact he
                    have hb2 : (v == u) = true := by rw [beq_iff_eq]; exact hv
                    clear he hv HB2
                    go_wp2
                    go_quiet (fail)
                    go_wp2
                    go_roundw
                    case rel => exact ⟨k + 1, true, by omega, by go_num, rfl, HB3.out, HD.out.trans (Drawn.some_ _ _)⟩
                    case measure => simp [intOf]; omega
                  · have HB3 := Lib.hid (HB2.out false (by unfold hit; simp only [decide_eq_true he]; simpa using hv))
                    have hb1 : (at_ % 16 == (p : Int)) = true := by rw [beq_iff_eq]; exact he
                    have hb2 : (v == u) = false := by rw [beq_eq_false_iff_ne]; exact hv
                    clear he hv HB2
                    go_wp2
                    go_quiet (fail)
                    go_wp2
                    go_roundw
                    case rel => exact ⟨k + 1, false, by omega, by go_num, rfl, HB3.out, HD.out.trans (Drawn.some_ _ _)⟩
                    case measure => simp [intOf]; omega
                · have HB3 := Lib.hid (HB2.out false (by unfold hit; simp only [decide_eq_false he]; rfl))
                  have hb1 : (at_ % 16 == (p : Int)) = false := by rw [beq_eq_false_iff_ne]; exact he
                  clear he HB2 k2 hu1
                  go_wp2
                  go_quiet (fail)
                  go_wp2
                  go_roundw
                  case rel => exact ⟨k + 1, false, by omega, by go_num, rfl, HB3.out, HD.out.trans (Drawn.some_ _ _)⟩
                  case measure => simp [intOf]; omega
            · obtain rfl : k = l.length := by omega
              obtain rfl : bk = true := by rw [HBK.out, List.take_length]; exact HSRC.out
              go_wp2
              go_roundw
              case rel => exact ⟨p + 1, by omega, by go_num, HD.out⟩
              case measure => simp [intOf]; omega
        · obtain rfl : p = 16 := by omega
          have HW := Lib.hid (HW.out.trans ((HD.out.below _).mono HW.out.size))
          go_wp2
          go_ret
          exact ⟨rfl, HW.out⟩
end Go.Proofs.Ytoifejinppjeeaa
