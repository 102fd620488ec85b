/- The walks of pmem.From, New: a range over slices.Chunk. Condition: the words can be read; whole lines, not too many. -/
import Derived.Test.YtoifejinppjeeaaChunk8
import Derived.Test.YtoifejinppjeeaaPmW5
import Derived.Test.YtoifejinppjeeaaRegion5
import Derived.BigGuard
namespace Go.Proofs.Ytoifejinppjeeaa
open Go.RowKit Go.Shelf
set_option linter.unusedVariables false
set_option linter.unusedSimpArgs false
attribute [local go_sem] Oper.semAt_some
/-- The words of line i. -/
def chunkL (xs : List (BitVec 64)) (i : Nat) : List (BitVec 64) := (xs.drop (8 * i)).take 8
theorem chunkL_len {xs : List (BitVec 64)} {i N : Nat} (h : xs.length = 8 * N) (hi : i < N) : (chunkL xs i).length = 8 := by unfold chunkL; rw [List.length_take, List.length_drop]; omega
def fromL (xs : List (BitVec 64)) (N : Nat) : List Ln := (List.range N).map fun i => ⟨chunkL xs i, [], 0⟩
def fromA (xs : List (BitVec 64)) (N : Nat) : AM := ⟨fromL xs N, false, 0, [], 0, 0, 0⟩
theorem fromL_len (xs : List (BitVec 64)) (N : Nat) : (fromL xs N).length = N := by simp [fromL]
theorem f8_all {l : List (BitVec 64)} (h : l.length = 8) : f8 l 8 = l := by
  unfold f8
  rw [List.take_of_length_le (by omega)]
  have : z8.drop 8 = [] := rfl
  rw [this, List.append_nil]
theorem infoLn : (Try.prog.info? 115).map (fun i => (i.zero, i.size, i.bytes)) = some (some (.pointer none), 1, 8) := by kernel_rfl
/-- A line made anew; a slice over its pointer. -/
def LnNew (lo : Nat) (ss : List (BitVec 64)) : Fact := fun v w => ∃ (q z : Nat), v = .pointer (some ⟨q, 0, none⟩) ∧ lo ≤ q ∧ LineAt w q ss [] none 0 0
theorem stab_lnNew {lo : Nat} {ss : List (BitVec 64)} : Stab Stood (LnNew lo ss) := fun v w w' ⟨q, z, e, hl, hq⟩ h => ⟨q, z, e, hl, hq.below h⟩
def LnSl (lo : Nat) (ss : List (BitVec 64)) : Fact := fun v w => ∃ (r q : Nat), v = .slice (some ⟨r, 0, none⟩) 1 1 ∧ lo ≤ q ∧ lo ≤ r ∧ LineAt w q ss [] none 0 0 ∧ w.heap[r]? = some (.cells #[ptr q] 115 (0, 0))
theorem stab_lnSl {lo : Nat} {ss : List (BitVec 64)} : Stab Stood (LnSl lo ss) := fun v w w' ⟨r, q, e, hl, hlr, hq, hr⟩ h => ⟨r, q, e, hl, hlr, hq.below h, heap_below hr h⟩
theorem own_isCells' {W : World} {base : Nat} {e : TypeId} {size n c k : Nat} {A : Option Addr} {xs : List Value} (h : W.ownsRow base e size (.slice A n c) k xs) : ∀ j o, blk A = some j → W.heap[j]? = some o → o.isCells = true := by
  intro j o hj ho
  rcases h.2 with ⟨hv, _⟩ | ⟨g, cap, cur, hv, _, hh, _⟩
  · injection hv with hv
    rw [hv] at hj
    cases hj
  · injection hv with hv
    rw [hv] at hj
    injection hj with hj
    have hj : g = j := hj
    subst hj
    rw [hh] at ho
    cases ho
    rfl
theorem keeps_below' {W W' : World} (h : Below W.heap.size W W') : KeepsOthers W W' := ⟨h.size, fun k o hk _ => (h.block k (Array.getElem?_eq_some_iff.1 hk).1).trans hk⟩
/-- Between two rounds. -/
def FromI {N : Nat} (xs : List (BitVec 64)) (p base : Nat) (pre : List (Fin N)) (W : World) : Prop :=
  base ≤ W.heap.size ∧ W.heap[p + 1]? = some (.cells #[.pointer (some ⟨p, 0, none⟩)] 24 (0, 0)) ∧ ∃ (A : Option Addr) (d : Nat) (bs : List Nat), W.heap[p]? = some (.cells #[.slice A bs.length d, .bool false, .int .i64 0, .slice none 0 0, .int .i64 0, .int .i64 0, .int .i64 0] 114 (0, 0)) ∧ OwnF ptr 115 W base A bs d ∧ bs.length = pre.length ∧ bs.Nodup ∧
    ∀ (i b : Nat) (x : Fin N), bs[i]? = some b → pre[i]? = some x → base ≤ b ∧ blk A ≠ some b ∧ LineAt W b (chunkL xs x.1) [] none 0 0
theorem fromI_own {N : Nat} (xs : List (BitVec 64)) (p base : Nat) : Own (FromI (N := N) xs p base) := by
  rintro pre X Y row ⟨h0, hp, A, d, bs, h1, h2, h3, h4, h5⟩ hg hrow
  have nc : ∀ (q : Nat) (cs : Array Value) (T : TypeId) (r : Nat × Nat), X.heap[q]? = some (.cells cs T r) → Y.heap[q]? = X.heap[q]? := fun q cs T r hq => hg.block q (heap_lt hq) (fun e => by
    obtain ⟨o, ho, hc⟩ := hrow q e.symm
    rw [hq] at ho; cases ho; cases hc)
  refine ⟨Nat.le_trans h0 hg.size, (nc _ _ _ _ hp).trans hp, A, d, bs, (nc _ _ _ _ h1).trans h1, h2.kept hg ?_, h3, h4, fun i b x hb hx => ?_⟩
  · cases hA : blk A with
    | none => exact .inl rfl
    | some j =>
      refine .inr fun e => ?_
      obtain ⟨o, ho, hc⟩ := hrow j e.symm
      rw [own_isCells' h2 j o hA ho] at hc
      cases hc
  · obtain ⟨k1, k2, k3⟩ := h5 i b x hb hx
    exact ⟨k1, k2, k3.same fun q hq => by
      rcases hq with rfl | hq
      · exact nc _ _ _ _ k3.blk
      · cases hq⟩
/-- The row of lines with one more, a new one; it lies apart. -/
def GoodA (lo base : Nat) (A : Option Addr) (bs : List Nat) (ss : List (BitVec 64)) (v : Value) (w : World) : Prop := ∃ (A' : Option Addr) (c' q : Nat), v = .slice A' (bs.length + 1) c' ∧ lo ≤ q ∧ LineAt w q ss [] none 0 0 ∧ OwnF ptr 115 w base A' (bs ++ [q]) c' ∧ blk A' ≠ some q ∧ (blk A' = blk A ∨ ∀ k, blk A' = some k → lo ≤ k)
def JF (W : World) (lo base : Nat) (A : Option Addr) (bs : List Nat) (ss : List (BitVec 64)) (listed : Array Bool) (a : Act) (w : World) : Prop :=
  (listed.getD 8 false = false → Stood W.drew w) ∧ W.drew.grownBy w (blk A) ∧ (listed.getD 8 false = true → GoodA lo base A bs ss (a.tmps.getD 34 undef) w)
def RF (A : Option Addr) (w w' : World) : Prop := w.grownBy w' (blk A)
theorem RF.trans (A : Option Addr) (a b c : World) (h : RF A a b) (k : RF A b c) : RF A a c :=
  ⟨k.os.trans h.os, k.tape.trans h.tape, k.output.trans h.output, Nat.le_trans h.size k.size, fun j hj hne => (k.block j (Nat.lt_of_lt_of_le hj h.size) hne).trans (h.block j hj hne)⟩
theorem RF.refl (A : Option Addr) (a : World) : RF A a a := ⟨rfl, rfl, rfl, Nat.le_refl _, fun _ _ _ => rfl⟩
theorem RF.of_stood {A : Option Addr} {a b : World} (h : Stood a b) : RF A a b := ⟨h.os, h.tape, h.output, h.size, fun j hj _ => h.block j hj⟩
theorem JF.quiet {W : World} {lo base : Nat} {A : Option Addr} {bs : List Nat} {ss : List (BitVec 64)} {listed : Array Bool} {a : Act} {w : World} (h : JF W lo base A bs ss listed a w) {i : Nat} (hi : i ≠ 8) {o : Oper} (ho : o.dst ≠ some 34) (v : Value) : JF W lo base A bs ss (listed.setIfInBounds i true) (a.put o.dst v) w := by
  refine ⟨fun h1 => h.1 ?_, h.2.1, fun h1 => ?_⟩
  · rw [getD_set_ne hi] at h1; exact h1
  · rw [getD_put_ne ho]
    rw [getD_set_ne hi] at h1
    exact h.2.2 h1
theorem JF.more {W : World} {lo base : Nat} {A : Option Addr} {bs : List Nat} {ss : List (BitVec 64)} {listed : Array Bool} {a : Act} {w w' : World} (h : JF W lo base A bs ss listed a w) (hl : listed.getD 8 false = false) (hs : Stood w w') {i : Nat} (hi : i ≠ 8) {o : Oper} (v : Value) : JF W lo base A bs ss (listed.setIfInBounds i true) (a.put o.dst v) w' := by
  refine ⟨fun _ => Stood.trans _ _ _ (h.1 hl) hs, RF.trans A _ _ _ h.2.1 (RF.of_stood hs), fun h1 => ?_⟩
  rw [getD_set_ne hi, hl] at h1
  cases h1
theorem LineAt.grown {w w' : World} {row : Option Nat} {q : Nat} {ss : List (BitVec 64)} (h : LineAt w q ss [] none 0 0) (hg : w.grownBy w' row) (hne : row ≠ some q) : LineAt w' q ss [] none 0 0 := h.same fun q9 h9 => by
  rcases h9 with rfl | h9
  · exact hg.block _ h.lt (fun e => hne e.symm)
  · cases h9
theorem lnNew_grown {lo : Nat} {ss : List (BitVec 64)} {A : Option Addr} (hA : ∀ k, blk A = some k → k < lo) : Stab (RF A) (LnNew lo ss) := fun v w w' ⟨q, z, e, hl, hq⟩ h => ⟨q, z, e, hl, hq.grown h (fun e => by have := hA _ e; omega)⟩
theorem lnSl_grown {lo : Nat} {ss : List (BitVec 64)} {A : Option Addr} (hA : ∀ k, blk A = some k → k < lo) : Stab (RF A) (LnSl lo ss) := fun v w w' ⟨r, q, e, hl, hlr, hq, hr⟩ h => ⟨r, q, e, hl, hlr, hq.grown h (fun e => by have := hA _ e; omega), (h.block r (heap_lt hr) (fun e => by have := hA r e.symm; omega)).trans hr⟩
theorem stab_true {R : World → World → Prop} : Stab R (fun _ _ => True) := fun _ _ _ _ _ => trivial
/-- A memory made anew, all its blocks from B on. -/
def Made (B : Nat) (a : AM) (e : Ending) (w' : World) : Prop := ∃ m own G, e = .returned (.tuple #[.pointer (some ⟨m, 0, none⟩), .int .i64 0]) ∧ MemAt w' m own G a ∧ ∀ k, k < B → own k = 0
set_option maxRecDepth 100000 in
set_option maxHeartbeats 8000000 in
theorem mFrom_any (xs : List (BitVec 64)) (N : Nat) (A : Option Addr) (c : Nat) (w : World) (hr : RdU w A xs) (hc : xs.length ≤ c) (hm : c ≤ maxLen) (hl : xs.length = 8 * N) (hN0 : 0 < N) (hN : N ≤ 1024) :
    Calls Try.prog 36 #[.slice A xs.length c] w fun e w' => Made w.heap.size (fromA xs N) e w' ∧ Below w.heap.size w w' := by
  unfold maxLen at hm
  have HR := Lib.hid hr
  obtain ⟨b, off, rfl, _⟩ := hr.at_ (show 0 < xs.length by omega)
  clear hr
  rw [hl] at hc ⊢
  have HXL := Lib.hid hl
  clear hl
  refine callsIn_wide.1 (callsIn_of_wp_marks (n := 9) Try.func36 rfl trivial (wpIn_wide.2 ?_) rfl)
  simp only [Try.ntmps36, List.size_toArray, List.length_cons, List.length_nil, Nat.reduceAdd, Nat.reduceSub, Array.replicate_succ, Array.replicate_zero, List.push_toArray, List.append_toArray, List.nil_append, List.cons_append]
  have q1 : ((8 * N : Nat) : Int) = 8 * (N : Int) := by omega
  have q2 : (8 * (N : Int) == 0) = false := by rw [beq_eq_false_iff_ne]; omega
  have q3 : 8 * (N : Int) % 8 = 0 := by omega
  have q4 : 8 * (N : Int) / 8 = (N : Int) := by omega
  have q5 : ¬ 1024 < (N : Int) := by omega
  have q6 : (0 : Int) ≤ 8 * (N : Int) := by omega
  go_wp2_with fail
  refine (chunk8_any _ _ _ _).mono ?_
  rintro e w2 ⟨rfl, hw2⟩
  have hp0 := heap_alloc_new w (.cells #[.slice none 0 0, .bool false, .int .i64 0, .slice none 0 0, .int .i64 0, .int .i64 0, .int .i64 0] 114)
  have hw1 : Below w.heap.size w ((w.alloc (.cells #[.slice none 0 0, .bool false, .int .i64 0, .slice none 0 0, .int .i64 0, .int .i64 0, .int .i64 0] 114)).alloc (.cells #[.pointer (some ⟨w.heap.size, 0, none⟩)] 24)) := ((Below.refl _ _).alloc (Nat.le_refl _) _).alloc (by simp) _
  have hh0 := heap_below hp0 ((Below.refl _ _).alloc (Nat.le_refl _) (.cells #[.pointer (some ⟨w.heap.size, 0, none⟩)] 24))
  have hh1 := heap_alloc_new (w.alloc (.cells #[.slice none 0 0, .bool false, .int .i64 0, .slice none 0 0, .int .i64 0, .int .i64 0, .int .i64 0] 114)) (.cells #[.pointer (some ⟨w.heap.size, 0, none⟩)] 24)
  have hsz1 : ((w.alloc (.cells #[.slice none 0 0, .bool false, .int .i64 0, .slice none 0 0, .int .i64 0, .int .i64 0, .int .i64 0] 114)).alloc (.cells #[.pointer (some ⟨w.heap.size, 0, none⟩)] 24)).heap.size = w.heap.size + 2 := by simp
  rw [World.size_alloc] at hh1
  have hrw := HR.out.below hw1
  generalize ((w.alloc (.cells #[.slice none 0 0, .bool false, .int .i64 0, .slice none 0 0, .int .i64 0, .int .i64 0, .int .i64 0] 114)).alloc (.cells #[.pointer (some ⟨w.heap.size, 0, none⟩)] 24)) = w1 at *
  clear hp0
  have hb2 : Below w1.heap.size w1 w2 := by rw [hw2]; exact ((Below.refl _ _).alloc (Nat.le_refl _) _).alloc (by simp) _
  have hsz : w2.heap.size = w.heap.size + 4 := by rw [hw2]; simp; omega
  have hbx1 : Boxed w2 (w.heap.size + 2) 44 (.slice (some ⟨b, off, none⟩) (8 * N) c) := by
    rw [hw2]
    have h := (Boxed.new w1 44 (.slice (some ⟨b, off, none⟩) (8 * N) c)).alloc (.cells #[.int .i64 8] 3)
    rwa [hsz1] at h
  have hbx2 : Boxed w2 (w.heap.size + 3) 3 (.int .i64 8) := by
    rw [hw2]
    have h := Boxed.new (w1.alloc (.cells #[.slice (some ⟨b, off, none⟩) (8 * N) c] 44)) 3 (.int .i64 8)
    rwa [World.size_alloc, hsz1] at h
  have hh0 := heap_below hh0 hb2
  have hh1 := heap_below hh1 hb2
  have HRW := Lib.hid (hrw.below hb2)
  have HB2 := Lib.hid (hw1.trans (hb2.mono hw1.size))
  clear hw2 hb2 hw1 hrw
  generalize hp : w.heap.size = p at *
  have hpw1 : p ≤ w.heap.size := by omega
  have hpw2 : w.heap.size ≤ p := by omega
  clear hp
  go_wp2_with fail
  clear hsz1
  apply wpIn_wide.1
  apply wpIn_rangeFunc_ownG (n := 9) rfl (by omega) (gf := 103) (lb := #[.pointer (some ⟨p + 2, 0, none⟩), .pointer (some ⟨p + 3, 0, none⟩)]) rfl trivial (enters_of Try.func103 (by kernel_rfl) rfl)
    (chunk8_stops 8 (by omega) (p + 2) (p + 3) b off N c _ hc hN (fun _ => rfl) w2 hbx1 hbx2) KeepsTwo.trans (keepsTwo_b (by omega) (by omega)) (Below.refl _ _) (fun _ => rfl)
    (fun pre W => FromI xs p w2.heap.size pre W ∧ Below p w W)
    (fun _ _ _ => False)
    (OwnFrom.and ((fromI_own xs p w2.heap.size).from _) (ownFrom_below (by omega) (by omega)))
    (fun _ => Own.from (fun s A B row hs hg hr => hs.elim) _)
    ⟨⟨Nat.le_refl _, hh1, none, 0, [], hh0, OwnF.nil_ _ _, rfl, List.nodup_nil, fun i b x h => by simp at h⟩, HB2.out⟩
  case hassign =>
    intro l x W K hK
    gi_wp2
    exact hK
  case hbody =>
    rintro l pre x W ⟨⟨hbs, hpp, A, d, bs, hq, ho, hbl, hnd, hlns⟩, hB⟩ hlen
    have HB := Lib.hid hB
    have HQ := Lib.hid hq
    have HP := Lib.hid hpp
    have HO := Lib.hid ho
    have HLN := Lib.hid hlns
    have HND := Lib.hid hnd
    have HBL := Lib.hid hbl
    have hxn := x.2
    have hcl := chunkL_len HXL.out hxn
    have HRD := Lib.hid (fun (W2 : World) (h : Below W.heap.size W W2) => show RdU W2 (some ⟨b, off + 8 * x.1, none⟩) (chunkL xs x.1) from by
      have h1 : RdU W (some ⟨b, off, none⟩) xs := by
        have hin := HR.out
        rcases hin with h9 | ⟨b9, off9, e9, hc9⟩
        · exact .inl h9
        · exact .inr ⟨b9, off9, e9, fun k hk => (hB.cell (p := ⟨b9, off9 + k, none⟩) (by have := cell_lt (hc9 k hk); simp only at this ⊢; omega)).trans (hc9 k hk)⟩
      exact ((h1.below h).drop (8 * x.1)).take 8)
    have HF8 := Lib.hid (show f8 (chunkL xs x.1) (min (chunkL xs x.1).length 8) = chunkL xs x.1 by rw [hcl]; exact f8_all hcl)
    have KN := Lib.hid (fun (W2 : World) (h : RdU W2 (some ⟨b, off + 8 * x.1, none⟩) (chunkL xs x.1)) => show Calls Try.prog 84 #[.slice (some ⟨b, off + 8 * x.1, none⟩) 8 8] W2 (fun e w' => e = .returned (.pointer (some ⟨W2.heap.size, 0, none⟩)) ∧ LineAt w' W2.heap.size (chunkL xs x.1) [] none 0 0 ∧ Below W2.heap.size W2 w') by
      have k := lNew2_any (some ⟨b, off + 8 * x.1, none⟩) (chunkL xs x.1) 8 W2 h
      rw [HF8.out, hcl] at k
      exact k)
    clear hq ho hnd hpp hbl hlns hB hcl
    unfold chk8
    generalize hcx : chunkL xs x.1 = cx at *
    have HCX := Lib.hid hcx
    clear hcx
    gi_wp2_with fail
    apply wpIn_region_ja (by kernel_rfl) (RF A) (RF.trans A) (RF.refl A) (JF W W.heap.size w2.heap.size A bs cx) 38 9 (Eqs _ :: Eqs _ :: Eqs _ :: Eqs _ :: Eqs _ :: Eqs _ :: (LnNew W.heap.size cx) :: (LnSl W.heap.size cx) :: (fun _ _ => True) :: []) (by kernel_rfl) (by rfl) rfl (stab_cons (stab_eq _) (stab_cons (stab_eq _) (stab_cons (stab_eq _) (stab_cons (stab_eq _) (stab_cons (stab_eq _) (stab_cons (stab_eq _) (stab_cons (lnNew_grown (fun k hk => (HO.out.lt k hk).2)) (stab_cons (lnSl_grown (fun k hk => (HO.out.lt k hk).2)) (stab_cons stab_true stab_nil))))))))) (by kernel_rfl) (by kernel_rfl) (by kernel_rfl) (by kernel_rfl)
    case h0 =>
      exact ⟨fun _ => Stood.refl _, RF.refl _ _, fun h => by simp at h⟩
    case hstep =>
      simp only [List.take_succ_cons, List.take_zero]
      refine ⟨?_, ?_⟩
      · -- 0: Go.Op.load 24 (Go.Operand.tmp 4)
        intro listed a w1 hJ hls hl0 hlw hlc hF hU hsz
        have e4 : a.eval (.tmp 4) = _ := hU 4 (by kernel_rfl)
        rw [if_pos (by rfl)]
        intro K hK
        clear hF hU hsz
        have c0_ := Lib.cell_of_heap ((hJ.2.1.block (p + 1) (heap_lt HP.out) (fun e => by have := (HO.out.lt _ e.symm).1; omega)).trans HP.out) 0
        obtain ⟨q1, q2, q3⟩ := eval_rest a
        generalize hρ : a.eval = ρ
        rw [hρ] at q1 q2 q3 e4
        clear hρ
        have u1 := OpUp_value Try.prog K
        have u2 := OpUp_enter Try.prog K
        go_simp
        exact hK _ _ ((hJ.quiet (by decide) (by decide) _)) ((RF.refl A) _) rfl
      refine ⟨?_, ?_⟩
      · -- 1: Go.Op.load 24 (Go.Operand.tmp 4)
        intro listed a w1 hJ hls hl0 hlw hlc hF hU hsz
        have e4 : a.eval (.tmp 4) = _ := hU 4 (by kernel_rfl)
        rw [if_pos (by rfl)]
        intro K hK
        clear hF hU hsz
        have c0_ := Lib.cell_of_heap ((hJ.2.1.block (p + 1) (heap_lt HP.out) (fun e => by have := (HO.out.lt _ e.symm).1; omega)).trans HP.out) 0
        obtain ⟨q1, q2, q3⟩ := eval_rest a
        generalize hρ : a.eval = ρ
        rw [hρ] at q1 q2 q3 e4
        clear hρ
        have u1 := OpUp_value Try.prog K
        have u2 := OpUp_enter Try.prog K
        go_simp
        exact hK _ _ ((hJ.quiet (by decide) (by decide) _)) ((RF.refl A) _) rfl
      refine ⟨?_, ?_⟩
      · -- 2: Go.Op.nilCheck (Go.Operand.tmp 27)
        intro listed a w1 hJ hls hl0 hlw hlc hF hU hsz
        have e27 : a.eval (.tmp 27) = _ := hF 1 _ _ rfl rfl (by kernel_rfl)
        rw [if_pos (by rfl)]
        intro K hK
        clear hF hU hsz
        obtain ⟨q1, q2, q3⟩ := eval_rest a
        generalize hρ : a.eval = ρ
        rw [hρ] at q1 q2 q3 e27
        clear hρ
        have u1 := OpUp_value Try.prog K
        have u2 := OpUp_enter Try.prog K
        go_simp
        exact hK _ _ ((hJ.quiet (by decide) (by decide) _)) ((RF.refl A) _) rfl
      refine ⟨?_, ?_⟩
      · -- 3: Go.Op.fieldAddr 114 (Go.Operand.tmp 28) 0
        intro listed a w1 hJ hls hl0 hlw hlc hF hU hsz
        have e28 : a.eval (.tmp 28) = _ := hF 2 _ _ rfl rfl (by kernel_rfl)
        rw [if_pos (by rfl)]
        intro K hK
        clear hF hU hsz
        obtain ⟨q1, q2, q3⟩ := eval_rest a
        generalize hρ : a.eval = ρ
        rw [hρ] at q1 q2 q3 e28
        clear hρ
        have u1 := OpUp_value Try.prog K
        have u2 := OpUp_enter Try.prog K
        go_simp
        exact hK _ _ ((hJ.quiet (by decide) (by decide) _)) ((RF.refl A) _) rfl
      refine ⟨?_, ?_⟩
      · -- 4: Go.Op.load 112 (Go.Operand.tmp 29)
        intro listed a w1 hJ hls hl0 hlw hlc hF hU hsz
        have e29 : a.eval (.tmp 29) = _ := hF 3 _ _ rfl rfl (by kernel_rfl)
        rw [if_pos (by rfl)]
        intro K hK
        clear hF hU hsz
        have c0_ := Lib.cell_of_heap ((hJ.2.1.block p (heap_lt HQ.out) (fun e => by have := (HO.out.lt _ e.symm).1; omega)).trans HQ.out) 0
        obtain ⟨q1, q2, q3⟩ := eval_rest a
        generalize hρ : a.eval = ρ
        rw [hρ] at q1 q2 q3 e29
        clear hρ
        have u1 := OpUp_value Try.prog K
        have u2 := OpUp_enter Try.prog K
        go_simp
        exact hK _ _ ((hJ.quiet (by decide) (by decide) _)) ((RF.refl A) _) rfl
      refine ⟨?_, ?_⟩
      · -- 5: Go.Op.move (Go.Operand.tmp 5)
        intro listed a w1 hJ hls hl0 hlw hlc hF hU hsz
        have e5 : a.eval (.tmp 5) = _ := hU 5 (by kernel_rfl)
        rw [if_pos (by rfl)]
        intro K hK
        clear hF hU hsz
        obtain ⟨q1, q2, q3⟩ := eval_rest a
        generalize hρ : a.eval = ρ
        rw [hρ] at q1 q2 q3 e5
        clear hρ
        have u1 := OpUp_value Try.prog K
        have u2 := OpUp_enter Try.prog K
        go_simp
        exact hK _ _ ((hJ.quiet (by decide) (by decide) _)) ((RF.refl A) _) rfl
      refine ⟨?_, ?_⟩
      · -- 6: Go.Op.call { callee := Go.Callee.value (Go.Operand.func 84), args := #[Go.Operan
        intro listed a w1 hJ hls hl0 hlw hlc hF hU hsz
        have e31 : a.eval (.tmp 31) = _ := hF 5 _ _ rfl rfl (by kernel_rfl)
        rw [if_pos (by rfl)]
        intro K hK
        clear hF hU hsz
        obtain ⟨q1, q2, q3⟩ := eval_rest a
        generalize hρ : a.eval = ρ
        rw [hρ] at q1 q2 q3 e31
        clear hρ
        have u1 := OpUp_value Try.prog K
        have u2 := OpUp_enter Try.prog K
        go_simp
        refine (KN.out w1 (HRD.out w1 (Stood.cur (hJ.1 (hlc 8 _ rfl (by kernel_rfl)))))).mono ?_
        rintro e w' ⟨rfl, hln, hb⟩
        exact ⟨_, rfl, hK _ _ (hJ.more (hlc 8 _ rfl (by kernel_rfl)) hb (by decide) _) (RF.of_stood hb) ⟨_, 0, rfl, (hJ.1 (hlc 8 _ rfl (by kernel_rfl))).size, hln⟩⟩
      refine ⟨?_, ?_⟩
      · -- 7: Go.Op.buildSlice 112 1 #[(0, Go.Operand.tmp 32)]
        intro listed a w1 hJ hls hl0 hlw hlc hF hU hsz
        have e32 := hF 6 _ _ rfl rfl (by kernel_rfl)
        obtain ⟨B32, d32, e32, r32⟩ := e32
        have e32 : a.eval (.tmp 32) = _ := e32
        rw [if_pos (by rfl)]
        intro K hK
        clear hF hU hsz
        obtain ⟨q1, q2, q3⟩ := eval_rest a
        generalize hρ : a.eval = ρ
        rw [hρ] at q1 q2 q3 e32
        clear hρ
        have u1 := OpUp_value Try.prog K
        have u2 := OpUp_enter Try.prog K
        go_simp
        exact hK _ _ (hJ.more (hlc 8 _ rfl (by kernel_rfl)) ((Below.refl _ _).alloc (Nat.le_refl _) _) (by decide) _) (RF.of_stood ((Below.refl _ _).alloc (Nat.le_refl _) _)) ⟨_, B32, rfl, r32.1, (hJ.1 (hlc 8 _ rfl (by kernel_rfl))).size, r32.2.below ((Below.refl _ _).alloc (Nat.le_refl _) _), heap_alloc_new w1 _⟩
      refine ⟨?_, ?_⟩
      · -- 8: Go.Op.call { callee := Go.Callee.builtin Go.Builtin.append, args := #[Go.Operand
        intro listed a w1 hJ hls hl0 hlw hlc hF hU hsz
        have e30 : a.eval (.tmp 30) = _ := hF 4 _ _ rfl rfl (by kernel_rfl)
        have e33 := hF 7 _ _ rfl rfl (by kernel_rfl)
        obtain ⟨B33, d33, e33, r33⟩ := e33
        have e33 : a.eval (.tmp 33) = _ := e33
        rw [if_pos (by rfl)]
        intro K hK
        clear hF hU
        have hsz9 : 34 < a.tmps.size := by rw [hsz]; simp only [List.size_toArray, List.length_cons, List.length_nil]; omega
        obtain ⟨q1, q2, q3⟩ := eval_rest a
        generalize hρ : a.eval = ρ
        rw [hρ] at q1 q2 q3 e30 e33
        clear hρ
        have u1 := OpUp_value Try.prog K
        have u2 := OpUp_enter Try.prog K
        obtain ⟨i9, hi9, hz0, hz1, hz2⟩ := info_parts infoLn
        obtain ⟨hq1, hq1r, hq2, hq3⟩ := r33
        have hst := Stood.cur (hJ.1 hl0)
        have hown := HO.out.below hst
        have hrd : Rd w1 (some ⟨B33, 0, none⟩) [ptr d33] := .inr ⟨B33, 0, rfl, fun k hk => by
          obtain rfl : k = 0 := by simpa using hk
          exact Lib.cell_of_heap hq3 0⟩
        have hbl := HBL.out
        refine OpUp_app (.tmp 30) (.tmp 33) 112 rfl w2.heap.size 115 i9 _ 1 8 Try.underlying112 hi9 hz0 hz1 hz2 rfl (by omega) (by omega) A bs.length d _ e30 hown (some ⟨B33, 0, none⟩) 1 1 [ptr d33] e33 rfl hrd (by intro u hu; rw [List.mem_singleton.1 hu]; rfl) (by omega) (by have := hst.size; have : W.drew.heap.size = W.heap.size := rfl; omega) ?_
        intro A9 c9 w9 h91 h92 h93
        have hgood : GoodA W.heap.size w2.heap.size A bs cx (.slice A9 (bs.length + 1) c9) w9 := by
          have hA0 := HO.out.lt
          have hszs : W.heap.size ≤ w1.heap.size := hst.size
          refine ⟨A9, c9, d33, rfl, hq1, hq2.grown h92 (fun e => by have := (hA0 _ e).2; omega), ?_, fun e => ?_, ?_⟩
          · show w9.ownsRow _ _ _ _ _ _
            rw [List.length_append, List.map_append]
            exact h91
          · rcases h93 with h | h
            · rw [h] at e; have := (hA0 _ e).2; omega
            · rw [h] at e; injection e with e; have := hq2.lt; omega
          · rcases h93 with h | h
            · exact .inl h
            · refine .inr fun k hk => ?_
              rw [h] at hk; injection hk with hk; omega
        refine hK _ _ ⟨fun h => ?_, RF.trans A _ _ _ hJ.2.1 h92, fun _ => ?_⟩ h92 trivial
        · rw [getD_set_eq hls] at h; cases h
        · have e : (a.put (some 34) (.slice A9 (bs.length + 1) c9)).tmps.getD 34 undef = .slice A9 (bs.length + 1) c9 := by
            simp [Act.put, Array.getD_eq_getD_getElem?, hsz9]
          rw [e]
          exact hgood
      exact trivial
    case hend =>
      intro vs0 w1 listed hJ hl1 hl2 hH0
      obtain ⟨vs1, rfl, hH1⟩ := hH0.eq_
      obtain ⟨vs2, rfl, hH2⟩ := hH1.eq_
      obtain ⟨vs3, rfl, hH3⟩ := hH2.eq_
      obtain ⟨vs4, rfl, hH4⟩ := hH3.eq_
      obtain ⟨vs5, rfl, hH5⟩ := hH4.eq_
      obtain ⟨vs6, rfl, hH6⟩ := hH5.eq_
      obtain ⟨v6, vs7, rfl, hv6, hH7⟩ := hH6.cons
      obtain ⟨v7, vs8, rfl, hv7, hH8⟩ := hH7.cons
      obtain ⟨v8, vs9, rfl, hv8, hH9⟩ := hH8.cons
      obtain rfl := hH9.nil
      clear hH0 hH1 hH2 hH3 hH4 hH5 hH6 hH7 hH8 hH9
      simp only [List.take_succ_cons, List.take_zero, putAll, Act.put, List.setIfInBounds_toArray, List.set_cons_zero, List.set_cons_succ]
      obtain ⟨q6, z6, rfl, _, _⟩ := hv6
      obtain ⟨r7, q7, rfl, _, _, _, _⟩ := hv7
      have hJ8 := hJ.2.2 (hl1 8 (by decide))
      have hg2 := hJ.2.1
      clear hJ
      simp only [List.take_succ_cons, List.take_zero, putAll, Act.put, List.setIfInBounds_toArray, List.set_cons_zero, List.set_cons_succ] at hJ8
      obtain ⟨B2, d2, q, hv, hq1, hq2, hown2, hqB, hnew⟩ := hJ8
      obtain rfl : v8 = .slice B2 (bs.length + 1) d2 := hv
      clear hl1 hl2 hv8
      have hqlt := heap_lt HQ.out
      have hplt := heap_lt HP.out
      have hA0 := HO.out.lt
      have hbl := HBL.out
      have hwz : W.drew.heap.size = W.heap.size := rfl
      have hws := hg2.size
      have hneA : ∀ k, k < w2.heap.size → ¬ some k = blk A := fun k hk e => by have := (hA0 k e.symm).1; omega
      have hQ3 : w1.heap[p]? = some _ := (hg2.block p (by omega) (fun e => hneA p (by omega) e)).trans HQ.out
      have hP3 : w1.heap[p + 1]? = some _ := (hg2.block (p + 1) (by omega) (fun e => hneA (p + 1) (by omega) e)).trans HP.out
      have hb3 := (HB.out.drew).grown hg2 (by omega) (fun j hj => by have := (hA0 j hj).1; omega)
      have hul : (bs ++ [q]).length = bs.length + 1 := by simp
      have hQ4 := heap_set1 0 hQ3 (.slice B2 (bs.length + 1) d2)
      simp only [List.setIfInBounds_toArray, List.set_cons_zero, List.set_cons_succ] at hQ4
      have HQ4 := Lib.hid hQ4
      have HP4 := Lib.hid (show (w1.setCell ⟨p, 0, none⟩ (.slice B2 (bs.length + 1) d2)).heap[p + 1]? = some _ from (Below.heap_setCell _ _ _ _ (by simp)).trans hP3)
      have HB4 := Lib.hid (hb3.setCell (p := ⟨p, 0, none⟩) (Nat.le_refl _) (.slice B2 (bs.length + 1) d2))
      have HO4 := Lib.hid (hown2.kept (grownBy_setAt' w1 p 0 (.slice B2 (bs.length + 1) d2)) (by
        cases hB : blk B2 with
        | none => exact .inl rfl
        | some j => exact .inr (fun e => by cases e; have h1 := (hown2.lt _ hB).1; omega)))
      have HKO := Lib.hid ((KeepsOthers.of_grownBy (W := W.drew) hg2 (fun j o e ho => own_isCells' HO.out j o e ho)).trans (KeepsOthers.setCell w1 ⟨p, 0, none⟩ (.slice B2 (bs.length + 1) d2)))
      have HKT := Lib.hid (show KeepsTwo (p + 2) (p + 3) W (w1.setCell ⟨p, 0, none⟩ (.slice B2 (bs.length + 1) d2)) from ⟨by
        rw [Below.heap_setCell _ _ _ _ (by simp)]
        exact hg2.block (p + 2) (by omega) (fun e => hneA _ (by omega) e), by
        rw [Below.heap_setCell _ _ _ _ (by simp)]
        exact hg2.block (p + 3) (by omega) (fun e => hneA _ (by omega) e)⟩)
      have hsz5 : w2.heap.size ≤ (w1.setCell ⟨p, 0, none⟩ (.slice B2 (bs.length + 1) d2)).heap.size := by simp [World.setCell]; omega
      have hline : ∀ (y : Nat) (ss : List (BitVec 64)), w2.heap.size ≤ y → LineAt w1 y ss [] none 0 0 → LineAt (w1.setCell ⟨p, 0, none⟩ (.slice B2 (bs.length + 1) d2)) y ss [] none 0 0 := fun y ss h1 h3 => h3.same fun q9 hq9 => by
        rcases hq9 with rfl | hq9
        · exact Below.heap_setCell _ _ _ _ (by simp; omega)
        · cases hq9
      have hline0 : ∀ (y : Nat) (ss : List (BitVec 64)), blk A ≠ some y → LineAt W y ss [] none 0 0 → LineAt w1 y ss [] none 0 0 := fun y ss h1 h3 => h3.same fun q9 hq9 => by
        rcases hq9 with rfl | hq9
        · exact hg2.block _ h3.lt (fun e => h1 e.symm)
        · cases hq9
      have hB2 : ∀ y, y < W.heap.size → blk A ≠ some y → blk B2 ≠ some y := fun y h1 h2 e => by
        rcases hnew with h | h
        · rw [h] at e; exact h2 e
        · have := h y e; omega
      have HL4 := Lib.hid (show (bs ++ [q]).Nodup ∧ ∀ (i b : Nat) (x9 : Fin N), (bs ++ [q])[i]? = some b → (pre ++ [x])[i]? = some x9 → w2.heap.size ≤ b ∧ blk B2 ≠ some b ∧ LineAt (w1.setCell ⟨p, 0, none⟩ (.slice B2 (bs.length + 1) d2)) b (chunkL xs x9.1) [] none 0 0 from by
        refine ⟨?_, fun i b9 x9 h1 h2 => ?_⟩
        · rw [List.nodup_append]
          refine ⟨HND.out, by simp, fun y hy z hz => ?_⟩
          rw [List.mem_singleton.1 hz]
          obtain ⟨i, hi, rfl⟩ := List.getElem_of_mem hy
          have h7 := (HLN.out i bs[i] (pre[i]'(by omega)) (List.getElem?_eq_getElem hi) (List.getElem?_eq_getElem (by omega))).2.2.lt
          omega
        · by_cases hi : i < bs.length
          · rw [List.getElem?_append_left hi] at h1
            rw [List.getElem?_append_left (by omega)] at h2
            obtain ⟨k1, k2, k3⟩ := HLN.out i b9 x9 h1 h2
            exact ⟨k1, hB2 _ k3.lt k2, hline _ _ k1 (hline0 _ _ k2 k3)⟩
          · have hi2 : i = bs.length := by
              have := (List.getElem?_eq_some_iff.1 h1).1
              simp at this; omega
            subst hi2
            rw [List.getElem?_append_right (Nat.le_refl _), Nat.sub_self] at h1
            rw [List.getElem?_append_right (by omega), show bs.length - pre.length = 0 by omega] at h2
            obtain rfl : q = b9 := by simpa using h1
            obtain rfl : x = x9 := by simpa using h2
            exact ⟨by omega, hqB, hline _ _ (by omega) (by rw [HCX.out]; exact hq2)⟩)
      have o8 := Lib.cell_of_heap hP3 0
      have o9 := Lib.cell_of_heap hQ3 0
      have i0 := Lib.frozen_of_heap hQ3 0
      have HUL := Lib.hid hul
      clear hbl hg2 hown2 hQ3 hP3 hQ4 hb3 hws hq1 hq2 hqlt hplt hline hline0 hB2 hnew hneA hA0 hul hqB
      refine stop_ ?_
      unfold Stop
      go_wp2
      refine ⟨rfl, ?_⟩
      gi_wp2
      exact ⟨(show KeepsOthers W _ from ⟨HKO.out.1, HKO.out.2⟩).from _, HKT.out, ⟨hsz5, HP4.out, B2, d2, bs ++ [q], by rw [HUL.out]; exact HQ4.out, HO4.out, by rw [List.length_append, List.length_append, HBL.out]; rfl, HL4.out⟩, HB4.out⟩
  case hdone =>
    rintro D ys W hD hys ⟨⟨hbs, hpp, A, d, bs, hq, ho, hbl, hnd, hlns⟩, hB⟩ hK
    have hyl : ys.length = N := by
      have := congrArg List.length hys
      simpa using this
    have l1 := Lib.cell_of_heap hpp 0
    have ne : ∀ q, q < D → (W.putObj D (.deferred none)).heap[q]? = W.heap[q]? := fun q hq => World.putObj_heap_other (by omega)
    have HBF := Lib.hid (hB.trans (belowK_b (w := w) (by omega) W D _ (.deferred none) (by omega) hK rfl rfl))
    have nc : ∀ (q : Nat) (cs : Array Value) (T : TypeId) (r : Nat × Nat), W.heap[q]? = some (.cells cs T r) → (W.putObj D (.deferred none)).heap[q]? = W.heap[q]? := fun q cs T r hq => World.putObj_heap_other (by rintro rfl; rw [hK] at hq; cases hq)
    have hbN : bs.length = N := by omega
    have hsize : (W.putObj D (.deferred none)).heap.size = W.heap.size := by simp [World.putObj]
    have hget : ∀ i (h : i < bs.length), ∃ x : Fin N, ys[i]? = some x ∧ x.1 = i := fun i h => by
      have hi : i < ys.length := by omega
      refine ⟨ys[i], List.getElem?_eq_getElem hi, ?_⟩
      have h2 := congrArg (fun l => l[i]?) hys
      simp only [List.getElem?_map, List.getElem?_eq_getElem hi, Option.map_some] at h2
      rw [List.getElem?_range (by omega)] at h2
      exact Option.some.inj h2
    have hln : ∀ i (h : i < bs.length), w2.heap.size ≤ bs[i] ∧ blk A ≠ some bs[i] ∧ LineAt W bs[i] (chunkL xs i) [] none 0 0 := fun i h => by
      obtain ⟨x, hx, hxi⟩ := hget i h
      have h3 := hlns i bs[i] x (List.getElem?_eq_getElem h) hx
      rw [hxi] at h3
      exact h3
    have HMEM := Lib.hid (show MemAt (W.putObj D (.deferred none)) p (fun k => if k = p then 1 else if blk A = some k then 2 else if k ∈ bs then bs.idxOf k + 3 else 0) ⟨A, d, bs⟩ (fromA xs N) from by
      have hA : ∀ q, blk A = some q → w2.heap.size ≤ q ∧ q < W.heap.size := ho.lt
      refine ⟨⟨none, 0, ?_, .inl rfl, Nat.le_refl _, by simp [maxLen], fun q h => by cases h⟩, ⟨OwnF.rd (ownsRow_putObj ho (.deferred none) hK rfl), ho.cap.1, ho.cap.2, fun q hq => ?_⟩, by rw [fromA, fromL_len]; exact hbN, by rw [fromA, fromL_len]; exact hN, fun i hi => ?_, if_pos rfl, fun k hk => ?_⟩
      · exact (nc _ _ _ _ hq).trans hq
      · have := hA q hq
        try simp only
        rw [if_neg (by omega), if_pos hq]
      · have hib : i < bs.length := by rw [fromA, fromL_len] at hi; omega
        obtain ⟨k1, k2, k3⟩ := hln i hib
        have e : (fromA xs N).ls[i]'hi = ⟨chunkL xs i, [], 0⟩ := by simp [fromA, fromL]
        rw [e]
        refine ⟨⟨chunkL_len HXL.out (by omega), by simp, Nat.le_refl _⟩, ?_, none, 0, k3.same fun q hq => ?_, fun q h => by cases h⟩
        · try simp only
          rw [if_neg (by omega), if_neg k2, if_pos (List.getElem_mem hib), hnd.idxOf_getElem]
        · rcases hq with rfl | hq
          · exact nc _ _ _ _ k3.blk
          · cases hq
      · rw [hsize] at hk
        try simp only
        rw [if_neg (by have := heap_lt hq; omega), if_neg (fun e => by have := (hA k e).2; omega), if_neg]
        intro hmem
        obtain ⟨i, hi, rfl⟩ := List.getElem_of_mem hmem
        have := (hln i hi).2.2.lt
        omega)
    have HLOW := Lib.hid (show ∀ k, k < p → (fun k => if k = p then 1 else if blk A = some k then 2 else if k ∈ bs then bs.idxOf k + 3 else 0) k = 0 from fun k hk => by
      try simp only
      rw [if_neg (by omega), if_neg (fun e => by have := (ho.lt k e).1; omega), if_neg]
      intro hmem
      obtain ⟨i, hi, rfl⟩ := List.getElem_of_mem hmem
      have := (hln i hi).1
      omega)
    clear hyl hq ho hB hys hpp hbl hnd hlns hln hget nc ne hbN
    go_wp2
    refine ⟨by simp, .inl ⟨_, _, rfl, run_takeDeferred hK, ?_⟩⟩
    refine ⟨.tuple #[.pointer (some ⟨p, 0, none⟩), .int .i64 0], ?_, ⟨p, _, _, rfl, HMEM.out, fun k hk => HLOW.out k (by omega)⟩, HBF.out.mono hpw2⟩
    unfold results
    rw [show Try.f36.results = #[.tmp 2, .tmp 3] from rfl]
    go_simp
    try rfl
  case hstop =>
    rintro D c2 pre W hD hpre hF hK
    exact hF.elim
theorem mFrom_no (xs : List (BitVec 64)) (A : Option Addr) (c : Nat) (w : World) (hl : xs.length = 0 ∨ xs.length % 8 ≠ 0) (hm : xs.length ≤ 1048576) :
    Calls Try.prog 36 #[.slice A xs.length c] w fun e w' => e = .returned (.tuple #[.pointer none, .int .i64 1]) ∧ w = w' := by
  rcases hl with h | h
  · have q1 : ((xs.length : Int) == 0) = true := by rw [beq_iff_eq]; omega
    clear h
    go_enter Try.func36, Try.ntmps36
    go_wp2
    refine bodyPost_ret (v := .tuple #[.pointer none, .int .i64 1]) ?_ rfl ⟨rfl, rfl⟩
    unfold results
    rw [show Try.f36.results = #[.tmp 2, .tmp 3] from rfl]
    go_simp
  · have q1 : ((xs.length : Int) == 0) = false := by rw [beq_eq_false_iff_ne]; omega
    have q2 : ((xs.length : Int) % 8 != 0) = true := by rw [bne_iff_ne]; omega
    clear h
    go_enter Try.func36, Try.ntmps36
    go_wp2
    refine bodyPost_ret (v := .tuple #[.pointer none, .int .i64 1]) ?_ rfl ⟨rfl, rfl⟩
    unfold results
    rw [show Try.f36.results = #[.tmp 2, .tmp 3] from rfl]
    go_simp
/-- N lines of noughts. -/
def newA (N : Nat) : AM := fromA (List.replicate (8 * N) 0#64) N
theorem mNew_any (N : Nat) (w : World) (hN0 : 0 < N) (hN : N ≤ 1024) :
    Calls Try.prog 20 #[.int .i64 (N : Int)] w fun e w' => Made w.heap.size (newA N) e w' ∧ Below w.heap.size w w' := by
  have hmk := fun W => make_U (8 * N) (by omega) W
  have q1 : ((8 * N : Nat) : Int) = 8 * (N : Int) := by omega
  have q2 : ¬ (N : Int) < 1 := by omega
  have q3 : ¬ 1024 < (N : Int) := by omega
  have e1 : IntKind.i64.wrap (8 * (N : Int)) = 8 * (N : Int) := IntWalk.i64_in _ (by omega)
  rw [q1] at hmk
  have HA := Lib.hid ((Below.refl w.heap.size w).alloc (Nat.le_refl _) (.cells (Array.replicate (8 * N) (U 0#64)) 22))
  have hrd := (OwnU.rep w w.heap.size (8 * N) (Nat.le_refl _) (by unfold maxLen; omega)).rd
  have KF := Lib.hid (show Calls Try.prog 36 #[.slice (some ⟨w.heap.size, 0, none⟩) (8 * N) (8 * N)] (w.alloc (.cells (Array.replicate (8 * N) (U 0#64)) 22)) (fun e w' => Made w.heap.size (newA N) e w' ∧ Below w.heap.size w w') from by
    have hl : (List.replicate (8 * N) 0#64).length = 8 * N := List.length_replicate
    have k := mFrom_any (List.replicate (8 * N) 0#64) N (some ⟨w.heap.size, 0, none⟩) (8 * N) _ hrd (by rw [hl]; exact Nat.le_refl _) (by unfold maxLen; omega) hl hN0 hN
    rw [hl] at k
    refine k.mono ?_
    rintro e w' ⟨⟨m, own, G, h1, h2, h3⟩, hb⟩
    exact ⟨⟨m, own, G, h1, h2, fun k hk => h3 k (by simp; omega)⟩, HA.out.trans (hb.mono (by simp))⟩)
  clear hrd
  go_enter Try.func20, Try.ntmps20
  go_wp2_with fail
  refine KF.out.mono ?_
  rintro e w2 ⟨⟨m, own, G, rfl, h2, h3⟩, hb⟩
  have HP := Lib.hid (show Made w.heap.size (newA N) (.returned (.tuple #[.pointer (some ⟨m, 0, none⟩), .int .i64 0])) w2 from ⟨m, own, G, rfl, h2, h3⟩)
  have HB := Lib.hid hb
  clear h2 h3 hb
  go_wp2
  refine bodyPost_ret (v := .tuple #[.pointer (some ⟨m, 0, none⟩), .int .i64 0]) ?_ rfl ⟨HP.out, HB.out⟩
  unfold results
  rw [show Try.f20.results = #[.tmp 2, .tmp 3] from rfl]
  go_simp
  try rfl
theorem mNew_no (z : Int) (w : World) (hz : z < 1 ∨ 1024 < z) :
    Calls Try.prog 20 #[.int .i64 z] w fun e w' => e = .returned (.tuple #[.pointer none, .int .i64 1]) ∧ w = w' := by
  rcases hz with h | h
  · go_enter Try.func20, Try.ntmps20
    go_wp2
    refine bodyPost_ret (v := .tuple #[.pointer none, .int .i64 1]) ?_ rfl ⟨rfl, rfl⟩
    unfold results
    rw [show Try.f20.results = #[.tmp 2, .tmp 3] from rfl]
    go_simp
  · have h1 : ¬ z < 1 := by omega
    go_enter Try.func20, Try.ntmps20
    go_wp2
    refine bodyPost_ret (v := .tuple #[.pointer none, .int .i64 1]) ?_ rfl ⟨rfl, rfl⟩
    unfold results
    rw [show Try.f20.results = #[.tmp 2, .tmp 3] from rfl]
    go_simp
end Go.Proofs.Ytoifejinppjeeaa
