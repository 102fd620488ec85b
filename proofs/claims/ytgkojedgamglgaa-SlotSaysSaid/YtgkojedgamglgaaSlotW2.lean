/- The walk of slot.Get. Condition: the words can be read. -/
import Derived.Test.YtgkojedgamglgaaSlotW1
import Derived.Test.YtgkojedgamglgaaSlotPlain2
import Derived.Test.YtgkojedgamglgaaSlotBuilder
import Derived.Test.YtgkojedgamglgaaHeadWalks2
import Derived.Test.YtgkojedgamglgaaRegion3
import Derived.Shelf.Strings.BuilderK
namespace Go.Proofs.Ytgkojedgamglgaa
open Go.RowKit
set_option linter.unusedVariables false
set_option linter.unusedSimpArgs false
theorem bStringK_any (B b : Nat) (l : List UInt8) (w : World) (h : Lib.IsBuilderF 144 5 B b (Lib.byteCells l) w) (hBw : B ≤ w.heap.size) :
    Calls Try.prog 98 #[.pointer (some ⟨b, 0, none⟩)] w fun e w' => e = .returned (.string ⟨l.toArray⟩) ∧ (Lib.IsBuilderF 144 5 B b (Lib.byteCells l) w' ∧ Below B w w' ∧ Lib.OthersKept 5 (some b) w w') := Any.Builder_String_any_k layStr layExtra B b l w h hBw
/-- What a step keeps that may read the builder at b out: what lies below B, and every block that is no row of bytes. -/
def KeptB (B b : Nat) (w w' : World) : Prop := Below B w w' ∧ Lib.OthersKept 5 (some b) w w'
theorem KeptB.trans {B b : Nat} (x y z : World) (h : KeptB B b x y) (k : KeptB B b y z) : KeptB B b x z := ⟨h.1.trans k.1, h.2.trans k.2⟩
theorem KeptB.refl {B b : Nat} (x : World) : KeptB B b x x := ⟨Below.refl _ _, Lib.OthersKept.refl _ _ _⟩
theorem stab_boxK {B b : Nat} {cs : Array Value} : Stab (KeptB B b) (BoxF (b + 1) cs 105) := fun v w w' ⟨q, e, hl, hq⟩ h => ⟨q, e, hl, h.2 q _ hq (by intro e; injection e; omega) (by intro c fz e; injection e with _ e2; exact absurd e2 (by decide))⟩
theorem BuilderLt {T e : TypeId} {B b : Nat} {bs : List Value} {w : World} (h : Lib.IsBuilderF T e B b bs w) : b < w.heap.size := by
  rcases h with ⟨_, v, hb, _⟩ | ⟨_, v, hb, _⟩
  · exact heap_lt hb
  · exact heap_lt hb
theorem heap_set2 {w : World} {q : Nat} {T : TypeId} {a0 b0 : Value} (h : w.heap[q]? = some (.cells #[a0, b0] T (0, 0))) (a b : Value) :
    ((w.setCell ⟨q, 0, none⟩ a).setCell ⟨q, 1, none⟩ b).heap[q]? = some (.cells #[a, b] T (0, 0)) := by
  have h0 := Go.Joins.block_setCell (i := 0) h a
  have h1 := Go.Joins.block_setCell (i := 1) h0 b
  simpa [List.setIfInBounds_toArray] using h1
theorem frozen2 {W : World} {p : Nat} {T : TypeId} {a b : Value} (h : W.heap[p]? = some (.cells #[a, b] T (0, 0))) : W.frozen? ⟨p, 0, none⟩ = false ∧ W.frozen? ⟨p, 1, none⟩ = false :=
  ⟨Lib.frozen_of_heap h 0, Lib.frozen_of_heap h 1⟩
theorem eight_s {α : Type} {xs : List α} (h : xs.length = 8) : ∃ x0 x1 x2 x3 x4 x5 x6 x7, xs = [x0, x1, x2, x3, x4, x5, x6, x7] := by
  match xs, h with
  | [x0, x1, x2, x3, x4, x5, x6, x7], _ => exact ⟨x0, x1, x2, x3, x4, x5, x6, x7, rfl⟩
theorem toInt_s {x : BitVec 64} (h : x.toNat ≤ 64) : x.toInt = (x.toNat : Int) := by
  rw [BitVec.toInt_eq_toNat_cond]
  split <;> omega
theorem byteIn_drop (xs : List (BitVec 64)) (k : Nat) (h : 2 + k / 8 < xs.length) : byteIn (xs.drop 2) k = (xs[2 + k / 8] >>> (8 * (k % 8))).setWidth 8 := by
  unfold byteIn
  rw [List.getD_eq_getElem?_getD, List.getElem?_drop, List.getElem?_eq_getElem h]
  rfl
set_option maxRecDepth 100000 in
set_option maxHeartbeats 8000000 in
theorem sGet_any (xs : List (BitVec 64)) (A : Option Addr) (c : Nat) (w : World) (hr : RdU w A xs) (hc : xs.length ≤ c) (hm : c ≤ maxLen) :
    Calls Try.prog 67 #[.slice A xs.length c] w fun e w' => e = .returned (.tuple #[slV (tellZ xs) (tellS xs), .bool (slotOk xs)]) ∧ Below w.heap.size w w' := by
  have hm' := hm
  unfold maxLen at hm'
  have HR := Lib.hid hr
  clear hr
  have HW := Lib.hid ((Below.refl w.heap.size w).alloc (Nat.le_refl _) (.cells #[.int .i64 0, .string ⟨#[]⟩] 105))
  have HZ := Lib.hid (fun (h : slotOk xs = false) => show slV (tellZ xs) (tellS xs) = .agg #[.int .i64 0, .string ⟨#[]⟩] by unfold tellZ tellS; rw [h]; rfl)
  by_cases hl : xs.length = 8
  rotate_left
  · skip
    have HNO := Lib.hid (show slotOk xs = false by unfold slotOk; rw [decide_eq_false hl]; rfl)
    have HZ1 := Lib.hid (HZ.out HNO.out)
    clear HZ
    have hne : ((xs.length : Int) != 8) = true := by rw [bne_iff_ne]; omega
    have hne2 : ¬ ((xs.length : Int) = 8) := by omega
    clear hl
    go_enter Try.func67, Try.ntmps67
    go_wp2
    all_goals
      refine bodyPost_ret (v := .tuple #[.agg #[.int .i64 0, .string ⟨#[]⟩], .bool false]) ?_ rfl ⟨by rw [HZ1.out, HNO.out], HW.out⟩
      unfold results
      rw [show Try.f67.results = #[.cell 2 105, .tmp 3] from rfl]
      go_simp
      try rfl
  obtain ⟨b, off, rfl, hcell⟩ := HR.out.at_ (show 0 < xs.length by omega)
  have hbw := cell_lt (hcell 0 (by omega))
  have HC := Lib.hid (fun j hj => (HW.out.cell (p := ⟨b, off + j, none⟩) hbw).trans (hcell j hj))
  have HALL := Lib.hid (fun (o1 o2 : Obj) => ((((Below.refl w.heap.size w).alloc (Nat.le_refl _) o1).alloc (by simp) o2).cell (p := ⟨b, off + 1, none⟩) hbw).trans (hcell 1 (by omega)))
  clear hcell
  obtain ⟨x0, x1, x2, x3, x4, x5, x6, x7, hxs⟩ := eight_s hl
  have HLL := Lib.hid hl
  have g0 : xs.getD 0 0 = x0 := by rw [hxs]; rfl
  have g1 : xs.getD 1 0 = x1 := by rw [hxs]; rfl
  have hc0 := HC.out 0 (by omega)
  have hc1 := HC.out 1 (by omega)
  have hall := HALL.out
  clear HALL
  simp only [hxs, List.getElem_cons_succ, List.getElem_cons_zero, Nat.add_zero] at hc0 hc1 hall
  have HALL := Lib.hid hall
  clear hall
  have hbl : b < (w.alloc (.cells #[.int .i64 0, .string ⟨#[]⟩] 105)).heap.size := cell_lt hc0
  have HRW := Lib.hid (HR.out.below HW.out)
  rw [hl]
  have h8c : 8 ≤ c := by omega
  clear hxs
  by_cases h64 : x0.toNat ≤ 64
  rotate_left
  · skip
    have HNO := Lib.hid (show slotOk xs = false by unfold slotOk; rw [g0, decide_eq_false h64]; simp)
    have HZ1 := Lib.hid (HZ.out HNO.out)
    clear HZ
    have k3 : 64#64 < x0 := BitVec.lt_def.2 (by simp; omega)
    have k3b : ¬ x0 ≤ 64#64 := fun h => by have := BitVec.le_def.1 h; simp at this; omega
    clear h64 hl
    go_enter Try.func67, Try.ntmps67
    go_wp2
    all_goals
      refine bodyPost_ret (v := .tuple #[.agg #[.int .i64 0, .string ⟨#[]⟩], .bool false]) ?_ rfl ⟨by rw [HZ1.out, HNO.out], HW.out⟩
      unfold results
      rw [show Try.f67.results = #[.cell 2 105, .tmp 3] from rfl]
      go_simp
      try rfl
  have k3 : ¬ 64#64 < x0 := fun h => by have := BitVec.lt_def.1 h; simp at this; omega
  have k3b : x0 ≤ 64#64 := BitVec.le_def.2 (by simp; omega)
  by_cases h40 : x1.toNat ≤ 40
  rotate_left
  · skip
    have HNO := Lib.hid (show slotOk xs = false by unfold slotOk; rw [g1, decide_eq_false h40]; simp)
    have HZ1 := Lib.hid (HZ.out HNO.out)
    clear HZ
    have k4 : 40#64 < x1 := BitVec.lt_def.2 (by simp; omega)
    have k4b : ¬ x1 ≤ 40#64 := fun h => by have := BitVec.le_def.1 h; simp at this; omega
    clear h64 h40 hl
    go_enter Try.func67, Try.ntmps67
    go_wp2
    all_goals
      refine bodyPost_ret (v := .tuple #[.agg #[.int .i64 0, .string ⟨#[]⟩], .bool false]) ?_ rfl ⟨by rw [HZ1.out, HNO.out], HW.out⟩
      unfold results
      rw [show Try.f67.results = #[.cell 2 105, .tmp 3] from rfl]
      go_simp
      try rfl
  have k4 : ¬ 40#64 < x1 := fun h => by have := BitVec.lt_def.1 h; simp at this; omega
  have k4b : x1 ≤ 40#64 := BitVec.le_def.2 (by simp; omega)
  have HOK := Lib.hid (show slotOk xs = (slotW x0.toInt ⟨(nameOf xs x1.toNat).toArray⟩ == xs) by unfold slotOk strO; rw [decide_eq_true hl, g0, g1, decide_eq_true h64, decide_eq_true h40]; rfl)
  have HV := Lib.hid (fun (h : slotOk xs = true) => show tellZ xs = x0.toInt ∧ tellS xs = ⟨(nameOf xs x1.toNat).toArray⟩ by unfold tellZ tellS strO; rw [if_pos h, if_pos h, g0, g1]; exact ⟨rfl, rfl⟩)
  have hx1i := toInt_s (x := x1) (by omega)
  generalize x1.toNat = n1 at *
  have HNS := Lib.hid (fun k => nameOf_succ xs k)
  have HNL := Lib.hid (fun k => nameOf_len xs k)
  have HBI := Lib.hid (fun k h => byteIn_drop xs k h)
  have HB0 := Lib.hid (show Lib.IsBuilder 144 5 (w.heap.size + 1) (w.heap.size + 1) (Lib.byteCells (nameOf xs 0)) ((w.alloc (.cells #[.int .i64 0, .string ⟨#[]⟩] 105)).alloc (.cells #[.pointer none, .slice none 0 0] 144)) from
    .inl ⟨Nat.le_refl _, .slice none 0 0, by have h := heap_alloc_new (w.alloc (.cells #[.int .i64 0, .string ⟨#[]⟩] 105)) (.cells #[.pointer none, .slice none 0 0] 144); simpa using h, World.ownsRow_nil _ _ _ _, by simp [Value.ownBlock]⟩)
  have HBW := Lib.hid (show Below (w.heap.size + 1) (w.alloc (.cells #[.int .i64 0, .string ⟨#[]⟩] 105)) ((w.alloc (.cells #[.int .i64 0, .string ⟨#[]⟩] 105)).alloc (.cells #[.pointer none, .slice none 0 0] 144)) from by have h := (Below.refl (w.alloc (.cells #[.int .i64 0, .string ⟨#[]⟩] 105)).heap.size (w.alloc (.cells #[.int .i64 0, .string ⟨#[]⟩] 105))).alloc (Nat.le_refl _) (.cells #[.pointer none, .slice none 0 0] 144); simpa using h)
  have hsz0 : (w.alloc (.cells #[.int .i64 0, .string ⟨#[]⟩] 105)).heap.size = w.heap.size + 1 := by simp
  rw [hsz0] at hbl
  have HZC := Lib.hid (heap_alloc_new w (.cells #[.int .i64 0, .string ⟨#[]⟩] 105))
  clear h64 hl g0 g1
  go_enter Try.func67, Try.ntmps67
  have hld0 := HALL.out
  clear hbw
  go_wp2
  generalize (w.alloc (.cells #[.int .i64 0, .string ⟨#[]⟩] 105)).alloc (.cells #[.pointer none, .slice none 0 0] 144) = w1 at *
  generalize w.alloc (.cells #[.int .i64 0, .string ⟨#[]⟩] 105) = w0 at *
  clear hld0 k3 k4 k3b k4b
  go_loopw [27] (fun i wr => ∃ k : Nat, k ≤ n1 ∧ i = .int .i64 k ∧ Lib.IsBuilder 144 5 (w.heap.size + 1) (w.heap.size + 1) (Lib.byteCells (nameOf xs k)) wr ∧ Below (w.heap.size + 1) w0 wr) (fun i _ => n1 - (intOf i).toNat)
  case atStart => exact ⟨0, Nat.zero_le _, rfl, HB0.out, HBW.out⟩
  case round =>
    obtain ⟨k, hk, rfl, hib, hbw⟩ := hrel
    have HI := Lib.hid hib
    have HB := Lib.hid hbw
    clear hib hbw HB0 HBW
    by_cases hlt : k < n1
    · have h28 : 2 + k / 8 < xs.length := by rw [HLL.out]; omega
      have hcq := (HB.out.cell (p := ⟨b, off + (2 + k / 8), none⟩) hbl).trans (HC.out (2 + k / 8) h28)
      have HBK := Lib.hid (HBI.out k h28)
      have HN1 := Lib.hid (HNS.out k)
      rw [HBK.out] at HN1
      have HLK := Lib.hid (show (Lib.byteCells (nameOf xs k)).length + 1 ≤ 140737488355328 by rw [Lib.byteCells_length, HNL.out]; omega)
      generalize xs[2 + k / 8] = x at *
      have KW := Lib.hid (fun c => bWrite_any (w.heap.size + 1) (w.heap.size + 1) (Lib.byteCells (nameOf xs k)) c wr HI.out HLK.out (by have := HB.out.size; omega))
      have e1 : IntKind.i64.wrap ((k : Int) + 1) = (k : Int) + 1 := IntWalk.i64_in _ (by omega)
      have e2 : IntKind.i64.wrap (2 + (k : Int) / 8) = 2 + (k : Int) / 8 := IntWalk.i64_in _ (by omega)
      have e3 : IntKind.i64.wrap ((k : Int) / 8) = (k : Int) / 8 := IntWalk.i64_in _ (by omega)
      have e4 : (k : Int).tdiv 8 = (k : Int) / 8 := Int.tdiv_eq_ediv_of_nonneg (by omega)
      have e5 : (k : Int).tmod 8 = (k : Int) % 8 := Int.tmod_eq_emod_of_nonneg (by omega)
      have e6 : IntKind.i64.wrap ((k : Int) % 8) = (k : Int) % 8 := IntWalk.i64_in _ (by omega)
      have e7 : IntKind.i64.wrap (8 * ((k : Int) % 8)) = 8 * ((k : Int) % 8) := IntWalk.i64_in _ (by omega)
      have e8 : (2 + (k : Int) / 8).toNat = 2 + k / 8 := by omega
      have e9 : 0 ≤ 2 + (k : Int) / 8 := by omega
      have e10 : 2 + (k : Int) / 8 < 8 := by omega
      have e11 : 0 ≤ (k : Int) % 8 := by omega
      have e13 : 0 ≤ 8 * ((k : Int) % 8) := by omega
      have e12 : (8 * ((k : Int) % 8)).toNat = 8 * (k % 8) := by omega
      clear h28 HBK
      go_wp2_with fail
      refine (KW.out ((BitVec.setWidth 8 (x >>> (8 * (k % 8)))).toNat : Int)).mono ?_
      rintro e w2 ⟨rfl, hat, hb2⟩
      have HI2 := Lib.hid (show Lib.IsBuilder 144 5 (w.heap.size + 1) (w.heap.size + 1) (Lib.byteCells (nameOf xs (k + 1))) w2 from .inr (by
        rw [HN1.out]
        have e : Lib.byteCells (nameOf xs k ++ [⟨BitVec.setWidth 8 (x >>> (8 * (k % 8)))⟩]) = Lib.byteCells (nameOf xs k) ++ [.int .u8 ((BitVec.setWidth 8 (x >>> (8 * (k % 8)))).toNat : Int)] := by unfold Lib.byteCells; rw [List.map_append]; rfl
        rw [e]; exact hat))
      have HB2 := Lib.hid (HB.out.trans hb2)
      clear hat hb2 KW HI HB
      go_wp2
      go_roundw
      case rel => exact ⟨k + 1, by omega, by go_num, HI2.out, HB2.out⟩
      case measure => simp [intOf]; omega
    · obtain rfl : k = n1 := by omega
      have HF := Lib.hid (Lib.IsBuilderF.of HI.out)
      have hsz1 : w.heap.size + 1 ≤ wr.heap.size := by have := HB.out.size; omega
      have KSTR := Lib.hid (fun (W : World) h h2 => bStringK_any (w.heap.size + 1) (w.heap.size + 1) (nameOf xs k) W h h2)
      clear HI
      generalize hst : (⟨(nameOf xs k).toArray⟩ : ByteArray) = st at *
      go_wp2_with fail

      apply wp_region_jr (KeptB (w.heap.size + 1) (w.heap.size + 1)) KeptB.trans KeptB.refl (fun _ W => KeptB (w.heap.size + 1) (w.heap.size + 1) wr W ∧ Lib.IsBuilderF 144 5 (w.heap.size + 1) (w.heap.size + 1) (Lib.byteCells (nameOf xs k)) W) 56 7 (Eqs _ :: Eqs _ :: Eqs _ :: Eqs _ :: Eqs _ :: Eqs _ :: (BoxF (w.heap.size + 1 + 1) #[.int .i64 0, .string ⟨#[]⟩] 105) :: []) (by kernel_rfl) (by rfl) rfl (stab_cons (stab_eq _) (stab_cons (stab_eq _) (stab_cons (stab_eq _) (stab_cons (stab_eq _) (stab_cons (stab_eq _) (stab_cons (stab_eq _) (stab_cons stab_boxK stab_nil))))))) (by kernel_rfl) (by kernel_rfl) (by kernel_rfl) (by kernel_rfl)
      case h0 =>
        exact ⟨⟨(Below.refl _ _).drew, (Lib.OthersKept.refl _ _ _).drew⟩, HF.out⟩
      case hstep =>
        simp only [List.take_succ_cons, List.take_zero]
        refine ⟨?_, ?_⟩
        · -- 0: Go.Op.move (Go.Operand.tmp 0)
          intro listed a w1 hJ hls hl0 hlw hlc hF hU hsz
          have e0 : a.eval (.tmp 0) = _ := hU 0 (by kernel_rfl)
          rw [if_pos (by rfl)]
          intro K hK
          clear hF hU hsz
          obtain ⟨q1, q2, q3⟩ := eval_rest a
          generalize hρ : a.eval = ρ
          rw [hρ] at q1 q2 q3 e0
          clear hρ
          have u1 := OpUp_value Try.prog K
          have u2 := OpUp_enter Try.prog K
          go_simp
          exact hK _ _ (hJ) (KeptB.refl _) rfl
        refine ⟨?_, ?_⟩
        · -- 1: Go.Op.indexAddr 28 (Go.Operand.tmp 43) (Go.Operand.const (Go.Value.int Go.IntKin
          intro listed a w1 hJ hls hl0 hlw hlc hF hU hsz
          have e43 : a.eval (.tmp 43) = _ := hF 0 _ _ rfl rfl (by kernel_rfl)
          rw [if_pos (by rfl)]
          intro K hK
          clear hF hU hsz
          obtain ⟨q1, q2, q3⟩ := eval_rest a
          generalize hρ : a.eval = ρ
          rw [hρ] at q1 q2 q3 e43
          clear hρ
          have u1 := OpUp_value Try.prog K
          have u2 := OpUp_enter Try.prog K
          go_simp
          exact hK _ _ (hJ) (KeptB.refl _) rfl
        refine ⟨?_, ?_⟩
        · -- 2: Go.Op.load 22 (Go.Operand.tmp 44)
          intro listed a w1 hJ hls hl0 hlw hlc hF hU hsz
          have e44 : a.eval (.tmp 44) = _ := hF 1 _ _ rfl rfl (by kernel_rfl)
          rw [if_pos (by rfl)]
          intro K hK
          clear hF hU hsz
          have hld := (hJ.1.1.cell (p := ⟨b, off, none⟩) hbl).trans ((HB.out.cell (p := ⟨b, off, none⟩) hbl).trans hc0)
          obtain ⟨q1, q2, q3⟩ := eval_rest a
          generalize hρ : a.eval = ρ
          rw [hρ] at q1 q2 q3 e44
          clear hρ
          have u1 := OpUp_value Try.prog K
          have u2 := OpUp_enter Try.prog K
          go_simp
          exact hK _ _ (hJ) (KeptB.refl _) rfl
        refine ⟨?_, ?_⟩
        · -- 3: Go.Op.convert 22 3 (Go.Operand.tmp 45)
          intro listed a w1 hJ hls hl0 hlw hlc hF hU hsz
          have e45 : a.eval (.tmp 45) = _ := hF 2 _ _ rfl rfl (by kernel_rfl)
          rw [if_pos (by rfl)]
          intro K hK
          clear hF hU hsz
          obtain ⟨q1, q2, q3⟩ := eval_rest a
          generalize hρ : a.eval = ρ
          rw [hρ] at q1 q2 q3 e45
          clear hρ
          have u1 := OpUp_value Try.prog K
          have u2 := OpUp_enter Try.prog K
          go_simp
          exact hK _ _ (hJ) (KeptB.refl _) rfl
        refine ⟨?_, ?_⟩
        · -- 4: Go.Op.call { callee := Go.Callee.value (Go.Operand.func 98), args := #[Go.Operan
          intro listed a w1 hJ hls hl0 hlw hlc hF hU hsz
          have e4 : a.eval (.tmp 4) = _ := hU 4 (by kernel_rfl)
          rw [if_pos (by rfl)]
          intro K hK
          clear hF hU hsz
          obtain ⟨q1, q2, q3⟩ := eval_rest a
          generalize hρ : a.eval = ρ
          rw [hρ] at q1 q2 q3 e4
          clear hρ
          have u1 := OpUp_value Try.prog K
          have u2 := OpUp_enter Try.prog K
          go_simp
          refine (KSTR.out w1 hJ.2 (by have := hJ.1.1.size; omega)).mono ?_
          rintro e w' ⟨rfl, hi2, hb2, ho2⟩
          exact ⟨_, rfl, hK _ _ ⟨⟨hJ.1.1.trans hb2, hJ.1.2.trans ho2⟩, hi2⟩ ⟨hb2, ho2⟩ rfl⟩
        refine ⟨?_, ?_⟩
        · -- 5: Go.Op.build 105 #[(0, Go.Operand.tmp 46), (1, Go.Operand.tmp 47)]
          intro listed a w1 hJ hls hl0 hlw hlc hF hU hsz
          have e46 : a.eval (.tmp 46) = _ := hF 3 _ _ rfl rfl (by kernel_rfl)
          have e47 : a.eval (.tmp 47) = _ := hF 4 _ _ rfl rfl (by kernel_rfl)
          rw [if_pos (by rfl)]
          intro K hK
          clear hF hU hsz
          obtain ⟨q1, q2, q3⟩ := eval_rest a
          generalize hρ : a.eval = ρ
          rw [hρ] at q1 q2 q3 e46 e47
          clear hρ
          have u1 := OpUp_value Try.prog K
          have u2 := OpUp_enter Try.prog K
          go_simp
          exact hK _ _ (hJ) (KeptB.refl _) rfl
        refine ⟨?_, ?_⟩
        · -- 6: Go.Op.alloc 105
          intro listed a w1 hJ hls hl0 hlw hlc hF hU hsz
          rw [if_pos (by rfl)]
          intro K hK
          clear hF hU hsz
          obtain ⟨q1, q2, q3⟩ := eval_rest a
          generalize hρ : a.eval = ρ
          rw [hρ] at q1 q2 q3
          clear hρ
          have u1 := OpUp_value Try.prog K
          have u2 := OpUp_enter Try.prog K
          go_simp
          have hs6 : w.heap.size + 1 ≤ w1.heap.size := by have := hJ.1.1.size; omega
          exact hK _ _ ⟨⟨hJ.1.1.alloc hs6 _, hJ.1.2.alloc _⟩, hJ.2.alloc _⟩ ⟨(Below.refl _ _).alloc hs6 _, (Lib.OthersKept.refl _ _ _).alloc _⟩ ⟨_, rfl, by have := BuilderLt hJ.2; omega, heap_alloc_new w1 _⟩
        exact trivial
      case hend =>
        intro vs0 w1 listed hJ hl1 hl2 hH0
        obtain ⟨vs1, rfl, hH1⟩ := hH0.eq_
        obtain ⟨vs2, rfl, hH2⟩ := hH1.eq_
        obtain ⟨vs3, rfl, hH3⟩ := hH2.eq_
        obtain ⟨vs4, rfl, hH4⟩ := hH3.eq_
        obtain ⟨vs5, rfl, hH5⟩ := hH4.eq_
        obtain ⟨vs6, rfl, hH6⟩ := hH5.eq_
        obtain ⟨v6, vs7, rfl, hv6, hH7⟩ := hH6.cons
        obtain rfl := hH7.nil
        clear hH0 hH1 hH2 hH3 hH4 hH5 hH6 hH7
        simp only [List.take_succ_cons, List.take_zero, putAll, Act.put, List.setIfInBounds_toArray, List.set_cons_zero, List.set_cons_succ]
        obtain ⟨q, rfl, hq1, hq2⟩ := hv6
        have HB1 := Lib.hid (HB.out.trans hJ.1.1)
        clear hJ hl1 hl2
        obtain ⟨s0, s1⟩ := cells2 hq2
        obtain ⟨t0, t1⟩ := frozen2 hq2
        have hq3 := heap_set2 hq2 (.int .i64 x0.toInt) (.string st)
        have HB2 := Lib.hid ((HB1.out.setCell (p := ⟨q, 0, none⟩) (show w.heap.size + 1 ≤ q by omega) (.int .i64 x0.toInt)).setCell (p := ⟨q, 1, none⟩) (show w.heap.size + 1 ≤ q by omega) (.string st))
        obtain ⟨r0, r1⟩ := cells2 hq3
        have HQ := Lib.hid hq3
        clear hq2 hq3 hst KSTR HF
        have KP := Lib.hid (fun W => sPut_any x0.toInt st W)
        unfold slV at KP
        have HLN := Lib.hid (show (slotW x0.toInt st).length ≤ maxLen by rw [slotW_len]; unfold maxLen; split <;> simp)
        generalize slotW x0.toInt st = nw at *
        go_wp2_with fail
        refine (KP.out _).mono ?_
        rintro e wp ⟨⟨BP, dP, rfl, hown⟩, hbp⟩
        have HQ := Lib.hid (heap_below HQ.out hbp)
        have HB3 := Lib.hid (HB2.out.trans (hbp.mono (by have := HB2.out.size; omega)))
        have HRP := Lib.hid hown.rd
        clear hown hbp s0 s1 t0 t1 r0 r1
        have HRX := Lib.hid (HRW.out.below (by rw [hsz0]; exact HB3.out))
        have KE := Lib.hid (show Calls Try.prog 75 #[.slice BP nw.length dP, .slice (some ⟨b, off, none⟩) 8 c] wp (fun e w' => e = .returned (.bool (nw == xs)) ∧ Drawn wp w') by
          have h9 := Equal_any nw xs BP (some ⟨b, off, none⟩) dP c wp HRP.out HRX.out HLN.out (by rw [HLL.out]; unfold maxLen; simp)
          rw [HLL.out] at h9
          exact h9)
        go_wp2_with fail
        refine KE.out.mono ?_
        rintro e we ⟨rfl, hd⟩
        have hbd := hd.below wp.heap.size
        have HQ := Lib.hid (heap_below HQ.out hbd)
        have HB4 := Lib.hid (HB3.out.trans (hbd.mono (by have := HB3.out.size; omega)))
        clear hd hbd HRX HRP KE
        rw [← HOK.out]
        have hh2 := (HB4.out.block w.heap.size (by omega)).trans HZC.out
        obtain ⟨y0, y1⟩ := cells2 hh2
        obtain ⟨z0, z1⟩ := frozen2 hh2
        have HWP := Lib.hid (HW.out.trans (HB4.out.mono (by omega)))
        cases hq : slotOk xs with
        | false =>
          have HZ1 := Lib.hid (HZ.out hq)
          have HNO := Lib.hid hq
          clear hq
          have hh3 := heap_set2 hh2 (.int .i64 0) (.string ⟨#[]⟩)
          have HWF := Lib.hid ((HWP.out.setCell (p := ⟨w.heap.size, 0, none⟩) (Nat.le_refl _) (.int .i64 0)).setCell (p := ⟨w.heap.size, 1, none⟩) (Nat.le_refl _) (.string ⟨#[]⟩))
          obtain ⟨r0, r1⟩ := cells2 hh3
          clear hh2 hh3
          go_wp2
          refine bodyPost_ret (v := .tuple #[.agg #[.int .i64 0, .string ⟨#[]⟩], .bool false]) ?_ rfl ⟨by rw [HZ1.out, HNO.out], HWF.out⟩
          unfold results
          rw [show Try.f67.results = #[.cell 2 105, .tmp 3] from rfl]
          go_simp
          try rfl
        | true =>
          have HV2 := Lib.hid (HV.out hq)
          have HNO := Lib.hid hq
          clear hq
          have hh3 := heap_set2 hh2 (.int .i64 x0.toInt) (.string st)
          have HWF := Lib.hid ((HWP.out.setCell (p := ⟨w.heap.size, 0, none⟩) (Nat.le_refl _) (.int .i64 x0.toInt)).setCell (p := ⟨w.heap.size, 1, none⟩) (Nat.le_refl _) (.string st))
          obtain ⟨r0, r1⟩ := cells2 hh3
          obtain ⟨l0, l1⟩ := cells2 HQ.out
          clear hh2 hh3
          go_wp2
          refine bodyPost_ret (v := .tuple #[.agg #[(.int .i64 x0.toInt), (.string st)], .bool true]) ?_ rfl ⟨by rw [HV2.out.1, HV2.out.2, HNO.out]; rfl, HWF.out⟩
          unfold results
          rw [show Try.f67.results = #[.cell 2 105, .tmp 3] from rfl]
          go_simp
          try rfl
end Go.Proofs.Ytgkojedgamglgaa
