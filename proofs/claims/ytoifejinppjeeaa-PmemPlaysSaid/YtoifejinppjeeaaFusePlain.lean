/- Plain laws of a fuse: two memories, one with a fuse, the other with a fall; and what stands within a region that calls both. -/
import Derived.Test.YtoifejinppjeeaaPmTwo
import Derived.Test.YtoifejinppjeeaaMemPlain
import Derived.Test.YtoifejinppjeeaaRegion5
namespace Go.Proofs.Ytoifejinppjeeaa
open Go.RowKit
set_option linter.unusedVariables false
set_option linter.unusedSimpArgs false
def actA (op z : Int) (v : BitVec 64) (a : AM) : AM × Int := if op = 0 then a.store (z % 16) v else if op = 1 then a.flush [z % 2] else a.fence
structure FuI (ks : List Int) (c : Int) (i : Nat) (a b : AM) : Prop where
  ls : a.ls = b.ls
  len : b.ls.length = 3
  run : (i : Int) < c → a.off = false ∧ a.fuse = c - i ∧ a.keep = ks ∧ b.off = false ∧ b.fuse = 0
  dead : c ≤ (i : Int) → a.off = true ∧ b.off = true
  rm : b.room i
  ca : a.cnt i
  cb : b.cnt i
theorem AM.cnt.crash {a : AM} {N : Nat} (h : a.cnt N) (ks : List Int) : (a.crash ks).cnt N := by
  unfold AM.crash
  split
  · exact h
  · exact ⟨by simp, h.c1, h.c2, h.c3⟩
theorem AM.cnt.fence {a : AM} {N : Nat} (h : a.cnt N) : a.fence.1.cnt (N + 1) := by
  unfold AM.fence
  split
  · exact h.mono (Nat.le_succ _)
  · split
    · exact h.burn.mono (Nat.le_succ _)
    · have hb := h.burn
      have h1 := hb.c1
      have h2 := hb.c2
      have h3 := hb.c3
      exact ⟨hb.f1, by simp only; omega, by simp only; omega, by simp only; omega⟩
theorem act_room {a : AM} {r : Nat} (h : a.room r) (op z : Int) (v : BitVec 64) : (actA op z v a).1.room (r + 1) := by
  unfold actA
  split
  · exact store_room h _ _
  · split
    · exact room_mono (flush_room h _) (Nat.le_succ _)
    · unfold AM.fence
      split
      · exact room_mono h (Nat.le_succ _)
      · split
        · exact room_mono (burn_room h) (Nat.le_succ _)
        · exact room_mono (fence_room (burn_room h)) (Nat.le_succ _)
theorem act_cnt {a : AM} {N : Nat} (h : a.cnt N) (op z : Int) (v : BitVec 64) : (actA op z v a).1.cnt (N + 1) := by
  unfold actA
  split
  · exact h.store _ _
  · split
    · exact h.flush _
    · exact h.fence
theorem act_len (a : AM) (op z : Int) (v : BitVec 64) : (actA op z v a).1.ls.length = a.ls.length := by
  unfold actA
  split
  · exact store_len _ _ _
  · split
    · unfold AM.flush
      split
      · rfl
      · split
        · rfl
        · split
          · exact burn_len _
          · exact (flushL_len _ _).trans (burn_len _)
    · unfold AM.fence
      split
      · rfl
      · split
        · exact burn_len _
        · exact (List.length_map _).trans (burn_len _)
theorem room_ls {a b : AM} {r : Nat} (h : a.room r) (e : b.ls = a.ls) : b.room r := fun l hl => h l (by rw [← e]; exact hl)
/-- The power is off: nothing is done. -/
theorem act_off {a : AM} (h : a.off = true) (op z : Int) (v : BitVec 64) : actA op z v a = (a, 14) := by
  unfold actA AM.store AM.flush AM.fence
  simp [h]
/-- In power, without a fall. -/
theorem act_on {a : AM} (ho : a.off = false) (hl : a.ls.length = 3) {x : Int} (hb : a.burn = ({ a with fuse := x }, true)) (op z : Int) (v : BitVec 64) :
    ∃ n1 n2 n3, actA op z v a = ({ a with fuse := x, n1 := n1, n2 := n2, n3 := n3, ls := if op = 0 then a.ls.set (z % 16 / 8).toNat ((a.ls.getD (z % 16 / 8).toNat z0).store (z % 16 % 8) v) else if op = 1 then flushL a.ls [z % 2] else a.ls.map Ln.fence }, 0) := by
  have hz0 := Int.emod_nonneg z (b := 16) (by omega)
  have hz1 := Int.emod_lt_of_pos z (b := 16) (by omega)
  have hz2 := Int.emod_nonneg z (b := 2) (by omega)
  have hz3 := Int.emod_lt_of_pos z (b := 2) (by omega)
  unfold actA
  split
  · have hh : a.has (z % 16) = true := decide_eq_true (by omega)
    unfold AM.store
    rw [if_neg (by rw [ho]; exact Bool.false_ne_true), if_neg (by rw [hh]; exact fun h => by cases h), hb, if_neg (fun h => by cases h)]
    exact ⟨_, _, _, rfl⟩
  · split
    · have hn : [z % 2].any a.none = false := by
        simp only [List.any_cons, List.any_nil, Bool.or_false]
        exact decide_eq_false (by omega)
      unfold AM.flush
      rw [if_neg (by rw [ho]; exact Bool.false_ne_true), if_neg (by rw [hn]; exact fun h => by cases h), hb, if_neg (fun h => by cases h)]
      exact ⟨_, _, _, rfl⟩
    · unfold AM.fence
      rw [if_neg (by rw [ho]; exact Bool.false_ne_true), hb, if_neg (fun h => by cases h)]
      exact ⟨_, _, _, rfl⟩
section
variable {ks : List Int} {c : Int} {i : Nat} {a b : AM}
theorem FuI.alive (h : FuI ks c i a b) (hi : (i : Int) + 1 < c) (op z : Int) (v : BitVec 64) :
    (actA op z v a).2 = 0 ∧ (actA op z v b).2 = 0 ∧ FuI ks c (i + 1) (actA op z v a).1 (actA op z v b).1 := by
  obtain ⟨r1, r2, r3, r4, r5⟩ := h.run (by omega)
  have e1 := burn_run (a := a) (by omega) (by omega)
  have e2 : b.burn = ({ b with fuse := b.fuse }, true) := burn_none r5
  have hca := act_cnt h.ca op z v
  have hcb := act_cnt h.cb op z v
  have hrb := act_room h.rm op z v
  have hlb := act_len b op z v
  obtain ⟨x1, x2, x3, ea⟩ := act_on r1 (by rw [h.ls]; exact h.len) e1 op z v
  obtain ⟨y1, y2, y3, eb⟩ := act_on r4 h.len e2 op z v
  rw [ea] at hca
  rw [eb] at hcb hrb hlb
  rw [ea, eb]
  exact ⟨rfl, rfl, by simp only [h.ls], hlb.trans h.len, fun _ => ⟨r1, by simp only; omega, r3, r4, r5⟩, fun hc => by omega, hrb, hca, hcb⟩
theorem FuI.blow (h : FuI ks c i a b) (hi : (i : Int) + 1 = c) (op z : Int) (v : BitVec 64) :
    (actA op z v a).2 = 14 ∧ (actA op z v (b.crash ks)).2 = 14 ∧ FuI ks c (i + 1) (actA op z v a).1 (actA op z v (b.crash ks)).1 := by
  obtain ⟨r1, r2, r3, r4, r5⟩ := h.run (by omega)
  have hca := act_cnt h.ca op z v
  have hcr := h.cb.crash ks
  have ec := crash_on (a := b) ks r4
  have e1 : a.burn = (({ a with fuse := 0 } : AM).crash a.keep, false) := by
    unfold AM.burn
    rw [if_pos (by omega), if_pos (by omega)]
  have e2 : ({ a with fuse := 0 } : AM).crash a.keep = { a with off := true, fuse := 0, ls := crashL ks a.ls } := by
    rw [crash_on (a := { a with fuse := 0 }) _ r1, r3]
  rw [e2] at e1
  have hoff : (b.crash ks).off = true := by rw [ec]
  have hl3 : a.ls.length = 3 := by rw [h.ls]; exact h.len
  have hz0 := Int.emod_nonneg z (b := 16) (by omega)
  have hz1 := Int.emod_lt_of_pos z (b := 16) (by omega)
  have hz2 := Int.emod_nonneg z (b := 2) (by omega)
  have hz3 := Int.emod_lt_of_pos z (b := 2) (by omega)
  have ea : actA op z v a = ({ a with off := true, fuse := 0, ls := crashL ks a.ls }, 14) := by
    unfold actA
    split
    · have hh : a.has (z % 16) = true := decide_eq_true (by omega)
      unfold AM.store
      rw [if_neg (by rw [r1]; exact Bool.false_ne_true), if_neg (by rw [hh]; exact fun h => by cases h), e1, if_pos rfl]
    · split
      · have hn : [z % 2].any a.none = false := by
          simp only [List.any_cons, List.any_nil, Bool.or_false]
          exact decide_eq_false (by omega)
        unfold AM.flush
        rw [if_neg (by rw [r1]; exact Bool.false_ne_true), if_neg (by rw [hn]; exact fun h => by cases h), e1, if_pos rfl]
      · unfold AM.fence
        rw [if_neg (by rw [r1]; exact Bool.false_ne_true), e1, if_pos rfl]
  rw [ea] at hca
  rw [ea, act_off hoff]
  refine ⟨rfl, rfl, by simp only [ec, h.ls], (crash_len _ _).trans h.len, fun hc => by omega, fun _ => ⟨rfl, hoff⟩, room_mono (crash_room h.rm ks) (Nat.le_succ _), hca, hcr.mono (Nat.le_succ _)⟩
theorem FuI.late (h : FuI ks c i a b) (hi : c < (i : Int) + 1) (op z : Int) (v : BitVec 64) :
    (actA op z v a).2 = 14 ∧ (actA op z v b).2 = 14 ∧ FuI ks c (i + 1) (actA op z v a).1 (actA op z v b).1 := by
  obtain ⟨r1, r2⟩ := h.dead (by omega)
  rw [act_off r1, act_off r2]
  exact ⟨rfl, rfl, h.ls, h.len, fun hc => by omega, fun _ => ⟨r1, r2⟩, room_mono h.rm (Nat.le_succ _), h.ca.mono (Nat.le_succ _), h.cb.mono (Nat.le_succ _)⟩
theorem FuI.ra (h : FuI ks c i a b) : a.room i := room_ls h.rm h.ls
end
/-- What is left of both behind a fall of the second. -/
structure Mix (a b : AM) (k : Nat) : Prop where
  ra : a.room k
  rm : b.room k
  ca : a.cnt k
  cb : b.cnt k
theorem Two.snd_below {w0 w w' : World} {m n : Nat} {o p p' : Nat → Nat} {G H : MG} {a b : AM} (h : Two w0 w m o G a n p H b) (hf : MFr w w' p p') : Below w0.heap.size w0 w' := h.hb.trans (hf.below h.hb.size fun k hk => (h.low k hk).2)
/-! ### Within a region -/
/-- The state of both, by which of the two calls are done. -/
def TwJ (w0 : World) (m : Nat) (G : MG) (a a' : AM) (n : Nat) (H : MG) (b b' : AM) : Bool → Bool → World → Prop
  | false, _, w => ∃ o p, Two w0 w m o G a n p H b
  | true, false, w => ∃ o p, Two w0 w m o G a' n p H b
  | true, true, w => ∃ o p, Two w0 w m o G a' n p H b'
section
variable {w0 w : World} {m n : Nat} {G H : MG} {a a' b b' : AM} {x y : Bool}
theorem TwJ.hb (h : TwJ w0 m G a a' n H b b' x y w) : Below w0.heap.size w0 w := by
  cases x <;> cases y <;> (obtain ⟨_, _, h⟩ := h; exact h.hb)
theorem TwJ.quiet {l : Array Bool} {i p q : Nat} (h : TwJ w0 m G a a' n H b b' (l.getD p false) (l.getD q false) w) (hp : i ≠ p) (hq : i ≠ q) :
    TwJ w0 m G a a' n H b b' ((l.setIfInBounds i true).getD p false) ((l.setIfInBounds i true).getD q false) w := by
  rw [getD_set_ne hp, getD_set_ne hq]
  exact h
end
def BxT (act : Act) (t : Nat) (z : Int) (o p : Nat → Nat) (w : World) : Prop := ∃ q, act.tmps.getD t undef = .slice (some ⟨q, 0, none⟩) 1 1 ∧ w.heap[q]? = some (.cells #[.int .i64 z] 3 (0, 0)) ∧ o q = 0 ∧ p q = 0
/-- As TwJ, with the boxes that the region makes. -/
def FlJ (w0 : World) (m : Nat) (G : MG) (a a' : AM) (n : Nat) (H : MG) (b b' : AM) (z : Int) (l : Array Bool) (act : Act) (w : World) : Prop :=
  ∃ o p, Two w0 w m o G (if l.getD 8 false = true then a' else a) n p H (if l.getD 17 false = true then b' else b) ∧ (l.getD 7 false = true → BxT act 109 z o p w) ∧ (l.getD 16 false = true → BxT act 118 z o p w)
def SlQ : Fact := fun v _ => ∃ q d, v = .slice (some ⟨q, d, none⟩) 1 1 ∧ True
theorem stab_slq {R : World → World → Prop} : Stab R SlQ := fun _ _ _ h _ => h
section
variable {w0 w w' : World} {m n : Nat} {G H : MG} {a a' b b' : AM} {z : Int} {l : Array Bool} {act : Act} {o o' p p' : Nat → Nat} {t : Nat}
theorem FlJ.hb (h : FlJ w0 m G a a' n H b b' z l act w) : Below w0.heap.size w0 w := by
  obtain ⟨_, _, h, _⟩ := h
  exact h.hb
theorem FlJ.quiet (h : FlJ w0 m G a a' n H b b' z l act w) {i : Nat} (hi : i ≠ 7 ∧ i ≠ 8 ∧ i ≠ 16 ∧ i ≠ 17) {op : Oper} (ho : op.dst ≠ some 109 ∧ op.dst ≠ some 118) (v : Value) : FlJ w0 m G a a' n H b b' z (l.setIfInBounds i true) (act.put op.dst v) w := by
  obtain ⟨o, p, h1, h2, h3⟩ := h
  obtain ⟨i1, i2, i3, i4⟩ := hi
  refine ⟨o, p, ?_, fun k => ?_, fun k => ?_⟩
  · rw [getD_set_ne i2, getD_set_ne i4]; exact h1
  · rw [getD_set_ne i1] at k
    unfold BxT
    rw [getD_put_ne ho.1]
    exact h2 k
  · rw [getD_set_ne i3] at k
    unfold BxT
    rw [getD_put_ne ho.2]
    exact h3 k
theorem BxT.fst (h : BxT act t z o p w) (hf : MFr w w' o o') : BxT act t z o' p w' := by
  obtain ⟨q, h1, h2, h3, h4⟩ := h
  obtain ⟨g1, g2⟩ := hf.heap h2 h3
  exact ⟨q, h1, g1, g2, h4⟩
theorem BxT.snd (h : BxT act t z o p w) (hf : MFr w w' p p') : BxT act t z o p' w' := by
  obtain ⟨q, h1, h2, h3, h4⟩ := h
  obtain ⟨g1, g2⟩ := hf.heap h2 h4
  exact ⟨q, h1, g1, h3, g2⟩
theorem BxT.below (h : BxT act t z o p w) (hf : Below w.heap.size w w') : BxT act t z o p w' := by
  obtain ⟨q, h1, h2, h3, h4⟩ := h
  exact ⟨q, h1, heap_below h2 hf, h3, h4⟩
theorem BxT.put (h : BxT act t z o p w) {op : Oper} (hu : op.dst ≠ some t) (v : Value) : BxT (act.put op.dst v) t z o p w := by
  unfold BxT
  rw [getD_put_ne hu]
  exact h
end
end Go.Proofs.Ytoifejinppjeeaa
