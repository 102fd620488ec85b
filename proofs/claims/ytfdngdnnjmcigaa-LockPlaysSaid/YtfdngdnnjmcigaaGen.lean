/- Slices of one-cell elements of whatever kind: what can be read, what the call owns, and append onto it. No condition. -/
import Derived.Test.YtfdngdnnjmcigaaMem
import Derived.Laws.CopyOwn
namespace Go.Proofs.Ytfdngdnnjmcigaa
open Go.RowKit
set_option linter.unusedVariables false

/-- The slice's cells (address A) read as the elements xs, each laid as f says. -/
def RdF {α : Type} (f : α → Value) (w : World) (A : Option Addr) (xs : List α) : Prop :=
  xs = [] ∨ ∃ b off, A = some ⟨b, off, none⟩ ∧ ∀ k, (h : k < xs.length) → w.cell? ⟨b, off + k, none⟩ = some (f xs[k])
/-- The call's own slice of the elements xs (type e), in a block from base on. -/
def OwnF {α : Type} (f : α → Value) (e : TypeId) (w : World) (base : Nat) (A : Option Addr) (xs : List α) (c : Nat) : Prop :=
  w.ownsRow base e 1 (.slice A xs.length c) xs.length (xs.map f)
section
variable {α : Type} {f : α → Value} {e : TypeId} {w w' : World} {base : Nat} {A : Option Addr} {xs : List α} {c : Nat}
theorem RdF.below (h : RdF f w A xs) (hb : Below w.heap.size w w') : RdF f w' A xs := by
  rcases h with h | ⟨b, off, hA, hc⟩
  · exact .inl h
  · exact .inr ⟨b, off, hA, fun k hk => (hb.cell (p := ⟨b, off + k, none⟩) (cell_lt (hc k hk))).trans (hc k hk)⟩
theorem RdF.drewN (h : RdF f w A xs) (n : Nat) : RdF f (w.drewN n) A xs := h
theorem RdF.drawn (h : RdF f w A xs) (hd : Drawn w w') : RdF f w' A xs := by
  obtain ⟨n, rfl⟩ := hd
  exact h
theorem RdF.nil_ : RdF f w A [] := .inl rfl
theorem RdF.at_ (h : RdF f w A xs) {k : Nat} (hk : k < xs.length) :
    ∃ b off, A = some ⟨b, off, none⟩ ∧ ∀ j, (h : j < xs.length) → w.cell? ⟨b, off + j, none⟩ = some (f xs[j]) := by
  rcases h with h | h
  · rw [h] at hk; simp at hk
  · exact h
theorem RdF.take (h : RdF f w A xs) (k : Nat) : RdF f w A (xs.take k) := by
  rcases h with h | ⟨b, off, hA, hc⟩
  · left; rw [h]; simp
  · exact .inr ⟨b, off, hA, fun j hj => by rw [hc j (by simp at hj; omega)]; simp⟩
theorem RdF.drop {b off : Nat} (h : RdF f w (some ⟨b, off, none⟩) xs) (k : Nat) : RdF f w (some ⟨b, off + k, none⟩) (xs.drop k) := by
  rcases h with h | ⟨b', off', hA, hc⟩
  · left; rw [h]; simp
  · injection hA with hA; injection hA with h1 h2 _; subst h1 h2
    exact .inr ⟨b, off + k, rfl, fun j hj => by simp at hj; rw [Nat.add_assoc, hc (k + j) (by omega)]; simp⟩
theorem RdF.cut (h : RdF f w A xs) (hc : xs.length ≤ c) (k : Nat) : RdF f w (cutA A c k) (xs.drop k) := by
  by_cases hk : k < xs.length
  · obtain ⟨b, off, rfl, hcell⟩ := h.at_ hk
    have e : cutA (some ⟨b, off, none⟩) c k = some ⟨b, off + k, none⟩ := by
      unfold cutA; rw [if_neg (by omega)]; simp [Addr.add_lit]
    rw [e]
    exact h.drop k
  · left; rw [List.drop_eq_nil_iff]; omega
theorem RdF.rd (h : RdF f w A xs) : Rd w A (xs.map f) := by
  rcases h with h | ⟨b, off, hA, hc⟩
  · left; rw [h]; rfl
  · exact .inr ⟨b, off, hA, fun k hk => by rw [hc k (by simpa using hk)]; simp⟩
theorem Rd.elems (h : Rd w A (xs.map f)) : RdF f w A xs := by
  rcases h with h | ⟨b, off, hA, hc⟩
  · left; exact List.map_eq_nil_iff.1 h
  · exact .inr ⟨b, off, hA, fun k hk => by rw [hc k (by simpa using hk)]; simp⟩
theorem RdF.new (w : World) (xs : List α) (t : TypeId) : RdF f (w.alloc (.cells (xs.map f).toArray t)) (some ⟨w.heap.size, 0, none⟩) xs :=
  .inr ⟨w.heap.size, 0, rfl, fun k hk => by
    rw [cell_of_row _ w.heap.size (0 + k) (xs.map f).toArray t (0, 0) (heap_alloc_new w _)]
    simp [hk]⟩
theorem RdF.new1 (w : World) (x : α) (t : TypeId) : RdF f (w.alloc (.cells #[f x] t)) (some ⟨w.heap.size, 0, none⟩) [x] := RdF.new w [x] t
/-- Known cells of a block that is whole. -/
theorem RdF.kept {row : Option Nat} {B : Nat} (h : RdF f w A xs) (hg : w.grownBy w' row) (hr : ∀ k, row = some k → B ≤ k) (hA : ∀ k, blk A = some k → k < B) : RdF f w' A xs :=
  (Rd.kept h.rd hg hr hA).elems

theorem OwnF.rd (h : OwnF f e w base A xs c) : RdF f w A xs := (own_rd h).elems
theorem OwnF.cap (h : OwnF f e w base A xs c) : xs.length ≤ c ∧ c ≤ maxLen := own_cap h
theorem OwnF.below (h : OwnF f e w base A xs c) (hb : Below w.heap.size w w') : OwnF f e w' base A xs c := own_below h hb
theorem OwnF.drawn (h : OwnF f e w base A xs c) (hd : Drawn w w') : OwnF f e w' base A xs c := own_below h (hd.below _)
theorem OwnF.lt (h : OwnF f e w base A xs c) : ∀ k, blk A = some k → base ≤ k ∧ k < w.heap.size := own_lt h
theorem OwnF.nil_ (w : World) (base : Nat) : OwnF f e w base none [] 0 := World.ownsRow_nil w base _ 1
theorem OwnF.lit (w : World) (base : Nat) (xs : List α) (hb : base ≤ w.heap.size) (hm : xs.length ≤ maxLen) :
    OwnF f e (w.alloc (.cells (xs.map f).toArray e)) base (some ⟨w.heap.size, 0, none⟩) xs xs.length :=
  World.ownsRow_lit (e := e) (size := 1) (base := base) w (xs.map f).toArray xs.length hb hm (by simp)
theorem OwnF.rep (w : World) (base : Nat) (n : Nat) (x : α) (hb : base ≤ w.heap.size) (hm : n ≤ maxLen) :
    OwnF f e (w.alloc (.cells (Array.replicate n (f x)) e)) base (some ⟨w.heap.size, 0, none⟩) (List.replicate n x) n := by
  have h := OwnF.lit (f := f) (e := e) w base (List.replicate n x) hb (by simpa using hm)
  rw [List.map_replicate, List.toArray_replicate] at h
  simpa using h
theorem OwnF.form (h : OwnF f e w base A xs c) (hn : 0 < xs.length) : ∃ g, A = some ⟨g, 0, none⟩ ∧ base ≤ g ∧ g < w.heap.size := own_form h hn
theorem OwnF.cellAt {g : Nat} (h : OwnF f e w base (some ⟨g, 0, none⟩) xs c) (j : Nat) (hj : j < xs.length) : w.cell? ⟨g, j, none⟩ = some (f xs[j]) := by
  have := World.ownsRow.cellAt h j (by omega)
  rw [this]; simp [hj]
theorem OwnF.frozenAt {g : Nat} (h : OwnF f e w base (some ⟨g, 0, none⟩) xs c) (j : Nat) : w.frozen? ⟨g, j, none⟩ = false := World.ownsRow.frozenAt h j
theorem OwnF.stored {g : Nat} (h : OwnF f e w base (some ⟨g, 0, none⟩) xs c) (j : Nat) (u : α) : OwnF f e (w.setCell ⟨g, j, none⟩ (f u)) base (some ⟨g, 0, none⟩) (xs.set j u) c := by
  have := (World.ownsRow.stored h j (f u)).1
  unfold OwnF
  rw [List.length_set, List.map_set]
  exact this
/-- Another row of the call's own, or one below, has been written. -/
theorem OwnF.kept {row : Option Nat} (h : OwnF f e w base A xs c) (hg : w.grownBy w' row) (hne : blk A = none ∨ blk A ≠ row) : OwnF f e w' base A xs c := own_kept h hg hne
theorem below_appF {B : Nat} {a : World} (h : Below B a w) (ho : OwnF f e w base A xs c) (hg : w.grownBy w' (blk A)) (hB : B ≤ w.heap.size) (hb : B ≤ base) : Below B a w' :=
  h.grown hg hB (fun k hk => Nat.le_trans hb (ho.lt k hk).1)
/-- What lies below the base of a row that was appended to is as it was. -/
theorem RdF.app {β : Type} {g : β → Value} {A2 : Option Addr} {ys : List β} {c2 : Nat} (h : RdF g w A2 ys) (ho : OwnF f e w base A xs c) (hg : w.grownBy w' (blk A)) (hA : ∀ k, blk A2 = some k → k < base) : RdF g w' A2 ys :=
  h.kept hg (fun k hk => (ho.lt k hk).1) hA
end
/-- append onto a slice that the call owns (P: this program; t, e: the slice's and the element's type). -/
theorem appF {P : Program} {w : World} {α : Type} {f : α → Value} (hf : ∀ x, (f x).oneCell' = true) (t e : TypeId) (z : Value) (bytes : Nat) (hz0 : z.cells.size = 1) (hby : 0 < bytes) (hby2 : bytes ≤ 64)
    (ht : P.underlying t = some (.slice e)) (hinf : (P.info? e).map (fun i => (i.zero, i.size, i.bytes)) = some (some z, 1, bytes))
    {ops : Array Oper} {rest : List Oper} {o : Oper} {a : Act} {Q : Exit → Act → World → Prop} (s x : Operand) (hw : Region.wanted o (yielded ops a.tmps) = true)
    (ho : o.op = .call { callee := .builtin .append, args := #[s, x], argTypes := #[t, t] })
    (base : Nat) (A : Option Addr) (xs : List α) (n c : Nat) (hs : a.eval s = .slice A n c) (hn : n = xs.length) (hown : OwnF f e w base A xs c)
    (A2 : Option Addr) (ys : List α) (m c2 : Nat) (hx : a.eval x = .slice A2 m c2) (hm : m = ys.length) (hr : RdF f w A2 ys)
    (hb : xs.length + ys.length ≤ 1048576) (hbase : base ≤ w.heap.size)
    (h : ∀ A' zs c' w', zs = xs ++ ys → OwnF f e w' base A' zs c' → w.grownBy w' (blk A) → (blk A' = blk A ∨ blk A' = some w.heap.size) → Stop (wpList P ops Q rest (a.put o.dst (.slice A' zs.length c')) w')) :
    Stop (wpList P ops Q (o :: rest) a w) := by
  obtain ⟨i, hi, hi0, hi1, hi2⟩ := info_parts hinf
  subst hn hm
  have hmul : (xs.length + ys.length) * bytes ≤ 1048576 * 64 := Nat.mul_le_mul hb hby2
  refine wpList_want hw (wp_app s x _ ho base e i z 1 bytes ht hi hi0 hi1 hi2 hz0 (by omega) hby A xs.length c _ hs hown A2 ys.length c2 _ hx (by simp) hr.rd ?_ (by omega) hbase ?_)
  · intro u hu
    rw [List.mem_map] at hu
    obtain ⟨v, _, rfl⟩ := hu
    exact hf v
  · intro A' c' w' h2 h3 h4
    have h5 := h A' (xs ++ ys) c' w' rfl (by unfold OwnF; rw [List.length_append, List.map_append]; exact h2) h3 h4
    rw [List.length_append] at h5
    exact h5
/-- What a copy leaves of a row: ys from place k on, as far as the target reaches. -/
def laid {α : Type} (xs : List α) (k : Nat) (ys : List α) : List α := xs.take k ++ (ys ++ xs.drop (k + ys.length))
theorem length_laid {α : Type} (xs : List α) (k : Nat) (ys : List α) (h : k + ys.length ≤ xs.length) : (laid xs k ys).length = xs.length := by
  simp [laid]; omega
theorem laid_get {α : Type} (xs : List α) (k : Nat) (ys : List α) (h : k + ys.length ≤ xs.length) (j : Nat) (hj : j < xs.length) :
    (laid xs k ys)[j]? = if k ≤ j ∧ j < k + ys.length then ys[j - k]? else xs[j]? := by
  unfold laid
  by_cases h1 : j < k
  · rw [List.getElem?_append_left (by simp; omega), List.getElem?_take_of_lt h1, if_neg (by omega)]
  · rw [List.getElem?_append_right (by simp; omega), List.length_take, Nat.min_eq_left (by omega)]
    by_cases h2 : j < k + ys.length
    · rw [List.getElem?_append_left (by omega), if_pos (by omega)]
    · rw [List.getElem?_append_right (by omega), List.getElem?_drop, if_neg (by omega)]
      congr 1; omega
theorem run_copyF {P : Program} {w : World} {α : Type} {f : α → Value} (hf : ∀ x, (f x).oneCell' = true) (dT sT ty e : TypeId) (hu : P.underlying dT = some (.slice e)) (hsz : (P.info? e).map (·.size) = some 1)
    (base g c : Nat) (xs : List α) (hown : OwnF f e w base (some ⟨g, 0, none⟩) xs c) (k dLen dCap : Nat) (A2 : Option Addr) (ys : List α) (c2 : Nat) (hr : RdF f w A2 ys) (hk : k + dLen ≤ xs.length) :
    ∃ w', (Builtin.copy_ #[dT, sT] ty #[.slice (some ⟨g, k, none⟩) dLen dCap, .slice A2 ys.length c2]).run P w = .ok (goInt ((min ys.length dLen : Nat) : Int)) w' ∧
      OwnF f e w' base (some ⟨g, 0, none⟩) (laid xs k (ys.take dLen)) c ∧ w.grownBy w' (some g) := by
  by_cases h0 : min ys.length dLen = 0
  · refine ⟨w, ?_, ?_, ⟨rfl, rfl, rfl, Nat.le_refl _, fun _ _ _ => rfl⟩⟩
    · rw [h0]
      exact run_copy_none (P := P) w dT sT ty e _ _ dLen dCap ys.length c2 hu hsz h0
    · have e : ys.take dLen = [] := by apply List.eq_nil_of_length_eq_zero; rw [List.length_take]; omega
      rw [e]
      have : laid xs k [] = xs := by simp [laid]
      rw [this]
      exact hown
  · obtain ⟨b, off, rfl, hc⟩ := hr.at_ (k := 0) (by omega)
    rcases hown.2 with ⟨hv, _⟩ | ⟨g', cap, cur, hv, hg, hh, hnc, hcm, hcs, ht⟩
    · injection hv with hv; cases hv
    · injection hv with hv _ hv2
      injection hv with hv
      injection hv with hv
      subst hv hv2
      rw [Nat.mul_one] at hcs
      have hcl : cur.toList.length = c := by rw [Array.length_toList]; exact hcs
      rw [Nat.mul_one] at ht
      have hl : ((ys.take dLen).map f).length = min ys.length dLen := by rw [List.length_map, List.length_take, Nat.min_comm]
      have hrun := run_copy_row (P := P) w dT sT ty e g k dLen dCap ⟨b, off, none⟩ ys.length c2 cur e ((ys.take dLen).map f) hu hsz hh hl
        (fun j v hj => by
          have hjl : j < ((ys.take dLen).map f).length := by
            rcases Nat.lt_or_ge j ((ys.take dLen).map f).length with h | h
            · exact h
            · rw [List.getElem?_eq_none h] at hj; cases hj
          rw [Addr.add_lit, hc j (by rw [hl] at hjl; omega), ← hj, List.getElem?_eq_getElem hjl]
          simp) (by rw [hl]; omega) (fun u hu => by
          rw [List.mem_map] at hu
          obtain ⟨v, _, rfl⟩ := hu
          exact hf v)
      rw [hl] at hrun
      refine ⟨_, hrun, ?_, ⟨rfl, rfl, rfl, by simp [World.setRow], fun j _ hj => setRow_other w g j _ (fun e => hj (by rw [e]))⟩⟩
      have hkl : k + (ys.take dLen).length ≤ xs.length := by rw [List.length_take]; omega
      unfold OwnF
      rw [length_laid _ _ _ hkl]
      refine ⟨by rw [List.length_map, length_laid _ _ _ hkl, Nat.mul_one], .inr ⟨g, c, _, rfl, hg, setRow_heap w g cur _ e _ hh, hnc, hcm, ?_, ?_⟩⟩
      · simp only [List.size_toArray, List.length_append, List.length_take, List.length_drop, List.length_map, hcl, Nat.mul_one]
        omega
      · rw [Nat.mul_one]
        have hsplit : cur.toList = xs.map f ++ cur.toList.drop xs.length := by rw [← ht, List.take_append_drop]
        have hl2 : (xs.map f).length = xs.length := List.length_map _
        have e1 : cur.toList.take k = (xs.map f).take k := by
          rw [hsplit, List.take_append_of_le_length (by rw [hl2]; omega)]
        have e2 : cur.toList.drop (k + min ys.length dLen) = (xs.map f).drop (k + min ys.length dLen) ++ cur.toList.drop xs.length := by
          conv => lhs; rw [hsplit]
          rw [List.drop_append_of_le_length (by rw [hl2]; omega)]
        simp only []
        rw [e1, e2]
        have e3 : (laid xs k (ys.take dLen)).map f = (xs.map f).take k ++ ((ys.take dLen).map f ++ (xs.map f).drop (k + min ys.length dLen)) := by
          unfold laid
          rw [List.map_append, List.map_append, List.map_take, List.map_drop, List.length_take, Nat.min_comm dLen]
        rw [e3, ← List.append_assoc ((xs.map f).take k ++ (ys.take dLen).map f), List.append_assoc ((xs.map f).take k)]
        apply List.take_left'
        simp only [List.length_append, List.length_take, List.length_drop, List.length_map]
        omega
theorem wp_copyF {P : Program} {w : World} {α : Type} {f : α → Value} (hf : ∀ x, (f x).oneCell' = true) {o : Oper} {a : Act} {K : Act → World → Prop} {Q : Exit → Act → World → Prop} (d s : Operand) (dT sT : TypeId)
    (ho : o.op = .call { callee := .builtin .copy, args := #[d, s], argTypes := #[dT, sT] }) (e : TypeId) (hu : P.underlying dT = some (.slice e)) (hsz : (P.info? e).map (·.size) = some 1)
    (base g c : Nat) (xs : List α) (hown : OwnF f e w base (some ⟨g, 0, none⟩) xs c) (k dLen dCap : Nat) (hd : a.eval d = .slice (some ⟨g, k, none⟩) dLen dCap)
    (A2 : Option Addr) (ys : List α) (m c2 : Nat) (hs : a.eval s = .slice A2 m c2) (hm : m = ys.length) (hr : RdF f w A2 ys) (hk : k + dLen ≤ xs.length)
    (h : ∀ w', OwnF f e w' base (some ⟨g, 0, none⟩) (laid xs k (ys.take dLen)) c → w.grownBy w' (some g) → K (a.put o.dst (goInt ((min ys.length dLen : Nat) : Int))) w') : o.wp P a w K Q := by
  subst hm
  obtain ⟨w', hrun, h2, h3⟩ := run_copyF (P := P) hf dT sT o.type e hu hsz base g c xs hown k dLen dCap A2 ys c2 hr hk
  unfold Oper.wp
  simp only [execOp, ho, resolve, invoke, builtin, Sem.run_bind, Sem.run_pure, Result.andThen_ok, List.map_toArray, List.map_cons, List.map_nil, hd, hs, hrun]
  exact h w' h2 h3
theorem step_copyF {P : Program} {w : World} {α : Type} {f : α → Value} (hf : ∀ x, (f x).oneCell' = true) {ops : Array Oper} {o : Oper} {a : Act} {K : Act → World → Prop} {Q : Exit → Act → World → Prop} {E : Prop} (d s : Operand) (dT sT : TypeId) (hw : Region.wanted o (yielded ops a.tmps) = true)
    (ho : o.op = .call { callee := .builtin .copy, args := #[d, s], argTypes := #[dT, sT] }) (e : TypeId) (hu : P.underlying dT = some (.slice e)) (hsz : (P.info? e).map (·.size) = some 1)
    (base g c : Nat) (xs : List α) (hown : OwnF f e w base (some ⟨g, 0, none⟩) xs c) (k dLen dCap : Nat) (hd : a.eval d = .slice (some ⟨g, k, none⟩) dLen dCap)
    (A2 : Option Addr) (ys : List α) (m c2 : Nat) (hs : a.eval s = .slice A2 m c2) (hm : m = ys.length) (hr : RdF f w A2 ys) (hk : k + dLen ≤ xs.length)
    (h : ∀ w', OwnF f e w' base (some ⟨g, 0, none⟩) (laid xs k (ys.take dLen)) c → w.grownBy w' (some g) → K (a.put o.dst (goInt ((min ys.length dLen : Nat) : Int))) w') :
    if Region.wanted o (yielded ops a.tmps) = true then Oper.wp P o a w K Q else E := by
  rw [if_pos hw]
  exact wp_copyF hf d s dT sT ho e hu hsz base g c xs hown k dLen dCap hd A2 ys m c2 hs hm hr hk h
theorem RdU_F {w : World} {A : Option Addr} {xs : List (BitVec 64)} : RdU w A xs ↔ RdF U w A xs := Iff.rfl
theorem infoY : (Try.prog.info? 5).map (fun i => (i.zero, i.size, i.bytes)) = some (some (.int .u8 0), 1, 1) := by kernel_rfl

/-! ### Bytes -/
/-- A byte in a slot. -/
def Y (v : BitVec 8) : Value := .int .u8 (v.toNat : Int)
theorem Y_wrap (n : Int) : Value.int .u8 (IntKind.u8.wrap n) = Y (BitVec.ofInt 8 n) := by
  unfold Y; congr 1
  simp [IntKind.wrap, IntKind.bits, IntKind.signed, BitVec.toNat_ofInt]; omega
theorem Y_lit (n : Int) (h0 : 0 ≤ n) (h1 : n < 256) : Value.int .u8 n = Y (BitVec.ofInt 8 n) := by
  rw [← Y_wrap]; congr 1; simp [IntKind.wrap, IntKind.bits, IntKind.signed]; omega
theorem Y_inj {a b : BitVec 8} : Y a = Y b ↔ a = b := by
  constructor
  · intro h; injection h with _ h; exact BitVec.toNat_inj.1 (Int.ofNat_inj.1 h)
  · intro h; rw [h]
theorem eqGuard_at_Y (op : BinOp) (t : TypeId) (x y : Operand) (a : BitVec 8) (v : Value) : eqGuard op t x y (Y a) v = pure () := by cases op <;> rfl
theorem Y_ne_agg (a : BitVec 8) (cs : Array Value) : (Y a = Value.agg cs) = False := by
  apply eq_false; intro h; cases h
theorem cells_Y (a : BitVec 8) : (Y a).cells = #[Y a] := rfl
theorem oneCell_Y (a : BitVec 8) : (Y a).oneCell' = true := rfl
theorem run_store_Y {P : Program} {w : World} (a : BitVec 8) (p : Addr) (m : Mode) : (store p (Y a) m).run P w = stored P w p (Y a) m := run_store P w p _ m rfl
theorem binOp_eql_Y (t : TypeId) (a b : BitVec 8) : binOp .eql t (Y a) (Y b) = pure (.bool (a == b)) := by
  show pure (Value.bool ((a.toNat : Int) == (b.toNat : Int))) = _
  congr 2; rw [Bool.eq_iff_iff, beq_iff_eq, beq_iff_eq, Int.ofNat_inj]; exact BitVec.toNat_inj
section
variable {P : Program} (w : World)
theorem run_convert_UY (a : BitVec 64) (src dst : TypeId) (hs : (P.underlying src).isSome = true) (hd : P.underlying dst = some (.int .u8)) :
    (convert src dst (U a)).run P w = .ok (Y (a.setWidth 8)) w := by
  have h := run_convert_Uy (P := P) w a src dst hs hd
  rw [h]
  unfold Y
  rw [BitVec.toNat_setWidth]
theorem run_convert_YU (a : BitVec 8) (src dst : TypeId) (hs : (P.underlying src).isSome = true) (hd : P.underlying dst = some (.int .u64)) :
    (convert src dst (Y a)).run P w = .ok (U (a.setWidth 64)) w := by
  have h := run_convert_toU (P := P) w src dst .u8 (a.toNat : Int) hs hd
  unfold Y
  rw [h]
  congr 2
  apply BitVec.eq_of_toNat_eq
  have hlt := a.isLt
  rw [BitVec.toNat_setWidth, BitVec.ofInt_natCast, BitVec.toNat_ofNat]
end
/-- A numeral shifted to the right. -/
theorem U_div (m : Int) (k : Nat) (h0 : 0 ≤ m) (h1 : m < 18446744073709551616) : Value.int .u64 (m / 2 ^ k) = U (BitVec.ofInt 64 m >>> k) := by
  obtain ⟨M, rfl⟩ := Int.eq_ofNat_of_zero_le h0
  unfold U
  congr 1
  rw [BitVec.toNat_ushiftRight, BitVec.ofInt_natCast, BitVec.toNat_ofNat, Nat.mod_eq_of_lt (by omega), Nat.shiftRight_eq_div_pow]
  simp
attribute [go_sem] U_div eqGuard_at_Y Y_ne_agg cells_Y oneCell_Y run_store_Y binOp_eql_Y run_convert_UY run_convert_YU
end Go.Proofs.Ytfdngdnnjmcigaa
