/- Plain laws of a memory's calls: bits of a number, what a state leaves room for. No program but in the rules of '&'. -/
import Derived.Test.YtoifejinppjeeaaPmFrom
import Derived.Test.YtoifejinppjeeaaEngQ
import Derived.KernelRfl
namespace Go.Proofs.Ytoifejinppjeeaa
open Go.RowKit
set_option linter.unusedVariables false
set_option linter.unusedSimpArgs false
theorem and_mask (z : Int) (k : Nat) (hk : k ≤ 62) : ((BitVec.ofInt 64 z &&& BitVec.ofNat 64 (2 ^ k - 1)).toNat : Int) = z % (2 ^ k : Nat) := by
  have h2 : 2 ^ k ≤ 2 ^ 62 := Nat.pow_le_pow_right (by omega) hk
  have h3 : 0 < 2 ^ k := Nat.pow_pos (by omega)
  rw [BitVec.toNat_and, BitVec.toNat_ofNat, Nat.mod_eq_of_lt (by omega), Nat.and_two_pow_sub_one_eq_mod, BitVec.toNat_ofInt]
  have hd : ((2 ^ k : Nat) : Int) ∣ ((2 ^ 64 : Nat) : Int) := Int.natCast_dvd_natCast.2 (Nat.pow_dvd_pow 2 (by omega))
  have h0 : (0 : Int) ≤ z % ((2 ^ 64 : Nat) : Int) := Int.emod_nonneg _ (by omega)
  rw [Int.natCast_emod, Int.toNat_of_nonneg h0, Int.emod_emod_of_dvd _ hd]
theorem bits_k (z n : Int) (k : Nat) (hk : k ≤ 62) (hn : BitVec.ofInt 64 n = BitVec.ofNat 64 (2 ^ k - 1)) : bits .and .i64 z n = z % (2 ^ k : Nat) := by
  have h2 : 2 ^ k ≤ 2 ^ 62 := Nat.pow_le_pow_right (by omega) hk
  have h3 : 0 < 2 ^ k := Nat.pow_pos (by omega)
  have h4 := Int.emod_nonneg z (b := ((2 ^ k : Nat) : Int)) (by omega)
  have h5 := Int.emod_lt_of_pos z (b := ((2 ^ k : Nat) : Int)) (by omega)
  show IntKind.i64.wrap ((BitVec.ofInt 64 z &&& BitVec.ofInt 64 n).toNat : Int) = _
  rw [hn, and_mask z k hk, IntWalk.i64_in _ (by omega)]
theorem bits_15 (z : Int) : bits .and .i64 z 15 = z % 16 := bits_k z 15 4 (by omega) rfl
theorem bits_31 (z : Int) : bits .and .i64 z 31 = z % 32 := bits_k z 31 5 (by omega) rfl
theorem bits_1 (z : Int) : bits .and .i64 z 1 = z % 2 := bits_k z 1 1 (by omega) rfl
theorem bits_3 (z : Int) : bits .and .i64 z 3 = z % 4 := bits_k z 3 2 (by omega) rfl
attribute [go_sem] bits_15 bits_31 bits_1 bits_3
theorem pmAwake_any (w : World) : Calls Try.prog 26 #[] w fun e w' => e = .returned (.bool true) ∧ Below w.heap.size w w' :=
  Eng.isTrue_ok (by kernel_rfl) (by kernel_rfl) (lf := 5000) (d := 200) (by kernel_rfl) w
theorem newA_len (N : Nat) : (newA N).ls.length = N := fromL_len _ _
theorem newA_room (N n : Nat) : (newA N).room n := fun l hl => by
  have : l ∈ fromL (List.replicate (8 * N) 0#64) N := hl
  unfold fromL at this
  rw [List.mem_map] at this
  obtain ⟨i, _, rfl⟩ := this
  exact Nat.zero_le _
theorem newA_fit (N : Nat) : (newA N).fit := ⟨by simp [newA, fromA], by simp [newA, fromA], by simp [newA, fromA], by simp [newA, fromA]⟩
theorem newA_ln (N i : Nat) (h : i < N) : (newA N).ln i = ⟨z8, [], 0⟩ := by
  have hl : i < (newA N).ls.length := by rw [newA_len]; exact h
  rw [ln_eq hl]
  show (fromL _ _)[i]'_ = _
  have e : chunkL (List.replicate (8 * N) 0#64) i = z8 := by
    unfold chunkL z8
    rw [List.drop_replicate, List.take_replicate]
    congr 1
    omega
  simp [fromL, e]
/-- In power, no fuse laid: nothing burns. -/
theorem burn_none {a : AM} (hf : a.fuse = 0) : a.burn = (a, true) := by unfold AM.burn; rw [if_neg (by omega)]
theorem store_ok {a : AM} {z : Int} {v : BitVec 64} (ho : a.off = false) (hf : a.fuse = 0) (hh : a.has z = true) : a.store z v = (a.store1 z v, 0) := by
  unfold AM.store
  rw [if_neg (by rw [ho]; exact Bool.false_ne_true), if_neg (by rw [hh]; exact fun h => by cases h), burn_none hf, if_neg (fun h => by cases h)]
theorem flush_ok {a : AM} {zs : List Int} (ho : a.off = false) (hf : a.fuse = 0) (hh : zs.any a.none = false) : a.flush zs = ({ a with ls := flushL a.ls zs, n2 := a.n2 + 1 }, 0) := by
  unfold AM.flush
  rw [if_neg (by rw [ho]; exact Bool.false_ne_true), if_neg (by rw [hh]; exact fun h => by cases h), burn_none hf, if_neg (fun h => by cases h)]
theorem fence_ok {a : AM} (ho : a.off = false) (hf : a.fuse = 0) : a.fence = ({ a with ls := a.ls.map Ln.fence, n3 := a.n3 + 1 }, 0) := by
  unfold AM.fence
  rw [if_neg (by rw [ho]; exact Bool.false_ne_true), burn_none hf, if_neg (fun h => by cases h)]
theorem crash_on {a : AM} (ks : List Int) (ho : a.off = false) : a.crash ks = { a with off := true, fuse := 0, ls := crashL ks a.ls } := by unfold AM.crash; rw [if_neg (by rw [ho]; exact Bool.false_ne_true)]
theorem ldV_snoc (v0 : BitVec 64) (z : Int) (os : List St) (s : St) : ldV v0 z (os ++ [s]) = if s.1 = z then s.2 else ldV v0 z os := by unfold ldV; rw [List.foldl_append]; rfl
theorem set_ln {a : AM} {i : Nat} {l : Ln} {ls : List Ln} (h : ls = a.ls.set i l) (hi : i < a.ls.length) (j : Nat) : ({ a with ls := ls } : AM).ln j = if i = j then l else a.ln j := by
  subst h
  unfold AM.ln
  simp only [List.getD_eq_getElem?_getD, List.getElem?_set]
  split
  · simp [hi]
  · rfl
theorem store1_ln {a : AM} {z : Int} {v : BitVec 64} (hh : a.has z = true) (j : Nat) : (a.store1 z v).ln j = if (z / 8).toNat = j then (a.ln (z / 8).toNat).store (z % 8) v else a.ln j := by
  have := has_yes hh
  have e : (a.store1 z v).ln j = ({ a with ls := a.ls.set (z / 8).toNat ((a.ln (z / 8).toNat).store (z % 8) v) } : AM).ln j := rfl
  rw [e, set_ln rfl (by omega)]
/-- What is loaded behind a store. -/
theorem store1_at {a : AM} {z y : Int} {v : BitVec 64} (hh : a.has z = true) (hy : 0 ≤ y) : (a.store1 z v).at_ y = if z = y then v else a.at_ y := by
  have h0 := has_yes hh
  unfold AM.at_
  rw [store1_ln hh]
  by_cases h : (z / 8).toNat = (y / 8).toNat
  · rw [if_pos h, h]
    show newest _ (_ ++ [(z % 8, v)]) _ = _
    unfold newest Ln.at_ newest
    rw [if_pos (by omega)]
    rw [ldV_snoc]
    by_cases h2 : z = y
    · subst h2; rw [if_pos rfl, if_pos rfl]
    · rw [if_neg (by simp only; omega), if_neg h2, if_pos (by omega)]
      rfl
  · rw [if_neg h, if_neg (by rintro rfl; exact h rfl)]
theorem ln_get {a : AM} {i : Nat} {l : Ln} (h : a.ls[i]? = some l) : a.ln i = l := by unfold AM.ln; rw [List.getD_eq_getElem?_getD, h]; rfl
theorem get_ln {a : AM} {i : Nat} (h : i < a.ls.length) : a.ls[i]? = some (a.ln i) := by rw [ln_eq h, List.getElem?_eq_getElem h]
theorem store1_len (a : AM) (z : Int) (v : BitVec 64) : (a.store1 z v).ls.length = a.ls.length := by unfold AM.store1; simp
theorem store1_room {a : AM} {n : Nat} (h : a.room n) (z : Int) (v : BitVec 64) : (a.store1 z v).room (n + 1) := by
  intro l hl
  unfold AM.store1 at hl
  rcases List.mem_or_eq_of_mem_set hl with h1 | h1
  · have := h l h1; omega
  · subst h1
    show (_ ++ [_]).length ≤ _
    rw [List.length_append]
    have : (a.ln (z / 8).toNat).os.length ≤ n := by
      unfold AM.ln
      rw [List.getD_eq_getElem?_getD]
      cases e : a.ls[(z / 8).toNat]? with
      | none => exact Nat.zero_le _
      | some l0 => exact h l0 (List.mem_of_getElem? e)
    simp; omega
theorem room_mono {a : AM} {n k : Nat} (h : a.room n) (hk : n ≤ k) : a.room k := fun l hl => Nat.le_trans (h l hl) hk
theorem flushL_mem {P : Ln → Prop} (hP : ∀ l, P l → P l.flush) (zs : List Int) : ∀ ls : List Ln, (∀ l ∈ ls, P l) → (∀ z ∈ zs, 0 ≤ z ∧ z < (ls.length : Int)) → ∀ l ∈ flushL ls zs, P l := by
  induction zs with
  | nil => intro ls h _ l hl; exact h l hl
  | cons z zs ih =>
    intro ls h hz l hl
    refine ih (ls.set z.toNat (ls.getD z.toNat z0).flush) (fun y hy => ?_) (fun y hy => by rw [List.length_set]; exact hz y (List.mem_cons_of_mem _ hy)) l hl
    rcases List.mem_or_eq_of_mem_set hy with h1 | h1
    · exact h y h1
    · subst h1
      have := hz z (List.mem_cons_self ..)
      refine hP _ ?_
      rw [List.getD_eq_getElem?_getD, List.getElem?_eq_getElem (by omega)]
      exact h _ (List.getElem_mem _)
theorem flushL_get (zs : List Int) : ∀ (ls : List Ln) (i : Nat) (l : Ln), ls[i]? = some l → (flushL ls zs)[i]? = some l ∨ (flushL ls zs)[i]? = some l.flush := by
  induction zs with
  | nil => intro ls i l h; exact .inl h
  | cons z zs ih =>
    intro ls i l h
    have hi := (List.getElem?_eq_some_iff.1 h).1
    by_cases e : z.toNat = i
    · have h2 : (ls.set z.toNat (ls.getD z.toNat z0).flush)[i]? = some l.flush := by
        rw [List.getElem?_set, if_pos e, if_pos (by omega), e, List.getD_eq_getElem?_getD, h]; rfl
      rcases ih _ i _ h2 with h3 | h3
      · exact .inr h3
      · exact .inr h3
    · have h2 : (ls.set z.toNat (ls.getD z.toNat z0).flush)[i]? = some l := by
        rw [List.getElem?_set, if_neg e, h]
      exact ih _ i _ h2
theorem flushL_room {ls : List Ln} {n : Nat} (h : ∀ l ∈ ls, l.os.length ≤ n) (zs : List Int) : ∀ l ∈ flushL ls zs, l.os.length ≤ n := by
  intro l hl
  obtain ⟨i, hi, rfl⟩ := List.getElem_of_mem hl
  have hi2 : i < ls.length := by rw [flushL_len] at hi; exact hi
  have hm := h _ (List.getElem_mem hi2)
  rcases flushL_get zs ls i _ (List.getElem?_eq_getElem hi2) with h1 | h1
  · rw [List.getElem?_eq_getElem hi] at h1; rw [Option.some.inj h1]; exact hm
  · rw [List.getElem?_eq_getElem hi] at h1; rw [Option.some.inj h1]; exact hm
theorem fence_room {ls : List Ln} {n : Nat} (h : ∀ l ∈ ls, l.os.length ≤ n) : ∀ l ∈ ls.map Ln.fence, l.os.length ≤ n := by
  intro l hl
  rw [List.mem_map] at hl
  obtain ⟨x, hx, rfl⟩ := hl
  have := h x hx
  show (x.os.drop x.fl).length ≤ n
  rw [List.length_drop]; omega
theorem crashL_get : ∀ (ls : List Ln) (ks : List Int) (i : Nat) (l : Ln), ls[i]? = some l → ∃ z, (crashL ks ls)[i]? = some (if l.os = [] then l else l.fall z)
  | [], _, _, _, h => by simp at h
  | x :: ls, ks, 0, l, h => by
    obtain rfl : x = l := by simpa using h
    simp only [crashL]
    split
    · rename_i e; exact ⟨0, by simp [e]⟩
    · rename_i e; exact ⟨ks.headD 0, by simp [e]⟩
  | x :: ls, ks, i + 1, l, h => by
    simp only [crashL]
    split
    · obtain ⟨z, hz⟩ := crashL_get ls ks i l (by simpa using h)
      exact ⟨z, by simpa using hz⟩
    · obtain ⟨z, hz⟩ := crashL_get ls ks.tail i l (by simpa using h)
      exact ⟨z, by simpa using hz⟩
theorem lastV_or : ∀ (ws : List St) (v : BitVec 64) (i : Nat), lastV v ws i = v ∨ ∃ s ∈ ws, s.1 = (i : Int) ∧ s.2 = lastV v ws i
  | [], v, i => .inl rfl
  | x :: ws, v, i => by
    have e : lastV v (x :: ws) i = lastV (if x.1 = (i : Int) then x.2 else v) ws i := rfl
    rw [e]
    rcases lastV_or ws (if x.1 = (i : Int) then x.2 else v) i with h | ⟨s, hs, h1, h2⟩
    · by_cases hx : x.1 = (i : Int)
      · rw [if_pos hx] at h ⊢
        exact .inr ⟨x, List.mem_cons_self .., hx, h.symm⟩
      · rw [if_neg hx] at h ⊢
        exact .inl h
    · exact .inr ⟨s, List.mem_cons_of_mem _ hs, h1, h2⟩
theorem ldV_last (v : BitVec 64) (i : Nat) (os : List St) : ldV v (i : Int) os = lastV v os i := rfl
/-- The word at place j of a line. -/
theorem at_eq (l : Ln) (j : Nat) (hj : j < 8) : l.at_ (j : Int) = lastV (l.ss.getD j 0#64) l.os j := by
  unfold Ln.at_ newest
  rw [if_pos (by omega), Int.toNat_natCast]
  rfl
theorem words_get (a : AM) (i j : Nat) (hj : j < 8) (hi : i < a.ls.length) : a.words[8 * i + j]? = some ((a.ln i).at_ (j : Int)) := by
  have key : ∀ (ls : List Ln) (i : Nat) (hi : i < ls.length), (ls.flatMap Ln.words)[8 * i + j]? = some (ls[i].at_ (j : Int)) := by
    intro ls
    induction ls with
    | nil => intro i hi; simp at hi
    | cons l ls ih =>
      intro i hi
      rw [List.flatMap_cons]
      cases i with
      | zero =>
        rw [List.getElem?_append_left (by rw [lwords_len]; omega)]
        simp only [Nat.mul_zero, Nat.zero_add, List.getElem_cons_zero]
        unfold Ln.words
        rw [List.getElem?_map, List.getElem?_range hj]; rfl
      | succ i =>
        rw [List.getElem?_append_right (by rw [lwords_len]; omega), lwords_len, show 8 * (i + 1) + j - 8 = 8 * i + j by omega, ih i (by simpa using hi)]
        rfl
  rw [ln_eq hi]
  exact key a.ls i hi
end Go.Proofs.Ytoifejinppjeeaa
