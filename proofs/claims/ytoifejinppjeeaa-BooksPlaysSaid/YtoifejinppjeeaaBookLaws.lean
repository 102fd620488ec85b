/- What a book's calls do to a memory, and tell of it. Plain laws; no program in sight. -/
import Derived.Test.YtoifejinppjeeaaSpanFrame
import Derived.Test.YtoifejinppjeeaaRedoGet
import Derived.Test.YtoifejinppjeeaaMemAll
namespace Go.Proofs.Ytoifejinppjeeaa
open Go.RowKit
set_option linter.unusedVariables false
set_option linter.unusedSimpArgs false
def bkV (m : Nat) (f n c : Int) : Value := .agg #[.pointer (some ⟨m, 0, none⟩), .int .i64 f, .int .i64 n, .int .i64 c]
/-- A record's words, none where it has too many writes. -/
def recX (num : BitVec 64) (ws : List (Int × BitVec 64)) : List (BitVec 64) := if 400 < ws.length then [] else recW num ws
theorem recX_len (num : BitVec 64) (ws : List (Int × BitVec 64)) : (recX num ws).length ≤ 803 := by
  unfold recX recW
  split
  · exact Nat.zero_le _
  · split
    · exact Nat.zero_le _
    · rw [List.length_append, recL_len]; simp; omega
def AM.keepB (a : AM) (f n : Int) (num : BitVec 64) (ws : List (Int × BitVec 64)) : AM × Int :=
  if (recX num ws).length = 0 ∨ 8 * n - 8 < ((recX num ws).length : Int) then (a, 1)
  else if (a.word f n 0).2 ≠ 0 then (a, (a.word f n 0).2)
  else if (a.word f n 0).1 ≠ 0#64 then (a, 15)
  else if (a.push f n 8 (recX num ws)).2 ≠ 0 then a.push f n 8 (recX num ws)
  else (a.push f n 8 (recX num ws)).1.push f n 0 [num]
/-- What a book's words tell. -/
def readR (l : List (BitVec 64)) : Option (BitVec 64 × List (Int × BitVec 64)) :=
  if l.length ≤ 8 ∨ l.getD 0 0#64 = 0#64 then none
  else match getR (l.drop 8) with
    | none => none
    | some r => if r.1 = l.getD 0 0#64 then some r else none
def rtell (l : List (BitVec 64)) : BitVec 64 × List (Int × BitVec 64) := (readR l).getD (0#64, [])
theorem readR_zero {l : List (BitVec 64)} (h : l.getD 0 0#64 = 0#64) : readR l = none := by unfold readR; rw [if_pos (.inr h)]
theorem readR_few {l : List (BitVec 64)} (h : l.length ≤ 8) : readR l = none := by unfold readR; rw [if_pos (.inl h)]
/-- A mark, and behind it the record: it is read. -/
theorem readR_rec {l rest : List (BitVec 64)} {num : BitVec 64} {ws : List (Int × BitVec 64)} (h0 : l.getD 0 0#64 = num) (hd : l.drop 8 = recW num ws ++ rest) (hw : recW num ws ≠ []) (hn : ws.length ≤ 400) : readR l = some (num, ws) := by
  have hc : ¬ (num = 0#64 ∨ ws.any badW = true) := fun h => hw (by unfold recW; rw [if_pos h])
  have hz : num ≠ 0#64 := fun h => hc (.inl h)
  have hb : ws.any badW = false := by
    cases h : ws.any badW with
    | false => rfl
    | true => exact absurd (.inr h) hc
  have hl : ¬ l.length ≤ 8 := fun h => by
    have e : (l.drop 8).length = 0 := by rw [List.length_drop]; omega
    rw [hd, List.length_append] at e
    exact hw (List.length_eq_zero_iff.1 (by omega))
  have hg : getR (l.drop 8) = some (num, ws) := by
    rw [hd]
    unfold recW
    rw [if_neg hc]
    exact getR_back num ws rest hn hz hb
  unfold readR
  rw [if_neg (by rw [h0]; exact fun h => h.elim hl hz), hg]
  simp only
  rw [if_pos h0.symm]
theorem below_drew {B : Nat} {a w : World} (h : Below B a w) (n : Nat) : Below B a (w.drewN n) := h.trans ((Drawn.some_ w n).below B)
/-- Writes that can be read do not lie in a result's own two cells. -/
theorem RdW.two {w : World} {S : Nat} {T : TypeId} {B : Option Addr} {ws : List (Int × BitVec 64)} (h : RdW w B ws) (hS : w.heap[S]? = some (.cells #[.int .u64 0, .slice none 0 0] T (0, 0))) (n : Nat) (v1 v2 : Value) :
    RdW (((w.drewN n).setCell ⟨S, 0, none⟩ v1).setCell ⟨S, 1, none⟩ v2) B ws := by
  rcases h with h | ⟨b, off, rfl, hc⟩
  · exact .inl h
  by_cases hw : ws = []
  · exact .inl hw
  have hne : b ≠ S := by
    rintro rfl
    obtain ⟨h1, _⟩ := hc 0 (List.length_pos_iff.2 hw)
    have hx := Lib.cell_of_heap hS (off + 0 * 2)
    rw [h1] at hx
    generalize off + 0 * 2 = i at hx
    match i with
    | 0 => simp at hx
    | 1 => simp at hx
    | i + 2 => simp at hx
  refine .inr ⟨b, off, rfl, fun k hk => ?_⟩
  have hb : (((w.drewN n).setCell ⟨S, 0, none⟩ v1).setCell ⟨S, 1, none⟩ v2).heap[b]? = w.heap[b]? :=
    (Below.heap_setCell _ _ _ _ (by simpa using hne)).trans (Below.heap_setCell _ _ _ _ (by simpa using hne))
  obtain ⟨h1, h2⟩ := hc k hk
  exact ⟨(World.cell?_of_block hb).trans h1, (World.cell?_of_block hb).trans h2⟩
/-- In terms of what Get tells of the words behind the mark. -/
theorem rdGet_sum (l : List (BitVec 64)) (h1 : ¬ l.length ≤ 8) (h2 : l.getD 0 0#64 ≠ 0#64) :
    ((getR (l.drop 8)).isSome = false → readR l = none) ∧ ((getR (l.drop 8)).isSome = true → (gtell (l.drop 8)).1 ≠ l.getD 0 0#64 → readR l = none) ∧ ((getR (l.drop 8)).isSome = true → (gtell (l.drop 8)).1 = l.getD 0 0#64 → readR l = some (gtell (l.drop 8))) := by
  have e : readR l = match getR (l.drop 8) with | none => none | some r => if r.1 = l.getD 0 0#64 then some r else none := by
    unfold readR
    rw [if_neg (fun h => h.elim h1 h2)]
  rw [e]
  cases h : getR (l.drop 8) with
  | none => exact ⟨fun _ => rfl, (fun h => by cases h), (fun h => by cases h)⟩
  | some r =>
    have eg : gtell (l.drop 8) = r := by unfold gtell; rw [h]; rfl
    rw [eg]
    exact ⟨fun h => (by cases h), fun _ hne => if_neg hne, fun _ he => if_pos he⟩
end Go.Proofs.Ytoifejinppjeeaa
namespace Go.Proofs.Ytoifejinppjeeaa
open Go.RowKit
set_option linter.unusedVariables false
set_option linter.unusedSimpArgs false
section
variable {N F M t : Nat} {W : Nat → BitVec 64} {fz : Prop} {a : AM} {us : List (BitVec 64)}
theorem Rg.free {lo hi lo' hi' : Nat} (hc : Clean a) (h : Rg lo hi W N fz a) : Rg lo' hi' W N fz a :=
  ⟨h.len, h.on, h.ss, h.plc, fun i hi hne => absurd (hc i (by rw [h.len]; exact hi)) hne, h.wd, h.fz, h.f0⟩
theorem Clean.pw {lo hi : Nat} (hc : Clean a) (h : Rg lo hi W N fz a) : PW (fun p v => p < 8 * N → v = W p) a := fun i hi => by
  have hiN : i < N := by rw [← h.len]; exact hi
  refine ⟨h.ss i hiN, fun j hj hp => ?_, fun s hs => ?_, fun s hs => ?_⟩
  · rw [← h.wd _ hp, at_word, show (8 * i + j) / 8 = i by omega, show (8 * i + j) % 8 = j by omega, at_eq _ _ hj, hc i hi]
    rfl
  · rw [hc i hi] at hs; cases hs
  · rw [hc i hi] at hs; cases hs
/-- A push, whatever fall comes. -/
theorem push_law (hc : Clean a) (h : Rg 1 0 W N fz a) (hF : F + M ≤ N) (ht : t + us.length ≤ 8 * M) (hu : 0 < us.length) :
    ((a.push F M (t : Int) us).2 = 14 ∧ (a.push F M (t : Int) us).1.off = true ∧ Clean (a.push F M (t : Int) us).1 ∧ (fz → False) ∧ (a.push F M (t : Int) us).1.fuse = 0 ∧ ∀ p, p < 8 * N → (a.push F M (t : Int) us).1.at_ (p : Int) = W p ∨ (8 * F + t ≤ p ∧ p < 8 * F + t + us.length ∧ (a.push F M (t : Int) us).1.at_ (p : Int) = us.getD (p - (8 * F + t)) 0#64)) ∨
    ((a.push F M (t : Int) us).2 = 0 ∧ Clean (a.push F M (t : Int) us).1 ∧ Rg 1 0 (wrW W (8 * F + t) us) N fz (a.push F M (t : Int) us).1) := by
  rcases (Rg.free (lo' := F + t / 8) (hi' := F + (t + us.length - 1) / 8) hc h).push hF ht hu with ⟨h1, h2, h3, h4, h5⟩ | h1
  · refine .inl ⟨h1, h2, h3, h4, h5, fun p hp => ?_⟩
    have hp0 : PW (fun p v => p < 8 * N → v = W p ∨ (8 * F + t ≤ p ∧ p < 8 * F + t + us.length ∧ v = us.getD (p - (8 * F + t)) 0#64)) a := (hc.pw h).mono fun p v hv hp => .inl (hv hp)
    have hp1 := hp0.push (us := us) (f := F) (n := M) (t := t) fun q hq _ => .inr ⟨by omega, by omega, by
      rw [show 8 * F + t + q - (8 * F + t) = q by omega, List.getD_eq_getElem?_getD, List.getElem?_eq_getElem hq]; rfl⟩
    exact hp1.word p (by rw [push_len, h.len]; exact hp) hp
  · exact .inr h1
theorem wrW_at {p : Nat} (h : 8 * F + t ≤ p ∧ p < 8 * F + t + us.length) : wrW W (8 * F + t) us p = us.getD (p - (8 * F + t)) 0#64 := if_pos h
theorem wrW_off {p : Nat} (h : ¬ (8 * F + t ≤ p ∧ p < 8 * F + t + us.length)) : wrW W (8 * F + t) us p = W p := if_neg h
/-- What is kept, or part of it: a mark only where all of the record is. -/
theorem keep_law {num : BitVec 64} {ws : List (Int × BitVec 64)} (hc : Clean a) (h : Rg 1 0 W N fz a) (hF : F + M ≤ N) (hl : 8 + (recX num ws).length ≤ 8 * M) (h0 : 0 < (recX num ws).length) (hm : W (8 * F) = 0#64) :
    ((a.keepB F M num ws).2 = 14 ∧ (a.keepB F M num ws).1.off = true ∧ Clean (a.keepB F M num ws).1 ∧ (fz → False) ∧ (a.keepB F M num ws).1.fuse = 0 ∧ (a.keepB F M num ws).1.ls.length = N ∧
      ((a.keepB F M num ws).1.at_ ((8 * F : Nat) : Int) = 0#64 ∨ (a.keepB F M num ws).1.at_ ((8 * F : Nat) : Int) = num ∧ ∀ q, q < (recX num ws).length → (a.keepB F M num ws).1.at_ ((8 * F + 8 + q : Nat) : Int) = (recX num ws).getD q 0#64)) ∨
    ((a.keepB F M num ws).2 = 0 ∧ Clean (a.keepB F M num ws).1 ∧ Rg 1 0 (wrW (wrW W (8 * F + 8) (recX num ws)) (8 * F + 0) [num]) N fz (a.keepB F M num ws).1) := by
  have hwd := h.word (f := F) (n := M) (t := 0) hF (by omega)
  rw [Nat.add_zero, hm] at hwd
  have hwd : a.word F M 0 = (0#64, 0) := hwd
  have e : a.keepB F M num ws = if (a.push F M 8 (recX num ws)).2 ≠ 0 then a.push F M 8 (recX num ws) else (a.push F M 8 (recX num ws)).1.push F M 0 [num] := by
    unfold AM.keepB
    rw [if_neg (by omega), hwd, if_neg (fun h => h rfl), if_neg (fun h => h rfl)]
  rw [e]
  generalize recX num ws = us at *
  have hp := push_law (t := 8) (us := us) hc h hF (by omega) h0
  have e8 : ((8 : Nat) : Int) = 8 := rfl
  rw [e8] at hp
  rcases hp with ⟨h1, h2, h3, h4, h5, h6⟩ | ⟨h1, h2, h3⟩
  · rw [if_pos (by rw [h1]; decide)]
    refine .inl ⟨h1, h2, h3, h4, h5, (push_len _ _ _ _ _).trans h.len, .inl ?_⟩
    rcases h6 (8 * F) (by omega) with g | ⟨g, _⟩
    · rw [g, hm]
    · omega
  · rw [if_neg (by rw [h1]; exact fun h => h rfl)]
    generalize (a.push F M 8 us).1 = b at *
    have hp := push_law (t := 0) (us := [num]) h2 h3 hF (by simp; omega) (by simp)
    have e0 : ((0 : Nat) : Int) = 0 := rfl
    rw [e0] at hp
    rcases hp with ⟨g1, g2, g3, g4, g5, g6⟩ | ⟨g1, g2, g3⟩
    · refine .inl ⟨g1, g2, g3, g4, g5, (push_len _ _ _ _ _).trans h3.len, ?_⟩
      have hr : ∀ q, q < us.length → (b.push F M 0 [num]).1.at_ ((8 * F + 8 + q : Nat) : Int) = us.getD q 0#64 := fun q hq => by
        rcases g6 (8 * F + 8 + q) (by omega) with k | ⟨k1, k2, _⟩
        · rw [k, wrW_at ⟨by omega, by omega⟩, show 8 * F + 8 + q - (8 * F + 8) = q by omega]
        · simp at k2; omega
      rcases g6 (8 * F) (by omega) with k | ⟨k1, k2, k3⟩
      · left
        rw [k, wrW_off (by omega), hm]
      · right
        refine ⟨?_, hr⟩
        rw [k3, Nat.add_zero, Nat.sub_self]; rfl
    · exact .inr ⟨g1, g2, g3⟩
/-! ### What is read -/
theorem allOf_at (a : AM) (F M i : Nat) (h : i < 8 * M) : (a.allOf F (8 * M))[i]? = some (a.at_ ((8 * F + i : Nat) : Int)) := by
  unfold AM.allOf
  rw [List.getElem?_map, List.getElem?_range h]
  rfl
theorem read_zero (h : a.at_ ((8 * F : Nat) : Int) = 0#64) : readR (a.allOf F (8 * M)) = none := by
  by_cases hM : 8 * M ≤ 8
  · exact readR_few (by rw [allOf_len]; exact hM)
  · refine readR_zero ?_
    rw [List.getD_eq_getElem?_getD, allOf_at a F M 0 (by omega), Nat.add_zero, h]; rfl
theorem read_rec {num : BitVec 64} {ws : List (Int × BitVec 64)} (hl : 8 + (recX num ws).length ≤ 8 * M) (h0 : 0 < (recX num ws).length) (h : a.at_ ((8 * F : Nat) : Int) = num) (hr : ∀ q, q < (recX num ws).length → a.at_ ((8 * F + 8 + q : Nat) : Int) = (recX num ws).getD q 0#64) :
    readR (a.allOf F (8 * M)) = some (num, ws) := by
  have hn : ws.length ≤ 400 := by
    have : ¬ 400 < ws.length := fun hn => by unfold recX at h0; rw [if_pos hn] at h0; simp at h0
    omega
  have e : recX num ws = recW num ws := by unfold recX; rw [if_neg (by omega)]
  rw [e] at hl h0 hr
  refine readR_rec (rest := (a.allOf F (8 * M)).drop (8 + (recW num ws).length)) ?_ ?_ (fun e => by rw [e] at h0; simp at h0) hn
  · rw [List.getD_eq_getElem?_getD, allOf_at a F M 0 (by omega), Nat.add_zero, h]; rfl
  · apply List.ext_getElem?
    intro i
    rw [List.getElem?_drop]
    by_cases hi : i < (recW num ws).length
    · rw [List.getElem?_append_left hi, allOf_at a F M (8 + i) (by omega), ← Nat.add_assoc, hr i hi, List.getD_eq_getElem?_getD, List.getElem?_eq_getElem hi]; rfl
    · rw [List.getElem?_append_right (by omega), List.getElem?_drop]
      congr 1; omega
/-- Kept, without a fall. -/
theorem keep_read {num : BitVec 64} {ws : List (Int × BitVec 64)} (h : Rg 1 0 (wrW (wrW W (8 * F + 8) (recX num ws)) (8 * F + 0) [num]) N fz a) (hF : F + M ≤ N) (hl : 8 + (recX num ws).length ≤ 8 * M) (h0 : 0 < (recX num ws).length) : readR (a.allOf F (8 * M)) = some (num, ws) := by
  refine read_rec hl h0 ?_ fun q hq => ?_
  · rw [h.wd (8 * F) (by omega), wrW_at ⟨by omega, by simp⟩, Nat.add_zero, Nat.sub_self]; rfl
  · rw [h.wd (8 * F + 8 + q) (by omega), wrW_off (by simp; omega), wrW_at ⟨by omega, by omega⟩, show 8 * F + 8 + q - (8 * F + 8) = q by omega]
end
end Go.Proofs.Ytoifejinppjeeaa
namespace Go.Proofs.Ytoifejinppjeeaa
open Go.RowKit
set_option linter.unusedVariables false
set_option linter.unusedSimpArgs false
def finA (a : AM) (ks : List Int) : AM := ((a.setFuse 0 []).crash ks).on
structure FallR (num : BitVec 64) (ws : List (Int × BitVec 64)) (ks : List Int) (clr : Bool) (a : AM) (e : Int) : Prop where
  e0 : (e = 0 ∧ a.off = false ∧ readR ((finA a ks).allOf 1 64) = if clr = true then none else some (num, ws)) ∨ (e = 14 ∧ a.off = true ∧ (readR ((finA a ks).allOf 1 64) = none ∨ readR ((finA a ks).allOf 1 64) = some (num, ws)))
  clean : Clean a
  len : a.ls.length = 10
theorem setFuse_ls (a : AM) (z : Int) (ks : List Int) : (a.setFuse z ks).ls = a.ls := by unfold AM.setFuse; split <;> rfl
theorem setFuse_off (a : AM) (z : Int) (ks : List Int) : (a.setFuse z ks).off = a.off := by unfold AM.setFuse; split <;> rfl
theorem finA_ls {a : AM} (h : Clean a) (ks : List Int) : (finA a ks).ls = a.ls := by
  show ((a.setFuse 0 []).crash ks).ls = _
  rw [Clean.crash (h.of_ls (setFuse_ls _ _ _)) ks, setFuse_ls]
theorem finA_off (a : AM) (ks : List Int) : (finA a ks).off = false := rfl
theorem allOf_ls {a b : AM} (h : b.ls = a.ls) (f : Int) (m : Nat) : b.allOf f m = a.allOf f m := by
  unfold AM.allOf
  congr 1
  funext i
  exact at_of_ls h _
theorem setFuse_rg {lo hi N : Nat} {W : Nat → BitVec 64} {fz : Prop} {a : AM} (h : Rg lo hi W N fz a) (z : Int) (ks : List Int) : Rg lo hi W N False (a.setFuse z ks) := by
  have e : a.setFuse z ks = { a with fuse := max z 0, keep := ks } := by unfold AM.setFuse; rw [if_neg (by rw [h.on]; exact Bool.false_ne_true)]
  rw [e]
  exact ⟨h.len, h.on, h.ss, h.plc, h.opn, h.wd, (fun h => h.elim), by show 0 ≤ max z 0; omega⟩
theorem AM.cnt.setFuse {a : AM} {N : Nat} (h : a.cnt N) (z : Int) (ks : List Int) (hz : z ≤ 9223372036854775807) : (a.setFuse z ks).cnt N := by
  unfold AM.setFuse
  split
  · exact h
  · exact ⟨by show max z 0 ≤ _; omega, h.c1, h.c2, h.c3⟩
theorem AM.cnt.keepB {a : AM} {N : Nat} (h : a.cnt N) (f n : Int) (num : BitVec 64) (ws : List (Int × BitVec 64)) : (a.keepB f n num ws).1.cnt (N + 1000) := by
  have hl := recX_len num ws
  unfold AM.keepB
  split
  · exact h.mono (by omega)
  · split
    · exact h.mono (by omega)
    · split
      · exact h.mono (by omega)
      · split
        · exact (h.push _ _ _ _).mono (by omega)
        · exact ((h.push _ _ _ _).push _ _ _ _).mono (by simp; omega)
section
variable {num : BitVec 64} {ws : List (Int × BitVec 64)} {ks : List Int} {z : Int}
theorem recX_good (h0 : num ≠ 0#64) (hn : ws.length ≤ 20) (hb : ws.any badW = false) : (recX num ws).length = 3 + 2 * ws.length := by
  unfold recX recW
  rw [if_neg (by omega), if_neg (by rw [hb]; simp; exact h0), List.length_append, recL_len]
  simp; omega
theorem zeroW (n p : Nat) : Wl (List.replicate n 0#64) p = 0#64 := by
  unfold Wl
  rw [List.getD_eq_getElem?_getD, List.getElem?_replicate]
  split <;> rfl
theorem fall_keep (h0 : num ≠ 0#64) (hn : ws.length ≤ 20) (hb : ws.any badW = false) : FallR num ws ks false (((newA 10).setFuse z ks).keepB 1 8 num ws).1 (((newA 10).setFuse z ks).keepB 1 8 num ws).2 := by
  have hl := recX_good h0 hn hb
  have hrg := setFuse_rg (fromA_rg 1 0 (List.replicate (8 * 10) 0#64) 10 (by simp)) z ks
  have hcl : Clean ((newA 10).setFuse z ks) := (fromA_clean _ _).of_ls (setFuse_ls _ _ _)
  have hk := keep_law (F := 1) (M := 8) (num := num) (ws := ws) hcl hrg (by omega) (by omega) (by omega) (zeroW _ _)
  have e1 : ((1 : Nat) : Int) = 1 := rfl
  have e8 : ((8 : Nat) : Int) = 8 := rfl
  rw [e1, e8] at hk
  rcases hk with ⟨k1, k2, k3, _, k5, k6, k7⟩ | ⟨k1, k2, k3⟩
  · refine ⟨.inr ⟨k1, k2, ?_⟩, k3, k6⟩
    rw [allOf_ls (finA_ls k3 ks)]
    rcases k7 with k7 | ⟨k7, k8⟩
    · exact .inl (read_zero (F := 1) (M := 8) k7)
    · exact .inr (read_rec (F := 1) (M := 8) (by omega) (by omega) k7 k8)
  · refine ⟨.inl ⟨k1, k3.on, ?_⟩, k2, k3.len⟩
    rw [allOf_ls (finA_ls k2 ks), if_neg Bool.false_ne_true]
    exact keep_read (F := 1) (M := 8) k3 (by omega) (by omega) (by omega)
theorem fall_clear (h0 : num ≠ 0#64) (hn : ws.length ≤ 20) (hb : ws.any badW = false) :
    ∃ a, (newA 10).keepB 1 8 num ws = (a, 0) ∧ Clean a ∧ FallR num ws ks true ((a.setFuse z ks).push 1 8 0 [0#64]).1 ((a.setFuse z ks).push 1 8 0 [0#64]).2 := by
  have hl := recX_good h0 hn hb
  have hrg := fromA_rg 1 0 (List.replicate (8 * 10) 0#64) 10 (by simp)
  have hcl : Clean (newA 10) := fromA_clean _ _
  rcases keep_law (F := 1) (M := 8) (num := num) (ws := ws) hcl hrg (by omega) (by omega) (by omega) (zeroW _ _) with ⟨_, _, _, k, _⟩ | ⟨k1, k2, k3⟩
  · exact absurd trivial k
  have k1 : ((newA 10).keepB 1 8 num ws).2 = 0 := k1
  have k2 : Clean ((newA 10).keepB 1 8 num ws).1 := k2
  have k3 : Rg 1 0 (wrW (wrW (Wl (List.replicate (8 * 10) 0#64)) (8 * 1 + 8) (recX num ws)) (8 * 1 + 0) [num]) 10 True ((newA 10).keepB 1 8 num ws).1 := k3
  refine ⟨((newA 10).keepB 1 8 num ws).1, Prod.ext rfl k1, k2, ?_⟩
  generalize ((newA 10).keepB 1 8 num ws).1 = a at *
  have g3 := setFuse_rg k3 z ks
  have g2 : Clean (a.setFuse z ks) := k2.of_ls (setFuse_ls _ _ _)
  have hp := push_law (F := 1) (M := 8) (t := 0) (us := [0#64]) g2 g3 (by omega) (by simp) (by simp)
  have e0 : ((0 : Nat) : Int) = 0 := rfl
  have e1 : ((1 : Nat) : Int) = 1 := rfl
  have e8 : ((8 : Nat) : Int) = 8 := rfl
  rw [e0, e1, e8] at hp
  have hrec : ∀ q, q < (recX num ws).length → wrW (wrW (Wl (List.replicate (8 * 10) 0#64)) (8 * 1 + 8) (recX num ws)) (8 * 1 + 0) [num] (8 * 1 + 8 + q) = (recX num ws).getD q 0#64 := fun q hq => by
    rw [wrW_off (by simp; omega), wrW_at ⟨by omega, by omega⟩, show 8 * 1 + 8 + q - (8 * 1 + 8) = q by omega]
  have hmk : wrW (wrW (Wl (List.replicate (8 * 10) 0#64)) (8 * 1 + 8) (recX num ws)) (8 * 1 + 0) [num] (8 * 1) = num := by rw [wrW_at ⟨by omega, by simp⟩]; rfl
  rcases hp with ⟨h1, h2, h3, _, _, h6⟩ | ⟨h1, h2, h3⟩
  · refine ⟨.inr ⟨h1, h2, ?_⟩, h3, (push_len _ _ _ _ _).trans g3.len⟩
    rw [allOf_ls (finA_ls h3 ks)]
    rcases h6 (8 * 1) (by omega) with k | ⟨_, _, k⟩
    · right
      refine read_rec (F := 1) (M := 8) (by omega) (by omega) (k.trans hmk) fun q hq => ?_
      rcases h6 (8 * 1 + 8 + q) (by omega) with k | ⟨_, k9, _⟩
      · exact k.trans (hrec q hq)
      · simp at k9; omega
    · left
      exact read_zero (F := 1) (M := 8) k
  · refine ⟨.inl ⟨h1, h3.on, ?_⟩, h2, h3.len⟩
    rw [allOf_ls (finA_ls h2 ks), if_pos rfl]
    refine read_zero (F := 1) (M := 8) ?_
    rw [h3.wd (8 * 1) (by omega), wrW_at ⟨by omega, by simp⟩]
    rfl
end
end Go.Proofs.Ytoifejinppjeeaa
namespace Go.Proofs.Ytoifejinppjeeaa
open Go.RowKit
set_option linter.unusedVariables false
set_option linter.unusedSimpArgs false
structure BkI (k : Nat) (a : AM) : Prop where
  clean : Clean a
  rg : ∃ W, Rg 1 0 W 12 True a ∧ W 8 = 0#64
  cnt : a.cnt (2000 * k)
theorem bkI_new : BkI 0 (newA 12) := ⟨fromA_clean _ _, ⟨_, fromA_rg 1 0 (List.replicate (8 * 12) 0#64) 12 (by simp), zeroW _ _⟩, fromA_cnt _ _⟩
theorem BkI.mono {k : Nat} {a : AM} (h : BkI k a) : BkI (k + 1) a := ⟨h.clean, h.rg, h.cnt.mono (by omega)⟩
theorem AM.cnt.on {a : AM} {N : Nat} (h : a.cnt N) : a.on.cnt N := ⟨h.f1, h.c1, h.c2, h.c3⟩
section
variable {k : Nat} {a : AM} {num : BitVec 64} {ws : List (Int × BitVec 64)}
theorem BkI.no (h : BkI k a) (h0 : (recX num ws).length = 0) : a.keepB 1 10 num ws = (a, 1) := by
  unfold AM.keepB
  rw [if_pos (.inl h0)]
structure AgR (k : Nat) (a : AM) (num : BitVec 64) (ws : List (Int × BitVec 64)) (a1 a2 : AM) : Prop where
  keep : a.keepB 1 10 num ws = (a1, 0)
  clean1 : Clean a1
  off : (a1.crash []).on.off = false
  len : (a1.crash []).on.ls.length = 12
  clean2 : Clean (a1.crash []).on
  cnt : (a1.crash []).on.cnt (2000 * k + 1000)
  rd : readR ((a1.crash []).on.allOf 1 (8 * 10)) = some (num, ws)
  clear : (a1.crash []).on.push 1 10 0 [0#64] = (a2, 0)
  next : BkI (k + 1) a2
theorem BkI.yes (h : BkI k a) (h0 : 0 < (recX num ws).length) (hn : ws.length ≤ 30) : ∃ a1 a2, AgR k a num ws a1 a2 := by
  obtain ⟨W, hrg, hm⟩ := h.rg
  have hl : (recX num ws).length ≤ 63 := by
    unfold recX recW
    split
    · exact Nat.zero_le _
    · split
      · exact Nat.zero_le _
      · rw [List.length_append, recL_len]; simp; omega
  have hc := h.cnt.keepB 1 10 num ws
  have hk := keep_law (F := 1) (M := 10) (num := num) (ws := ws) h.clean hrg (by omega) (by omega) h0 hm
  have e0 : ((0 : Nat) : Int) = 0 := rfl
  have e1 : ((1 : Nat) : Int) = 1 := rfl
  have e10 : ((10 : Nat) : Int) = 10 := rfl
  rw [e1, e10] at hk
  rcases hk with ⟨_, _, _, k4, _⟩ | ⟨k1, k2, k3⟩
  · exact absurd trivial k4
  generalize hp : a.keepB 1 10 num ws = pr at *
  obtain ⟨a1, r1⟩ := pr
  simp only at hc k1 k2 k3
  subst k1
  obtain ⟨g3, g2⟩ := k2.fell k3 []
  have hrd := keep_read (F := 1) (M := 10) g3 (by omega) (by omega) h0
  have hcn : (a1.crash []).on.cnt (2000 * k + 1000) := (hc.crash' []).on
  have hpl := push_law (F := 1) (M := 10) (t := 0) (us := [0#64]) g2 g3 (by omega) (by simp) (by simp)
  rw [e0, e1, e10] at hpl
  have hc2 := hcn.push 1 10 0 [0#64]
  rcases hpl with ⟨_, _, _, k4, _⟩ | ⟨p1, p2, p3⟩
  · exact absurd trivial k4
  generalize hq : (a1.crash []).on.push 1 10 0 [0#64] = pr at *
  obtain ⟨a2, r2⟩ := pr
  simp only at hc2 p1 p2 p3
  subst p1
  refine ⟨a1, a2, hp, k2, rfl, g3.len, g2, hcn, hrd, hq, p2, ⟨_, p3, ?_⟩, hc2.mono (by simp; omega)⟩
  rw [wrW_at (F := 1) (t := 0) ⟨by omega, by simp⟩]; rfl
end
end Go.Proofs.Ytoifejinppjeeaa
