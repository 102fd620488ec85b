/- Words of 64 bits in the walk: the value U v, and what Go's operations make of such values. No condition. -/
import Derived.Test.YtfdngdnnjmcigaaProg
import Derived.WalkKit
import Derived.LoopTactic
import Derived.WalkSpells
import Derived.WalkLawsBesides
import Derived.Laws.BitsAllLaws
import Derived.Lib.Hide
import Derived.Deep.QuietTactic
import Derived.BigQuiet
import Derived.Laws.Rows
import Derived.OwnWalk
namespace Go.Proofs.Ytfdngdnnjmcigaa
open Go.RowKit

/-- A uint64 word in a slot. -/
def U (v : BitVec 64) : Value := .int .u64 (v.toNat : Int)
theorem wrap_u64_bv (n : Int) : IntKind.u64.wrap n = ((BitVec.ofInt 64 n).toNat : Int) := by
  simp [IntKind.wrap, IntKind.bits, IntKind.signed, BitVec.toNat_ofInt]; omega
theorem U_wrap (n : Int) : Value.int .u64 (IntKind.u64.wrap n) = U (BitVec.ofInt 64 n) := by rw [wrap_u64_bv]; rfl
theorem U_lit (n : Int) (h0 : 0 ≤ n) (h1 : n < 18446744073709551616) : Value.int .u64 n = U (BitVec.ofInt 64 n) := by
  rw [← U_wrap]; congr 1; simp [IntKind.wrap, IntKind.bits, IntKind.signed]; omega
theorem U_inj {a b : BitVec 64} : U a = U b ↔ a = b := by
  constructor
  · intro h; injection h with _ h; exact BitVec.toNat_inj.1 (Int.ofNat_inj.1 h)
  · intro h; rw [h]
theorem toNat_eq_iff (a b : BitVec 64) : ((a.toNat : Int) = (b.toNat : Int)) ↔ a = b := by
  rw [Int.ofNat_inj]; exact BitVec.toNat_inj
theorem ofInt_toNat (v : BitVec 64) : BitVec.ofInt 64 (v.toNat : Int) = v := by simp
section
variable (op : BinOp) (t : TypeId) (x y : Operand) (a b : BitVec 64) (v : Value) (n : Int) (yk : IntKind)
theorem eqGuard_at_U : eqGuard op t x y (U a) v = pure () := by cases op <;> rfl
theorem binOp_and_ii (m n : Int) : binOp .and t (.int .u64 m) (.int .u64 n) = pure (U (BitVec.ofInt 64 m &&& BitVec.ofInt 64 n)) := by
  show pure (Value.int .u64 (IntKind.u64.wrap ((BitVec.ofInt 64 m &&& BitVec.ofInt 64 n).toNat : Int))) = _
  rw [U_wrap, ofInt_toNat]
theorem binOp_and_U : binOp .and t (U a) (U b) = pure (U (a &&& b)) := by
  have h := binOp_and_ii t a.toNat b.toNat; simp only [ofInt_toNat] at h; exact h
theorem binOp_and_Ui : binOp .and t (U a) (.int .u64 n) = pure (U (a &&& BitVec.ofInt 64 n)) := by
  have h := binOp_and_ii t a.toNat n; simp only [ofInt_toNat] at h; exact h
theorem binOp_and_iU : binOp .and t (.int .u64 n) (U b) = pure (U (BitVec.ofInt 64 n &&& b)) := by
  have h := binOp_and_ii t n b.toNat; simp only [ofInt_toNat] at h; exact h
theorem binOp_or_ii (m n : Int) : binOp .or t (.int .u64 m) (.int .u64 n) = pure (U (BitVec.ofInt 64 m ||| BitVec.ofInt 64 n)) := by
  show pure (Value.int .u64 (IntKind.u64.wrap ((BitVec.ofInt 64 m ||| BitVec.ofInt 64 n).toNat : Int))) = _
  rw [U_wrap, ofInt_toNat]
theorem binOp_or_U : binOp .or t (U a) (U b) = pure (U (a ||| b)) := by
  have h := binOp_or_ii t a.toNat b.toNat; simp only [ofInt_toNat] at h; exact h
theorem binOp_or_Ui : binOp .or t (U a) (.int .u64 n) = pure (U (a ||| BitVec.ofInt 64 n)) := by
  have h := binOp_or_ii t a.toNat n; simp only [ofInt_toNat] at h; exact h
theorem binOp_or_iU : binOp .or t (.int .u64 n) (U b) = pure (U (BitVec.ofInt 64 n ||| b)) := by
  have h := binOp_or_ii t n b.toNat; simp only [ofInt_toNat] at h; exact h
theorem binOp_xor_ii (m n : Int) : binOp .xor t (.int .u64 m) (.int .u64 n) = pure (U (BitVec.ofInt 64 m ^^^ BitVec.ofInt 64 n)) := by
  show pure (Value.int .u64 (IntKind.u64.wrap ((BitVec.ofInt 64 m ^^^ BitVec.ofInt 64 n).toNat : Int))) = _
  rw [U_wrap, ofInt_toNat]
theorem binOp_xor_U : binOp .xor t (U a) (U b) = pure (U (a ^^^ b)) := by
  have h := binOp_xor_ii t a.toNat b.toNat; simp only [ofInt_toNat] at h; exact h
theorem binOp_xor_Ui : binOp .xor t (U a) (.int .u64 n) = pure (U (a ^^^ BitVec.ofInt 64 n)) := by
  have h := binOp_xor_ii t a.toNat n; simp only [ofInt_toNat] at h; exact h
theorem binOp_xor_iU : binOp .xor t (.int .u64 n) (U b) = pure (U (BitVec.ofInt 64 n ^^^ b)) := by
  have h := binOp_xor_ii t n b.toNat; simp only [ofInt_toNat] at h; exact h
theorem binOp_andNot_ii (m n : Int) : binOp .andNot t (.int .u64 m) (.int .u64 n) = pure (U (BitVec.ofInt 64 m &&& ~~~BitVec.ofInt 64 n)) := by
  show pure (Value.int .u64 (IntKind.u64.wrap ((BitVec.ofInt 64 m &&& ~~~BitVec.ofInt 64 n).toNat : Int))) = _
  rw [U_wrap, ofInt_toNat]
theorem binOp_andNot_U : binOp .andNot t (U a) (U b) = pure (U (a &&& ~~~b)) := by
  have h := binOp_andNot_ii t a.toNat b.toNat; simp only [ofInt_toNat] at h; exact h
theorem binOp_andNot_Ui : binOp .andNot t (U a) (.int .u64 n) = pure (U (a &&& ~~~BitVec.ofInt 64 n)) := by
  have h := binOp_andNot_ii t a.toNat n; simp only [ofInt_toNat] at h; exact h
theorem binOp_andNot_iU : binOp .andNot t (.int .u64 n) (U b) = pure (U (BitVec.ofInt 64 n &&& ~~~b)) := by
  have h := binOp_andNot_ii t n b.toNat; simp only [ofInt_toNat] at h; exact h
theorem binOp_add_ii (m n : Int) : binOp .add t (.int .u64 m) (.int .u64 n) = pure (U (BitVec.ofInt 64 m + BitVec.ofInt 64 n)) := by
  show pure (Value.int .u64 (IntKind.u64.wrap (m + n))) = _
  rw [U_wrap, BitVec.ofInt_add]
theorem binOp_add_U : binOp .add t (U a) (U b) = pure (U (a + b)) := by
  have h := binOp_add_ii t a.toNat b.toNat; simp only [ofInt_toNat] at h; exact h
theorem binOp_add_Ui : binOp .add t (U a) (.int .u64 n) = pure (U (a + BitVec.ofInt 64 n)) := by
  have h := binOp_add_ii t a.toNat n; simp only [ofInt_toNat] at h; exact h
theorem binOp_add_iU : binOp .add t (.int .u64 n) (U b) = pure (U (BitVec.ofInt 64 n + b)) := by
  have h := binOp_add_ii t n b.toNat; simp only [ofInt_toNat] at h; exact h
theorem binOp_sub_ii (m n : Int) : binOp .sub t (.int .u64 m) (.int .u64 n) = pure (U (BitVec.ofInt 64 m - BitVec.ofInt 64 n)) := by
  show pure (Value.int .u64 (IntKind.u64.wrap (m - n))) = _
  rw [U_wrap, Int.sub_eq_add_neg, BitVec.ofInt_add, BitVec.ofInt_neg, ← BitVec.sub_eq_add_neg]
theorem binOp_sub_U : binOp .sub t (U a) (U b) = pure (U (a - b)) := by
  have h := binOp_sub_ii t a.toNat b.toNat; simp only [ofInt_toNat] at h; exact h
theorem binOp_sub_Ui : binOp .sub t (U a) (.int .u64 n) = pure (U (a - BitVec.ofInt 64 n)) := by
  have h := binOp_sub_ii t a.toNat n; simp only [ofInt_toNat] at h; exact h
theorem binOp_sub_iU : binOp .sub t (.int .u64 n) (U b) = pure (U (BitVec.ofInt 64 n - b)) := by
  have h := binOp_sub_ii t n b.toNat; simp only [ofInt_toNat] at h; exact h
theorem binOp_mul_ii (m n : Int) : binOp .mul t (.int .u64 m) (.int .u64 n) = pure (U (BitVec.ofInt 64 m * BitVec.ofInt 64 n)) := by
  show pure (Value.int .u64 (IntKind.u64.wrap (m * n))) = _
  rw [U_wrap, BitVec.ofInt_mul]
theorem binOp_mul_U : binOp .mul t (U a) (U b) = pure (U (a * b)) := by
  have h := binOp_mul_ii t a.toNat b.toNat; simp only [ofInt_toNat] at h; exact h
theorem binOp_mul_Ui : binOp .mul t (U a) (.int .u64 n) = pure (U (a * BitVec.ofInt 64 n)) := by
  have h := binOp_mul_ii t a.toNat n; simp only [ofInt_toNat] at h; exact h
theorem binOp_mul_iU : binOp .mul t (.int .u64 n) (U b) = pure (U (BitVec.ofInt 64 n * b)) := by
  have h := binOp_mul_ii t n b.toNat; simp only [ofInt_toNat] at h; exact h
theorem binOp_eql_U : binOp .eql t (U a) (U b) = pure (.bool (a == b)) := by
  show pure (Value.bool ((a.toNat : Int) == (b.toNat : Int))) = _
  congr 2; rw [Bool.eq_iff_iff, beq_iff_eq, beq_iff_eq]; exact toNat_eq_iff a b
theorem binOp_neq_U : binOp .neq t (U a) (U b) = pure (.bool (a != b)) := by
  show pure (Value.bool ((a.toNat : Int) != (b.toNat : Int))) = _
  congr 2; rw [Bool.eq_iff_iff, bne_iff_ne, bne_iff_ne]; exact not_congr (toNat_eq_iff a b)
theorem binOp_lss_U : binOp .lss t (U a) (U b) = pure (.bool (decide (a < b))) := by
  show pure (Value.bool (decide ((a.toNat : Int) < (b.toNat : Int)))) = _
  congr 2; simp [BitVec.lt_def]
theorem binOp_gtr_U : binOp .gtr t (U a) (U b) = pure (.bool (decide (b < a))) := by
  show pure (Value.bool (decide ((a.toNat : Int) > (b.toNat : Int)))) = _
  congr 2; simp [BitVec.lt_def]
theorem binOp_leq_U : binOp .leq t (U a) (U b) = pure (.bool (decide (a ≤ b))) := by
  show pure (Value.bool (decide ((a.toNat : Int) ≤ (b.toNat : Int)))) = _
  congr 2; simp [BitVec.le_def]
theorem binOp_geq_U : binOp .geq t (U a) (U b) = pure (.bool (decide (b ≤ a))) := by
  show pure (Value.bool (decide ((a.toNat : Int) ≥ (b.toNat : Int)))) = _
  congr 2; simp [BitVec.le_def]
theorem binOp_eql_Ui (h0 : 0 ≤ n) (h1 : n < 18446744073709551616) : binOp .eql t (U a) (.int .u64 n) = pure (.bool (a == BitVec.ofInt 64 n)) := by rw [U_lit n h0 h1, binOp_eql_U]
theorem binOp_eql_iU (h0 : 0 ≤ n) (h1 : n < 18446744073709551616) : binOp .eql t (.int .u64 n) (U b) = pure (.bool (BitVec.ofInt 64 n == b)) := by rw [U_lit n h0 h1, binOp_eql_U]
theorem binOp_neq_Ui (h0 : 0 ≤ n) (h1 : n < 18446744073709551616) : binOp .neq t (U a) (.int .u64 n) = pure (.bool (a != BitVec.ofInt 64 n)) := by rw [U_lit n h0 h1, binOp_neq_U]
theorem binOp_neq_iU (h0 : 0 ≤ n) (h1 : n < 18446744073709551616) : binOp .neq t (.int .u64 n) (U b) = pure (.bool (BitVec.ofInt 64 n != b)) := by rw [U_lit n h0 h1, binOp_neq_U]
theorem binOp_lss_Ui (h0 : 0 ≤ n) (h1 : n < 18446744073709551616) : binOp .lss t (U a) (.int .u64 n) = pure (.bool (decide (a < BitVec.ofInt 64 n))) := by rw [U_lit n h0 h1, binOp_lss_U]
theorem binOp_lss_iU (h0 : 0 ≤ n) (h1 : n < 18446744073709551616) : binOp .lss t (.int .u64 n) (U b) = pure (.bool (decide (BitVec.ofInt 64 n < b))) := by rw [U_lit n h0 h1, binOp_lss_U]
theorem binOp_gtr_Ui (h0 : 0 ≤ n) (h1 : n < 18446744073709551616) : binOp .gtr t (U a) (.int .u64 n) = pure (.bool (decide (BitVec.ofInt 64 n < a))) := by rw [U_lit n h0 h1, binOp_gtr_U]
theorem binOp_gtr_iU (h0 : 0 ≤ n) (h1 : n < 18446744073709551616) : binOp .gtr t (.int .u64 n) (U b) = pure (.bool (decide (b < BitVec.ofInt 64 n))) := by rw [U_lit n h0 h1, binOp_gtr_U]
theorem binOp_leq_Ui (h0 : 0 ≤ n) (h1 : n < 18446744073709551616) : binOp .leq t (U a) (.int .u64 n) = pure (.bool (decide (a ≤ BitVec.ofInt 64 n))) := by rw [U_lit n h0 h1, binOp_leq_U]
theorem binOp_leq_iU (h0 : 0 ≤ n) (h1 : n < 18446744073709551616) : binOp .leq t (.int .u64 n) (U b) = pure (.bool (decide (BitVec.ofInt 64 n ≤ b))) := by rw [U_lit n h0 h1, binOp_leq_U]
theorem binOp_geq_Ui (h0 : 0 ≤ n) (h1 : n < 18446744073709551616) : binOp .geq t (U a) (.int .u64 n) = pure (.bool (decide (BitVec.ofInt 64 n ≤ a))) := by rw [U_lit n h0 h1, binOp_geq_U]
theorem binOp_geq_iU (h0 : 0 ≤ n) (h1 : n < 18446744073709551616) : binOp .geq t (.int .u64 n) (U b) = pure (.bool (decide (b ≤ BitVec.ofInt 64 n))) := by rw [U_lit n h0 h1, binOp_geq_U]
theorem binOp_shl_Ui (h : 0 ≤ n) : binOp .shl t (U a) (.int yk n) = pure (U (a <<< n.toNat)) := by
  show Op.shift .shl .u64 (a.toNat : Int) yk n = _
  rw [shift_shl_any _ _ _ _ h, U_wrap]
  congr 2
  have e : (a.toNat : Int) * 2 ^ min n.toNat (IntKind.bits .u64) = ((a.toNat * 2 ^ min n.toNat 64 : Nat) : Int) := by simp [IntKind.bits]
  rw [e]
  apply BitVec.eq_of_toNat_eq
  rw [BitVec.ofInt_natCast, BitVec.toNat_ofNat, BitVec.toNat_shiftLeft, Nat.shiftLeft_eq]
  rcases Nat.le_total n.toNat 64 with h' | h'
  · rw [Nat.min_eq_left h']
  · rw [Nat.min_eq_right h', Nat.mul_mod_left]
    symm
    obtain ⟨k, hk⟩ := Nat.exists_eq_add_of_le h'
    rw [hk, Nat.pow_add, ← Nat.mul_assoc, Nat.mul_right_comm, Nat.mul_mod_left]
theorem binOp_shr_Ui (h : 0 ≤ n) : binOp .shr t (U a) (.int yk n) = pure (U (a >>> n.toNat)) := by
  show Op.shift .shr .u64 (a.toNat : Int) yk n = _
  rw [shift_shr_any _ _ _ _ h]
  have e : (a.toNat : Int) / 2 ^ min n.toNat (IntKind.bits .u64) = (((a >>> n.toNat).toNat : Nat) : Int) := by
    have e : (a.toNat : Int) / 2 ^ min n.toNat (IntKind.bits .u64) = ((a.toNat / 2 ^ min n.toNat 64 : Nat) : Int) := by simp [IntKind.bits]
    rw [e, BitVec.toNat_ushiftRight, Nat.shiftRight_eq_div_pow]
    congr 1
    rcases Nat.le_total n.toNat 64 with h' | h'
    · rw [Nat.min_eq_left h']
    · rw [Nat.min_eq_right h']
      have hv := a.isLt
      rw [Nat.div_eq_of_lt hv, Nat.div_eq_of_lt (Nat.lt_of_lt_of_le hv (Nat.pow_le_pow_right (by omega) h'))]
  rw [e]; rfl
/-- Shifted by a word. -/
def shlv (a b : BitVec 64) : BitVec 64 := a <<< b.toNat
def shrv (a b : BitVec 64) : BitVec 64 := a >>> b.toNat
theorem binOp_shl_U : binOp .shl t (U a) (U b) = pure (U (shlv a b)) := by
  have h := binOp_shl_Ui t a (b.toNat : Int) .u64 (by omega); rw [Int.toNat_natCast] at h; exact h
theorem binOp_shr_U : binOp .shr t (U a) (U b) = pure (U (shrv a b)) := by
  have h := binOp_shr_Ui t a (b.toNat : Int) .u64 (by omega); rw [Int.toNat_natCast] at h; exact h
theorem binOp_shl_iU (h0 : 0 ≤ n) (h1 : n < 18446744073709551616) : binOp .shl t (.int .u64 n) (U b) = pure (U (shlv (BitVec.ofInt 64 n) b)) := by rw [U_lit n h0 h1, binOp_shl_U]
theorem binOp_shr_iU (h0 : 0 ≤ n) (h1 : n < 18446744073709551616) : binOp .shr t (.int .u64 n) (U b) = pure (U (shrv (BitVec.ofInt 64 n) b)) := by rw [U_lit n h0 h1, binOp_shr_U]
theorem unary_xor_U : Op.unary .xor (U a) = pure (U (~~~a)) := by
  show Op.intBits .xor .u64 (if IntKind.u64.signed then -1 else IntKind.u64.max) (a.toNat : Int) = _
  show pure (Value.int .u64 (IntKind.u64.wrap ((BitVec.ofInt 64 (if IntKind.u64.signed then -1 else IntKind.u64.max) ^^^ BitVec.ofInt 64 (a.toNat : Int)).toNat : Int))) = _
  rw [U_wrap, ofInt_toNat, ofInt_toNat]
  have : (BitVec.ofInt 64 (if IntKind.u64.signed = true then -1 else IntKind.u64.max)) = BitVec.allOnes 64 := by decide
  rw [this, BitVec.allOnes_xor]
end
section
variable {P : Program} (w : World) (a : BitVec 64)
theorem run_convert_toU (src dst : TypeId) (k : IntKind) (n : Int) (hs : (P.underlying src).isSome = true) (hd : P.underlying dst = some (.int .u64)) :
    (convert src dst (.int k n)).run P w = .ok (U (BitVec.ofInt 64 n)) w := by
  have hk : P.intKind dst = .u64 := by simp [Program.intKind, hd]
  rw [run_convert_int w src dst k n hs (by rw [hk]; exact hd), hk, U_wrap]
theorem run_convert_UU (src dst : TypeId) (hs : (P.underlying src).isSome = true) (hd : P.underlying dst = some (.int .u64)) :
    (convert src dst (U a)).run P w = .ok (U a) w := by
  have h := run_convert_toU (P := P) w src dst .u64 (a.toNat : Int) hs hd
  rw [ofInt_toNat] at h; exact h
theorem run_convert_Ui (src dst : TypeId) (hs : (P.underlying src).isSome = true) (hd : P.underlying dst = some (.int .i64)) :
    (convert src dst (U a)).run P w = .ok (.int .i64 a.toInt) w := by
  have hk : P.intKind dst = .i64 := by simp [Program.intKind, hd]
  have h := run_convert_int (P := P) w src dst .u64 (a.toNat : Int) hs (by rw [hk]; exact hd)
  rw [hk] at h
  refine Eq.trans h ?_
  congr 2
  have hlt := a.isLt
  rw [IntKind.wrap_i64, BitVec.toInt_eq_toNat_cond]
  split <;> omega
theorem run_convert_Uy (src dst : TypeId) (hs : (P.underlying src).isSome = true) (hd : P.underlying dst = some (.int .u8)) :
    (convert src dst (U a)).run P w = .ok (.int .u8 ((a.toNat % 256 : Nat) : Int)) w := by
  have hk : P.intKind dst = .u8 := by simp [Program.intKind, hd]
  have h := run_convert_int (P := P) w src dst .u64 (a.toNat : Int) hs (by rw [hk]; exact hd)
  rw [hk] at h
  refine Eq.trans h ?_
  congr 2
theorem run_store_U (p : Addr) (m : Mode) : (store p (U a) m).run P w = stored P w p (U a) m := run_store P w p _ m rfl
end
theorem U_ne_agg (a : BitVec 64) (cs : Array Value) : (U a = Value.agg cs) = False := by
  apply eq_false; intro h; cases h
theorem cells_U (a : BitVec 64) : (U a).cells = #[U a] := rfl
theorem oneCell_U (a : BitVec 64) : (U a).oneCell' = true := rfl

/-! ### Memory: slices of words that can be read -/
/-- The slice's cells (address A) read as the words xs. -/
def RdU (w : World) (A : Option Addr) (xs : List (BitVec 64)) : Prop :=
  xs = [] ∨ ∃ b off, A = some ⟨b, off, none⟩ ∧ ∀ k, (h : k < xs.length) → w.cell? ⟨b, off + k, none⟩ = some (U xs[k])
theorem cell_lt {w : World} {a : Addr} {v : Value} (h : w.cell? a = some v) : a.block < w.heap.size := by
  rcases Nat.lt_or_ge a.block w.heap.size with hlt | hge
  · exact hlt
  · unfold World.cell? at h
    rw [Array.getElem?_eq_none hge] at h
    cases h
theorem RdU.below {w w' : World} {A : Option Addr} {xs : List (BitVec 64)} (h : RdU w A xs) (hb : Below w.heap.size w w') : RdU w' A xs := by
  rcases h with h | ⟨b, off, hA, hc⟩
  · exact .inl h
  · exact .inr ⟨b, off, hA, fun k hk => (hb.cell (p := ⟨b, off + k, none⟩) (cell_lt (hc k hk))).trans (hc k hk)⟩
theorem RdU.drew {w : World} {A : Option Addr} {xs : List (BitVec 64)} (h : RdU w A xs) : RdU w.drew A xs := h
theorem RdU.drewN {w : World} {A : Option Addr} {xs : List (BitVec 64)} (h : RdU w A xs) (n : Nat) : RdU (w.drewN n) A xs := h
theorem RdU.nil_ {w : World} {A : Option Addr} : RdU w A [] := .inl rfl
theorem RdU.new (w : World) (xs : List (BitVec 64)) (t : TypeId) : RdU (w.alloc (.cells (xs.map U).toArray t)) (some ⟨w.heap.size, 0, none⟩) xs :=
  .inr ⟨w.heap.size, 0, rfl, fun k hk => by
    rw [cell_of_row _ w.heap.size (0 + k) (xs.map U).toArray t (0, 0) (heap_alloc_new w _)]
    simp [hk]⟩
theorem RdU.new1 (w : World) (x : BitVec 64) (t : TypeId) : RdU (w.alloc (.cells #[U x] t)) (some ⟨w.heap.size, 0, none⟩) [x] := RdU.new w [x] t
theorem RdU.new2 (w : World) (x y : BitVec 64) (t : TypeId) : RdU (w.alloc (.cells #[U x, U y] t)) (some ⟨w.heap.size, 0, none⟩) [x, y] := RdU.new w [x, y] t
theorem RdU.at_ {w : World} {A : Option Addr} {xs : List (BitVec 64)} (h : RdU w A xs) {k : Nat} (hk : k < xs.length) :
    ∃ b off, A = some ⟨b, off, none⟩ ∧ ∀ j, (h : j < xs.length) → w.cell? ⟨b, off + j, none⟩ = some (U xs[j]) := by
  rcases h with h | h
  · rw [h] at hk; simp at hk
  · exact h
theorem RdU.take {w : World} {A : Option Addr} {xs : List (BitVec 64)} (h : RdU w A xs) (k : Nat) : RdU w A (xs.take k) := by
  rcases h with h | ⟨b, off, hA, hc⟩
  · left; rw [h]; simp
  · exact .inr ⟨b, off, hA, fun j hj => by rw [hc j (by simp at hj; omega)]; simp⟩
theorem RdU.drop {w : World} {b off : Nat} {xs : List (BitVec 64)} (h : RdU w (some ⟨b, off, none⟩) xs) (k : Nat) : RdU w (some ⟨b, off + k, none⟩) (xs.drop k) := by
  rcases h with h | ⟨b', off', hA, hc⟩
  · left; rw [h]; simp
  · injection hA with hA; injection hA with h1 h2 _; subst h1 h2
    exact .inr ⟨b, off + k, rfl, fun j hj => by simp at hj; rw [Nat.add_assoc, hc (k + j) (by omega)]; simp⟩
/-- The address of a slice cut from its k-th cell on (cells of one place): the model keeps the address where nothing is left. -/
def cutA (A : Option Addr) (c k : Nat) : Option Addr := if c = k then A else A.map (·.add (k * 1))
theorem RdU.cut {w : World} {A : Option Addr} {xs : List (BitVec 64)} {c : Nat} (h : RdU w A xs) (hc : xs.length ≤ c) (k : Nat) : RdU w (cutA A c k) (xs.drop k) := by
  by_cases hk : k < xs.length
  · obtain ⟨b, off, rfl, hcell⟩ := h.at_ hk
    have e : cutA (some ⟨b, off, none⟩) c k = some ⟨b, off + k, none⟩ := by
      unfold cutA; rw [if_neg (by omega)]; simp [Addr.add_lit]
    rw [e]
    exact h.drop k
  · left; rw [List.drop_eq_nil_iff]; omega
section
variable {P : Program} (t e : TypeId) (i : TypeInfo) (ht : P.underlying t = some (.slice e)) (hi : P.info? e = some i) (hs : i.size = 1) (A : Option Addr) (n c k l : Nat) (kl kh : IntKind)
include ht hi hs
theorem run_cut_l (hk : k ≤ n) (w : World) : (Instr.slice t (.slice A n c) (some (.int kl (k : Int))) none none).run P w = .ok (.slice (cutA A c k) (n - k) (c - k)) w := by
  have he : P.elem t = e := by simp [Program.elem, ht]
  rw [run_slice_l w t A n c (by rw [he]; exact ht) kl k (by omega) (by omega), he]
  simp [sizeOf, typeInfo, hi, hs, sliced, cutA]
theorem run_cut_lh (hk : k ≤ l) (hl : l ≤ c) (w : World) : (Instr.slice t (.slice A n c) (some (.int kl (k : Int))) (some (.int kh (l : Int))) none).run P w = .ok (.slice (cutA A c k) (l - k) (c - k)) w := by
  have he : P.elem t = e := by simp [Program.elem, ht]
  rw [run_slice_lh w t A n c (by rw [he]; exact ht) kl kh k l (by omega) (by omega) (by omega), he]
  simp [sizeOf, typeInfo, hi, hs, sliced, cutA]
end
/-- Only draws lie between two worlds. -/
def Drawn (w w' : World) : Prop := ∃ n, w' = w.drewN n
theorem Drawn.refl (w : World) : Drawn w w := ⟨0, rfl⟩
theorem Drawn.one (w : World) : Drawn w w.drew := ⟨1, rfl⟩
theorem Drawn.some_ (w : World) (n : Nat) : Drawn w (w.drewN n) := ⟨n, rfl⟩
theorem Drawn.trans {a b c : World} (h : Drawn a b) (k : Drawn b c) : Drawn a c := by
  obtain ⟨n, rfl⟩ := h
  obtain ⟨m, rfl⟩ := k
  exact ⟨n + m, by rw [World.drewN_drewN]⟩
theorem Drawn.below {w w' : World} (h : Drawn w w') (B : Nat) : Below B w w' := by
  obtain ⟨n, rfl⟩ := h
  exact ⟨rfl, rfl, rfl, Nat.le_refl _, fun _ _ => rfl⟩
theorem RdU.drawn {w w' : World} {A : Option Addr} {xs : List (BitVec 64)} (h : RdU w A xs) (hd : Drawn w w') : RdU w' A xs := by
  obtain ⟨n, rfl⟩ := hd
  exact h.drewN n
/-- A contract 'only draws' inside a region that only reads. -/
theorem quiet_drawn {P : Program} {f : FuncId} {args : Array Value} {w : World} {n : Nat} {v : Value}
    (h : Calls P f args (w.drewN n) fun e w' => e = .returned v ∧ Drawn (w.drewN n) w') : Calls P f args (w.drewN n) fun e w'' => e = .returned v ∧ ∃ m, w'' = w.drewN m :=
  h.mono fun _ _ ⟨he, hm⟩ => ⟨he, (Drawn.some_ w n).trans hm⟩
theorem quiet_same {P : Program} {f : FuncId} {args : Array Value} {w : World} {n : Nat} {v : Value}
    (h : Calls P f args (w.drewN n) fun e w' => e = .returned v ∧ w.drewN n = w') : Calls P f args (w.drewN n) fun e w'' => e = .returned v ∧ ∃ m, w'' = w.drewN m :=
  h.mono fun _ _ ⟨he, hm⟩ => ⟨he, n, hm.symm⟩
theorem ret_U {a b : BitVec 64} (h : a = b) : Ending.returned (U a) = .returned (U b) := by rw [h]
theorem ret_bool {a b : Bool} (h : a = b) : Ending.returned (.bool a) = .returned (.bool b) := by rw [h]
theorem ret_int {k : IntKind} {a b : Int} (h : a = b) : Ending.returned (.int k a) = .returned (.int k b) := by rw [h]
attribute [go_sem] eqGuard_at_U U_wrap binOp_and_U binOp_and_Ui binOp_and_iU binOp_or_U binOp_or_Ui binOp_or_iU binOp_xor_U binOp_xor_Ui binOp_xor_iU binOp_andNot_U binOp_andNot_Ui binOp_andNot_iU binOp_add_U binOp_add_Ui binOp_add_iU binOp_sub_U binOp_sub_Ui binOp_sub_iU binOp_mul_U binOp_mul_Ui binOp_mul_iU binOp_eql_U binOp_eql_Ui binOp_eql_iU binOp_neq_U binOp_neq_Ui binOp_neq_iU binOp_lss_U binOp_lss_Ui binOp_lss_iU binOp_gtr_U binOp_gtr_Ui binOp_gtr_iU binOp_leq_U binOp_leq_Ui binOp_leq_iU binOp_geq_U binOp_geq_Ui binOp_geq_iU binOp_shl_Ui binOp_shr_Ui binOp_shl_U binOp_shr_U binOp_shl_iU binOp_shr_iU unary_xor_U run_convert_toU run_convert_UU run_convert_Ui run_store_U U_ne_agg cells_U oneCell_U
end Go.Proofs.Ytfdngdnnjmcigaa
