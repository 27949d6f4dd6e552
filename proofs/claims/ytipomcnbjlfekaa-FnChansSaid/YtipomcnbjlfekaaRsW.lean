import Derived.Test.YtipomcnbjlfekaaRs21
/- Bits of small numbers. -/
namespace Go.Proofs.Ytipomcnbjlfekaa.Rs
open Go.RowKit
set_option linter.unusedVariables false
set_option linter.unusedSimpArgs false
theorem bv_and_nat {a b : Nat} (ha : a < 2 ^ 62) (hb : b < 2 ^ 62) : binV .and (.int .i64 a) (.int .i64 b) = .int .i64 ((a &&& b : Nat) : Int) := by
  have h : a &&& b ≤ a := Nat.and_le_left
  show Value.int .i64 (IntKind.i64.wrap ((BitVec.ofInt 64 a &&& BitVec.ofInt 64 b).toNat : Int)) = _
  rw [BitVec.ofInt_natCast, BitVec.ofInt_natCast, BitVec.toNat_and, BitVec.toNat_ofNat, BitVec.toNat_ofNat, Nat.mod_eq_of_lt (by omega), Nat.mod_eq_of_lt (by omega)]
  exact congrArg _ (wr_id (by omega) (by omega))
theorem bv_or_nat {a b : Nat} (ha : a < 2 ^ 62) (hb : b < 2 ^ 62) : binV .or (.int .i64 a) (.int .i64 b) = .int .i64 ((a ||| b : Nat) : Int) := by
  have h : a ||| b < 2 ^ 62 := Nat.or_lt_two_pow ha hb
  show Value.int .i64 (IntKind.i64.wrap ((BitVec.ofInt 64 a ||| BitVec.ofInt 64 b).toNat : Int)) = _
  rw [BitVec.ofInt_natCast, BitVec.ofInt_natCast, BitVec.toNat_or, BitVec.toNat_ofNat, BitVec.toNat_ofNat, Nat.mod_eq_of_lt (by omega), Nat.mod_eq_of_lt (by omega)]
  exact congrArg _ (wr_id (by omega) (by omega))
theorem bv_shl_nat {a n : Nat} (j : IntKind) (hn : n ≤ 64) (h : a * 2 ^ n < 2 ^ 62) : binV .shl (.int .i64 a) (.int j n) = .int .i64 ((a * 2 ^ n : Nat) : Int) := by
  show Value.int .i64 (IntKind.i64.wrap ((a : Int) * 2 ^ (min (n : Int).toNat 64))) = _
  rw [Int.toNat_natCast, Nat.min_eq_left hn, show ((a : Int) * 2 ^ n) = ((a * 2 ^ n : Nat) : Int) by push_cast; rfl]
  exact congrArg _ (wr_id (by omega) (by omega))
theorem bv_shr_nat {a n : Nat} (j : IntKind) (hn : n ≤ 64) : binV .shr (.int .i64 a) (.int j n) = .int .i64 ((a / 2 ^ n : Nat) : Int) := by
  show Value.int .i64 ((a : Int).fdiv (2 ^ (min (n : Int).toNat 64))) = _
  rw [Int.toNat_natCast, Nat.min_eq_left hn, show ((2 : Int) ^ n) = ((2 ^ n : Nat) : Int) by push_cast; rfl]
  exact congrArg _ (by rw [Int.fdiv_eq_ediv_of_nonneg _ (Int.natCast_nonneg _)]; rfl)
theorem cv_u64 {n : Nat} (h : n < 2 ^ 62) : cvV .u64 (.int .i64 n) = .int .u64 n := by
  show Value.int .u64 (IntKind.u64.wrap n) = _
  refine congrArg _ ?_
  rw [IntKind.wrap_u64]; omega
end Go.Proofs.Ytipomcnbjlfekaa.Rs
