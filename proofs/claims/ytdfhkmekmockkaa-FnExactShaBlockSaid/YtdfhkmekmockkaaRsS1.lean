/- SHA-256's block in plain words, and what the machine's operators do on them. No program in sight. -/
import Derived.Test.YtdfhkmekmockkaaRsP
namespace Go.Proofs.Ytdfhkmekmockkaa.Rs
open Go.RowKit
set_option linter.unusedVariables false
set_option linter.unusedSimpArgs false
abbrev BV := BitVec 32
def U (x : BV) : Value := .int .u32 (x.toNat : Int)
def I (x : BV) : Value := .int .i64 (x.toNat : Int)
def byt (s : ByteArray) (i : Nat) : Nat := match s[i]? with | some b => b.toNat | none => 0
theorem byt_lt (s : ByteArray) (i : Nat) : byt s i < 256 := by
  unfold byt
  split
  · rename_i b _; exact b.toNat_lt
  · omega
theorem byt_ev {s : ByteArray} {n : Int} {i : Nat} (h : n = (i : Int)) (hi : i < s.size) : binV .andNot (.string s) (.int .i64 n) = .int .u8 (byt s i : Int) := by
  subst h
  have : s[i]? = some s[i] := by simp [hi]
  simp [binV, byt, this]
/-! ### Words -/
def rot (x : BV) (n : Nat) : BV := x >>> n ||| x <<< (32 - n)
def word (s : ByteArray) (i : Nat) : BV := BitVec.ofNat 32 (((byt s (4 * i) * 256 + byt s (4 * i + 1)) * 256 + byt s (4 * i + 2)) * 256 + byt s (4 * i + 3))
def gw (ws : List BV) (i : Nat) : BV := ws.getD i 0
def nxt (ws : List BV) (i : Nat) : BV :=
  gw ws (i - 16) + (rot (gw ws (i - 15)) 7 ^^^ rot (gw ws (i - 15)) 18 ^^^ gw ws (i - 15) >>> 3) + gw ws (i - 7) + (rot (gw ws (i - 2)) 17 ^^^ rot (gw ws (i - 2)) 19 ^^^ gw ws (i - 2) >>> 10)
def ext : Nat → Nat → List BV → List BV
  | 0, _, ws => ws
  | n + 1, i, ws => ext n (i + 1) (ws.set i (nxt ws i))
structure St where
  a : BV
  b : BV
  c : BV
  d : BV
  e : BV
  f : BV
  g : BV
  h : BV
def tOne (k w : BV) (s : St) : BV := s.h + (rot s.e 6 ^^^ rot s.e 11 ^^^ rot s.e 25) + (s.e &&& s.f ^^^ (s.e ^^^ 4294967295#32) &&& s.g) + k + w
def tTwo (s : St) : BV := (rot s.a 2 ^^^ rot s.a 13 ^^^ rot s.a 22) + (s.a &&& s.b ^^^ s.a &&& s.c ^^^ s.b &&& s.c)
def rnd (k w : BV) (s : St) : St := ⟨tOne k w s + tTwo s, s.a, s.b, s.c, s.d + tOne k w s, s.e, s.f, s.g⟩
def rnds : Nat → Nat → List BV → List BV → St → St
  | 0, _, _, _, s => s
  | n + 1, i, ks, ws, s => rnds n (i + 1) ks ws (rnd (gw ks i) (gw ws i) s)
def St.vals (f : BV → Value) (s : St) : List Value := [f s.a, f s.b, f s.c, f s.d, f s.e, f s.f, f s.g, f s.h]
def first16 (s : ByteArray) (i : Nat) : List BV := (List.range 64).map fun j => if j < i then word s j else 0
def rowU (ws : List BV) : Rw := ws.map fun x => [U x]
def rowI (ws : List BV) : Rw := ws.map fun x => [I x]
theorem ext_length : ∀ (n i : Nat) (ws : List BV), (ext n i ws).length = ws.length
  | 0, _, _ => rfl
  | n + 1, i, ws => by rw [ext, ext_length, List.length_set]
theorem first_length (s : ByteArray) (i : Nat) : (first16 s i).length = 64 := by simp [first16]
theorem first_set (s : ByteArray) {i : Nat} (hi : i < 64) : (first16 s i).set i (word s i) = first16 s (i + 1) := by
  apply List.ext_getElem
  · simp [first16]
  · intro j h1 h2
    rw [List.getElem_set]
    simp only [first16, List.getElem_map, List.getElem_range]
    by_cases h : i = j
    · subst h; simp
    · rw [if_neg h]
      by_cases h3 : j < i
      · rw [if_pos h3, if_pos (by omega)]
      · rw [if_neg h3, if_neg (by omega)]
/-! ### What operators do -/
theorem wrap32 (n : Int) : IntKind.u32.wrap n = n % 4294967296 := rfl
theorem ofInt_nat (x : BV) : BitVec.ofInt 32 (x.toNat : Int) = x := by simp
theorem U_eq {x y : BV} (h : x = y) : U x = U y := by rw [h]
theorem u_int {n : Int} {x : BV} (h : n % 4294967296 = (x.toNat : Int)) : Value.int .u32 (n % 4294967296) = U x := by rw [U, h]
theorem u_add (x y : BV) : binV .add (U x) (U y) = U (x + y) := by
  show Value.int .u32 (IntKind.u32.wrap _) = _
  rw [wrap32]
  refine u_int ?_
  rw [BitVec.toNat_add]
  omega
theorem u_xor (x y : BV) : binV .xor (U x) (U y) = U (x ^^^ y) := by
  show Value.int .u32 (IntKind.u32.wrap ((BitVec.ofInt 32 (x.toNat : Int) ^^^ BitVec.ofInt 32 (y.toNat : Int)).toNat : Int)) = _
  rw [ofInt_nat, ofInt_nat, wrap32]
  refine u_int ?_
  have := (x ^^^ y).isLt
  omega
theorem u_and (x y : BV) : binV .and (U x) (U y) = U (x &&& y) := by
  show Value.int .u32 (IntKind.u32.wrap ((BitVec.ofInt 32 (x.toNat : Int) &&& BitVec.ofInt 32 (y.toNat : Int)).toNat : Int)) = _
  rw [ofInt_nat, ofInt_nat, wrap32]
  refine u_int ?_
  have := (x &&& y).isLt
  omega
theorem u_or (x y : BV) : binV .or (U x) (U y) = U (x ||| y) := by
  show Value.int .u32 (IntKind.u32.wrap ((BitVec.ofInt 32 (x.toNat : Int) ||| BitVec.ofInt 32 (y.toNat : Int)).toNat : Int)) = _
  rw [ofInt_nat, ofInt_nat, wrap32]
  refine u_int ?_
  have := (x ||| y).isLt
  omega
theorem u_shr (x : BV) (n : Nat) (h : n < 32) : binV .shr (U x) (.int .u64 (n : Int)) = U (x >>> n) := by
  show Value.int .u32 (Int.fdiv _ (2 ^ (min (Int.toNat n) 32))) = _
  rw [Int.toNat_natCast, Nat.min_eq_left (by omega), U]
  congr 1
  rw [BitVec.toNat_ushiftRight, Nat.shiftRight_eq_div_pow]
  rw [Int.fdiv_eq_ediv_of_nonneg _ (by exact Int.le_of_lt (by exact_mod_cast Nat.two_pow_pos n))]
  norm_cast
theorem u_shl (x : BV) (n : Nat) (h : n < 32) : binV .shl (U x) (.int .u64 (n : Int)) = U (x <<< n) := by
  show Value.int .u32 (IntKind.u32.wrap (_ * 2 ^ (min (Int.toNat n) 32))) = _
  rw [Int.toNat_natCast, Nat.min_eq_left (by omega), wrap32]
  refine u_int ?_
  rw [BitVec.toNat_shiftLeft, Nat.shiftLeft_eq, Int.natCast_emod, Int.natCast_mul, Int.natCast_pow]
  rfl
theorem u_lit : Value.int .u32 4294967295 = U 4294967295#32 := rfl
theorem u_rot (x : BV) (n : Nat) (h0 : 0 < n) (h : n < 32) : binV .or (binV .shr (U x) (.int .u64 (n : Int))) (binV .shl (U x) (.int .u64 ((32 - n : Nat) : Int))) = U (rot x n) := by
  rw [u_shr _ _ h, u_shl _ _ (by omega), u_or]
  rfl
/-! ### The program's operators -/
theorem wrapI {n : Int} (h0 : 0 ≤ n) (h1 : n < 9223372036854775808) : IntKind.i64.wrap n = n := wrap64 (by omega) (by omega)
theorem ofNat64 (n : Nat) : BitVec.ofInt 64 (n : Int) = BitVec.ofNat 64 n := by simp
theorem i_xor (x y : BV) : binV .xor (I x) (I y) = I (x ^^^ y) := by
  show Value.int .i64 (IntKind.i64.wrap ((BitVec.ofInt 64 (x.toNat : Int) ^^^ BitVec.ofInt 64 (y.toNat : Int)).toNat : Int)) = _
  have h1 := x.isLt
  have h2 := y.isLt
  have h3 := (x ^^^ y).isLt
  have e : (BitVec.ofInt 64 (x.toNat : Int) ^^^ BitVec.ofInt 64 (y.toNat : Int)).toNat = (x ^^^ y).toNat := by
    rw [ofNat64, ofNat64, BitVec.toNat_xor, BitVec.toNat_ofNat, BitVec.toNat_ofNat, BitVec.toNat_xor, Nat.mod_eq_of_lt (by omega), Nat.mod_eq_of_lt (by omega)]
  rw [e, wrapI (by omega) (by omega)]
  rfl
theorem i_and (x y : BV) : binV .and (I x) (I y) = I (x &&& y) := by
  show Value.int .i64 (IntKind.i64.wrap ((BitVec.ofInt 64 (x.toNat : Int) &&& BitVec.ofInt 64 (y.toNat : Int)).toNat : Int)) = _
  have h1 := x.isLt
  have h2 := y.isLt
  have h3 := (x &&& y).isLt
  have e : (BitVec.ofInt 64 (x.toNat : Int) &&& BitVec.ofInt 64 (y.toNat : Int)).toNat = (x &&& y).toNat := by
    rw [ofNat64, ofNat64, BitVec.toNat_and, BitVec.toNat_ofNat, BitVec.toNat_ofNat, BitVec.toNat_and, Nat.mod_eq_of_lt (by omega), Nat.mod_eq_of_lt (by omega)]
  rw [e, wrapI (by omega) (by omega)]
  rfl
theorem i_shr (x : BV) (n : Nat) (k : IntKind) (h : n < 32) : binV .shr (I x) (.int k (n : Int)) = I (x >>> n) := by
  show Value.int .i64 (Int.fdiv _ (2 ^ (min (Int.toNat n) 64))) = _
  rw [Int.toNat_natCast, Nat.min_eq_left (by omega), I]
  congr 1
  rw [BitVec.toNat_ushiftRight, Nat.shiftRight_eq_div_pow]
  rw [Int.fdiv_eq_ediv_of_nonneg _ (by exact Int.le_of_lt (by exact_mod_cast Nat.two_pow_pos n))]
  norm_cast
/-- A number whose lowest 32 bits are a word. -/
def Lo (v : Value) (x : BV) (k : Nat) : Prop := ∃ a : Nat, v = .int .i64 (a : Int) ∧ a < k * 4294967296 ∧ a % 4294967296 = x.toNat
theorem lo_I (x : BV) : Lo (I x) x 1 := ⟨x.toNat, rfl, by have := x.isLt; omega, Nat.mod_eq_of_lt x.isLt⟩
theorem lo_add {v u : Value} {x y : BV} {k l : Nat} (h : Lo v x k) (h' : Lo u y l) (hk : k + l ≤ 1000) : Lo (binV .add v u) (x + y) (k + l) := by
  obtain ⟨a, rfl, ha, ea⟩ := h
  obtain ⟨b, rfl, hb, eb⟩ := h'
  have hab : a + b < (k + l) * 4294967296 := by rw [Nat.add_mul]; omega
  have hkl : (k + l) * 4294967296 ≤ 1000 * 4294967296 := Nat.mul_le_mul_right _ hk
  refine ⟨a + b, ?_, hab, ?_⟩
  · show Value.int .i64 (IntKind.i64.wrap ((a : Int) + b)) = _
    rw [wrapI (by omega) (by omega), Int.natCast_add]
  · rw [BitVec.toNat_add, ← ea, ← eb]
    omega
theorem and_mask (a : Nat) : ((BitVec.ofNat 64 a &&& 4294967295#64).toNat) = a % 4294967296 := by
  rw [BitVec.toNat_and, BitVec.toNat_ofNat, BitVec.toNat_ofNat, Nat.mod_eq_of_lt (show 4294967295 < 2 ^ 64 by decide), show (4294967295 : Nat) = 2 ^ 32 - 1 from rfl, Nat.and_two_pow_sub_one_eq_mod]
  omega
theorem lo_mask {v : Value} {x : BV} {k : Nat} (h : Lo v x k) : binV .and v (.int .i64 4294967295) = I x := by
  obtain ⟨a, rfl, ha, ea⟩ := h
  show Value.int .i64 (IntKind.i64.wrap ((BitVec.ofInt 64 (a : Int) &&& BitVec.ofInt 64 4294967295).toNat : Int)) = _
  rw [ofNat64, show BitVec.ofInt 64 4294967295 = 4294967295#64 from rfl, and_mask, ea, wrapI (by omega) (by have := x.isLt; omega)]
  rfl
theorem lo_rot (x : BV) (n : Nat) (k k' : IntKind) (h0 : 1 < n) (h : n < 32) : Lo (binV .or (binV .shr (I x) (.int k (n : Int))) (binV .shl (I x) (.int k' ((32 - n : Nat) : Int)))) (rot x n) 1073741824 := by
  rw [i_shr _ _ _ h]
  have hx := x.isLt
  have hs := (x >>> n).isLt
  have hp : x.toNat * 2 ^ (32 - n) < 4611686018427387904 := by
    have h2 : 2 ^ (32 - n) ≤ 2 ^ 30 := Nat.pow_le_pow_right (by decide) (by omega)
    have := Nat.mul_le_mul (Nat.le_of_lt_succ hx) h2
    have e : (2 : Nat) ^ 30 = 1073741824 := rfl
    rw [e] at this
    omega
  have e1 : binV .shl (I x) (.int k' ((32 - n : Nat) : Int)) = .int .i64 ((x.toNat * 2 ^ (32 - n) : Nat) : Int) := by
    show Value.int .i64 (IntKind.i64.wrap (_ * 2 ^ (min (Int.toNat _) 64))) = _
    rw [Int.toNat_natCast, Nat.min_eq_left (by omega)]
    have : ((x.toNat : Int) * 2 ^ (32 - n)) = ((x.toNat * 2 ^ (32 - n) : Nat) : Int) := by rw [Int.natCast_mul, Int.natCast_pow]; rfl
    rw [this, wrapI (by omega) (by omega)]
  rw [e1]
  have e2 : (BitVec.ofInt 64 ((x >>> n).toNat : Int) ||| BitVec.ofInt 64 ((x.toNat * 2 ^ (32 - n) : Nat) : Int)).toNat = (x >>> n).toNat ||| (x.toNat * 2 ^ (32 - n)) := by
    rw [ofNat64, ofNat64, BitVec.toNat_or, BitVec.toNat_ofNat, BitVec.toNat_ofNat, Nat.mod_eq_of_lt (by omega), Nat.mod_eq_of_lt (by omega)]
  have hor : (x >>> n).toNat ||| (x.toNat * 2 ^ (32 - n)) < 4611686018427387904 := Nat.or_lt_two_pow (n := 62) (by omega) (by omega)
  refine ⟨(x >>> n).toNat ||| (x.toNat * 2 ^ (32 - n)), ?_, by omega, ?_⟩
  · show Value.int .i64 (IntKind.i64.wrap ((BitVec.ofInt 64 ((x >>> n).toNat : Int) ||| BitVec.ofInt 64 ((x.toNat * 2 ^ (32 - n) : Nat) : Int)).toNat : Int)) = _
    rw [e2, wrapI (by omega) (by omega)]
  · rw [rot, BitVec.toNat_or, BitVec.toNat_shiftLeft, Nat.shiftLeft_eq, show (4294967296 : Nat) = 2 ^ 32 from rfl, Nat.or_mod_two_pow, Nat.mod_eq_of_lt (show (x >>> n).toNat < 2 ^ 32 from hs)]
theorem i_rot (x : BV) (n : Nat) (k k' : IntKind) (h0 : 1 < n) (h : n < 32) : binV .and (binV .or (binV .shr (I x) (.int k (n : Int))) (binV .shl (I x) (.int k' ((32 - n : Nat) : Int)))) (.int .i64 4294967295) = I (rot x n) := lo_mask (lo_rot x n k k' h0 h)
/-! ### Words out of bytes -/
theorem or_low (a b n : Nat) (h : b < 2 ^ n) : a * 2 ^ n ||| b = a * 2 ^ n + b := by
  rw [← Nat.shiftLeft_eq, ← Nat.shiftLeft_add_eq_or_of_lt h]
theorem i_byte (a b : Nat) (ha : a < 16777216) (hb : b < 256) : binV .or (binV .shl (.int .i64 (a : Int)) (.int .u64 8)) (.int .i64 (b : Int)) = .int .i64 ((a * 256 + b : Nat) : Int) := by
  have e1 : binV .shl (.int .i64 (a : Int)) (.int .u64 8) = .int .i64 ((a * 256 : Nat) : Int) := by
    show Value.int .i64 (IntKind.i64.wrap (_ * 2 ^ (min (Int.toNat 8) 64))) = _
    rw [show min (Int.toNat 8) 64 = 8 from rfl, wrapI (by omega) (by omega)]
    norm_cast
  rw [e1]
  show Value.int .i64 (IntKind.i64.wrap ((BitVec.ofInt 64 ((a * 256 : Nat) : Int) ||| BitVec.ofInt 64 (b : Int)).toNat : Int)) = _
  rw [ofNat64, ofNat64, BitVec.toNat_or, BitVec.toNat_ofNat, BitVec.toNat_ofNat, Nat.mod_eq_of_lt (by omega), Nat.mod_eq_of_lt (by omega), show a * 256 = a * 2 ^ 8 from rfl, or_low a b 8 hb, wrapI (by omega) (by omega)]
theorem cv_byte (s : ByteArray) (i : Nat) : cvV .i64 (.int .u8 (byt s i : Int)) = .int .i64 (byt s i : Int) := by
  show Value.int .i64 (IntKind.i64.wrap _) = _
  have := byt_lt s i
  rw [wrapI (by omega) (by omega)]
theorem word_nat (s : ByteArray) (i : Nat) : (word s i).toNat = ((byt s (4 * i) * 256 + byt s (4 * i + 1)) * 256 + byt s (4 * i + 2)) * 256 + byt s (4 * i + 3) := by
  have h0 := byt_lt s (4 * i)
  have h1 := byt_lt s (4 * i + 1)
  have h2 := byt_lt s (4 * i + 2)
  have h3 := byt_lt s (4 * i + 3)
  rw [word, BitVec.toNat_ofNat, Nat.mod_eq_of_lt (by omega)]
theorem i_word (s : ByteArray) (i : Nat) : binV .or (binV .shl (binV .or (binV .shl (binV .or (binV .shl (binV .or (binV .shl (I 0) (.int .u64 8)) (.int .i64 (byt s (4 * i) : Int))) (.int .u64 8)) (.int .i64 (byt s (4 * i + 1) : Int))) (.int .u64 8)) (.int .i64 (byt s (4 * i + 2) : Int))) (.int .u64 8)) (.int .i64 (byt s (4 * i + 3) : Int)) = I (word s i) := by
  have h0 := byt_lt s (4 * i)
  have h1 := byt_lt s (4 * i + 1)
  have h2 := byt_lt s (4 * i + 2)
  have h3 := byt_lt s (4 * i + 3)
  rw [show I 0 = Value.int .i64 ((0 : Nat) : Int) from rfl, i_byte _ _ (by omega) h0, i_byte _ _ (by omega) h1, i_byte _ _ (by omega) h2, i_byte _ _ (by omega) h3, I, word_nat]
  simp only [Nat.zero_mul, Nat.zero_add]
theorem cv_u (s : ByteArray) (i : Nat) : cvV .u32 (.int .u8 (byt s i : Int)) = U (BitVec.ofNat 32 (byt s i)) := by
  show Value.int .u32 (IntKind.u32.wrap _) = _
  rw [wrap32]
  refine u_int ?_
  rw [BitVec.toNat_ofNat]
  have := byt_lt s i
  omega
theorem u_word (s : ByteArray) (i : Nat) : BitVec.ofNat 32 (byt s (4 * i)) <<< 24 ||| BitVec.ofNat 32 (byt s (4 * i + 1)) <<< 16 ||| BitVec.ofNat 32 (byt s (4 * i + 2)) <<< 8 ||| BitVec.ofNat 32 (byt s (4 * i + 3)) = word s i := by
  have h0 := byt_lt s (4 * i)
  have h1 := byt_lt s (4 * i + 1)
  have h2 := byt_lt s (4 * i + 2)
  have h3 := byt_lt s (4 * i + 3)
  apply BitVec.eq_of_toNat_eq
  rw [word_nat]
  simp only [BitVec.toNat_or, BitVec.toNat_shiftLeft, BitVec.toNat_ofNat, Nat.shiftLeft_eq]
  rw [Nat.mod_eq_of_lt (a := byt s (4 * i)) (by omega), Nat.mod_eq_of_lt (a := byt s (4 * i + 1)) (by omega), Nat.mod_eq_of_lt (a := byt s (4 * i + 2)) (by omega), Nat.mod_eq_of_lt (a := byt s (4 * i + 3)) (by omega)]
  rw [Nat.mod_eq_of_lt (a := byt s (4 * i) * 2 ^ 24) (by omega), Nat.mod_eq_of_lt (a := byt s (4 * i + 1) * 2 ^ 16) (by omega), Nat.mod_eq_of_lt (a := byt s (4 * i + 2) * 2 ^ 8) (by omega)]
  rw [or_low (byt s (4 * i)) (byt s (4 * i + 1) * 2 ^ 16) 24 (by omega)]
  rw [show byt s (4 * i) * 2 ^ 24 + byt s (4 * i + 1) * 2 ^ 16 = (byt s (4 * i) * 2 ^ 8 + byt s (4 * i + 1)) * 2 ^ 16 by omega]
  rw [or_low _ (byt s (4 * i + 2) * 2 ^ 8) 16 (by omega)]
  rw [show (byt s (4 * i) * 2 ^ 8 + byt s (4 * i + 1)) * 2 ^ 16 + byt s (4 * i + 2) * 2 ^ 8 = ((byt s (4 * i) * 2 ^ 8 + byt s (4 * i + 1)) * 2 ^ 8 + byt s (4 * i + 2)) * 2 ^ 8 by omega]
  rw [or_low _ (byt s (4 * i + 3)) 8 (by omega)]
/-! ### Rows -/
theorem rowU_at {ws : List BV} {i : Nat} (h : i < ws.length) : ((rowU ws).getD i []).getD 0 undef = U (gw ws i) := by
  simp [rowU, gw, List.getD_eq_getElem?_getD, h]
theorem rowI_at {ws : List BV} {i : Nat} (h : i < ws.length) : ((rowI ws).getD i []).getD 0 undef = I (gw ws i) := by
  simp [rowI, gw, List.getD_eq_getElem?_getD, h]
theorem row_set (f : BV → Value) (ws : List BV) (i : Nat) (x : BV) : setRw (ws.map fun y => [f y]) i 0 [f x] = (ws.set i x).map fun y => [f y] := by
  rw [setRw_set (z := 1) rfl (fun e he => by simp at he; obtain ⟨y, _, rfl⟩ := he; rfl)]
  apply List.ext_getElem
  · simp
  · intro j h1 h2
    simp only [List.getElem_set, List.getElem_map]
    split <;> rfl
theorem rowU_set (ws : List BV) (i : Nat) (x : BV) : setRw (rowU ws) i 0 [U x] = rowU (ws.set i x) := row_set U ws i x
theorem rowI_set (ws : List BV) (i : Nat) (x : BV) : setRw (rowI ws) i 0 [I x] = rowI (ws.set i x) := row_set I ws i x
theorem rowU_length (ws : List BV) : (rowU ws).length = ws.length := by simp [rowU]
theorem rowI_length (ws : List BV) : (rowI ws).length = ws.length := by simp [rowI]
end Go.Proofs.Ytdfhkmekmockkaa.Rs
