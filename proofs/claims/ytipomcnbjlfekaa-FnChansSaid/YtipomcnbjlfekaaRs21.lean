/- A symbolic machine over the model's operations. Part 21: trees by rewriting: what a tree comes to, step by step. No program in sight. -/
import Derived.Test.YtipomcnbjlfekaaRs20
namespace Go.Proofs.Ytipomcnbjlfekaa.Rs
open Go.RowKit
set_option linter.unusedVariables false
set_option linter.unusedSimpArgs false
def askV (v : Value) (x y : Option Res) : Option Res := match v with
  | .bool true => x
  | .bool false => y
  | _ => none
def needV (v : Value) (x : Option Res) : Option Res := match v with
  | .bool true => x
  | _ => none
def callV (r : Option Res) (k : Res → Option Res) : Option Res := match r with
  | some res => k res
  | none => none
theorem askV_bool (b : Bool) (x y : Option Res) : askV (.bool b) x y = if b = true then x else y := by cases b <;> rfl
theorem needV_bool (b : Bool) (x : Option Res) : needV (.bool b) x = if b = true then x else none := by cases b <;> rfl
theorem callV_some (r : Res) (k : Res → Option Res) : callV (some r) k = k r := rfl
theorem go_ask (F : Phi) (c : Te) (x y : Ot) (vs : List Value) (ls : List Rw) : (Ot.ask c x y).go F vs ls = askV (c.ev (syL vs ls)) (x.go F vs ls) (y.go F vs ls) := by
  simp only [Ot.go]
  generalize c.ev (syL vs ls) = v
  unfold askV
  rcases v with _ | b | _ | _ | _ | _ | _ | _ | _ | _ | _ | _ <;> first | rfl | (cases b <;> rfl)
theorem go_need (F : Phi) (c : Te) (x : Ot) (vs : List Value) (ls : List Rw) : (Ot.need c x).go F vs ls = needV (c.ev (syL vs ls)) (x.go F vs ls) := by
  simp only [Ot.go]
  generalize c.ev (syL vs ls) = v
  unfold needV
  rcases v with _ | b | _ | _ | _ | _ | _ | _ | _ | _ | _ | _ <;> first | rfl | (cases b <;> rfl)
theorem go_call (F : Phi) (p : Nat) (a : List Te) (r : List RT) (k : Os) (vs : List Value) (ls : List Rw) : (Ot.call p a r k).go F vs ls = callV (F p (a.map (Te.ev (syL vs ls))) (r.map (RT.ev (syL vs ls)))) (fun res => k.go F res vs ls) := by
  simp only [Ot.go, callV]
  cases F p (a.map (Te.ev (syL vs ls))) (r.map (RT.ev (syL vs ls))) <;> rfl
theorem go_ret (F : Phi) (k : Nat) (v : List Te) (l : List RT) (vs : List Value) (ls : List Rw) : (Ot.ret k v l).go F vs ls = some (k, v.map (Te.ev (syL vs ls)), l.map (RT.ev (syL vs ls))) := by simp only [Ot.go]
theorem go_one (F : Phi) (mv mr k j : Nat) (x : Ot) (v : List Value) (l : List Rw) (vs : List Value) (ls : List Rw) : (Os.one mv mr k x).go F (j, v, l) vs ls = if j = k then x.go F (vs ++ v) (ls ++ l) else none := by simp only [Os.go]
theorem go_more (F : Phi) (mv mr k j : Nat) (x : Ot) (rest : Os) (v : List Value) (l : List Rw) (vs : List Value) (ls : List Rw) : (Os.more mv mr k x rest).go F (j, v, l) vs ls = if j = k then x.go F (vs ++ v) (ls ++ l) else rest.go F (j, v, l) vs ls := by simp only [Os.go]
theorem selfP_zero (F : Phi) (p : Nat) : selfP F p 0 = F p := rfl
theorem selfP_succ (F : Phi) (p n : Nat) : selfP F p (n + 1) = F (n + 1) := rfl
abbrev I (x : Int) : Value := .int .i64 x
abbrev B (b : Bool) : Value := .bool b
def wr (x : Int) : Int := IntKind.i64.wrap x
theorem wr_id {x : Int} (h0 : -9223372036854775808 ≤ x) (h1 : x ≤ 9223372036854775807) : wr x = x := by
  unfold wr
  rw [IntKind.wrap_i64]; omega
theorem bv_add (a b : Int) : binV .add (.int .i64 a) (.int .i64 b) = .int .i64 (wr (a + b)) := rfl
theorem bv_sub (a b : Int) : binV .sub (.int .i64 a) (.int .i64 b) = .int .i64 (wr (a - b)) := rfl
theorem bv_mul (a b : Int) : binV .mul (.int .i64 a) (.int .i64 b) = .int .i64 (wr (a * b)) := rfl
theorem bv_eql (k j : IntKind) (a b : Int) : binV .eql (.int k a) (.int j b) = .bool (decide (a = b)) := rfl
theorem bv_neq (k j : IntKind) (a b : Int) : binV .neq (.int k a) (.int j b) = .bool (!decide (a = b)) := rfl
theorem bv_lss (k j : IntKind) (a b : Int) : binV .lss (.int k a) (.int j b) = .bool (decide (a < b)) := rfl
theorem bv_leq (k j : IntKind) (a b : Int) : binV .leq (.int k a) (.int j b) = .bool (decide (a ≤ b)) := rfl
theorem bv_gtr (k j : IntKind) (a b : Int) : binV .gtr (.int k a) (.int j b) = .bool (decide (b < a)) := rfl
theorem bv_geq (k j : IntKind) (a b : Int) : binV .geq (.int k a) (.int j b) = .bool (decide (b ≤ a)) := rfl
theorem bv_rem (k j : IntKind) (a b : Int) : binV .rem (.int k a) (.int j b) = .int k (a.tmod b) := rfl
theorem isT_bool (b : Bool) : isT (.bool b) = b := rfl
theorem natOf_int (k : IntKind) (a : Int) : natOf (.int k a) = a.toNat := rfl
end Go.Proofs.Ytipomcnbjlfekaa.Rs
