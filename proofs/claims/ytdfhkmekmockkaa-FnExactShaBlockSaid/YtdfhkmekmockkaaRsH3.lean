/- FnExactShaBlock: loops and functions told. -/
import Derived.Test.YtdfhkmekmockkaaRsH2
namespace Go.Proofs.Ytdfhkmekmockkaa.Rs
open Go.RowKit
set_option linter.unusedVariables false
set_option linter.unusedSimpArgs false
set_option maxRecDepth 100000
theorem len1 {α : Type} {l : List α} (h : l.length = 1) : ∃ x0, l = [x0] := by
  match l, h with
  | [x0], _ => exact ⟨x0, rfl⟩
theorem len2 {α : Type} {l : List α} (h : l.length = 2) : ∃ x0 x1, l = [x0, x1] := by
  match l, h with
  | [x0, x1], _ => exact ⟨x0, x1, rfl⟩
theorem len8 {α : Type} {l : List α} (h : l.length = 8) : ∃ x0 x1 x2 x3 x4 x5 x6 x7, l = [x0, x1, x2, x3, x4, x5, x6, x7] := by
  match l, h with
  | [x0, x1, x2, x3, x4, x5, x6, x7], _ => exact ⟨x0, x1, x2, x3, x4, x5, x6, x7, rfl⟩
theorem len9 {α : Type} {l : List α} (h : l.length = 9) : ∃ x0 x1 x2 x3 x4 x5 x6 x7 x8, l = [x0, x1, x2, x3, x4, x5, x6, x7, x8] := by
  match l, h with
  | [x0, x1, x2, x3, x4, x5, x6, x7, x8], _ => exact ⟨x0, x1, x2, x3, x4, x5, x6, x7, x8, rfl⟩
theorem len10 {α : Type} {l : List α} (h : l.length = 10) : ∃ x0 x1 x2 x3 x4 x5 x6 x7 x8 x9, l = [x0, x1, x2, x3, x4, x5, x6, x7, x8, x9] := by
  match l, h with
  | [x0, x1, x2, x3, x4, x5, x6, x7, x8, x9], _ => exact ⟨x0, x1, x2, x3, x4, x5, x6, x7, x8, x9, rfl⟩
theorem len17 {α : Type} {l : List α} (h : l.length = 17) : ∃ x0 x1 x2 x3 x4 x5 x6 x7 x8 x9 x10 x11 x12 x13 x14 x15 x16, l = [x0, x1, x2, x3, x4, x5, x6, x7, x8, x9, x10, x11, x12, x13, x14, x15, x16] := by
  match l, h with
  | [x0, x1, x2, x3, x4, x5, x6, x7, x8, x9, x10, x11, x12, x13, x14, x15, x16], _ => exact ⟨x0, x1, x2, x3, x4, x5, x6, x7, x8, x9, x10, x11, x12, x13, x14, x15, x16, rfl⟩

theorem lss_nat {a b : Nat} (h : binV .lss (.int .i64 (a : Int)) (.int .i64 (b : Int)) = .bool true) : a < b := by
  simp only [binV, Value.bool.injEq, decide_eq_true_eq] at h
  omega
theorem lss_not {a b : Nat} (h : binV .lss (.int .i64 (a : Int)) (.int .i64 (b : Int)) = .bool false) : b ≤ a := by
  simp only [binV, Value.bool.injEq, decide_eq_false_iff_not] at h
  omega
theorem de_U (x : BV) : de (U x) = x := by simp [de, U, intV]
theorem de_I (x : BV) : de (I x) = x := by simp [de, I, intV]
theorem deR_map (f : BV → Value) (hf : ∀ x, de (f x) = x) (ws : List BV) : deR (ws.map fun x => [f x]) = ws := by
  simp only [deR, List.map_map]
  conv => rhs; rw [← List.map_id ws]
  apply List.map_congr_left
  intro x _
  exact hf x
theorem deR_U (ws : List BV) : deR (rowU ws) = ws := deR_map U de_U ws
theorem deR_I (ws : List BV) : deR (rowI ws) = ws := deR_map I de_I ws
theorem stOf_vals (f : BV → Value) (hf : ∀ x, de (f x) = x) (s : St) (r : List Value) : stOf (s.vals f ++ r) = s := by
  cases s
  simp [stOf, St.vals, hf]
theorem row_at (f : BV → Value) {ws : List BV} {i : Nat} (h : i < ws.length) : ((ws.map fun x => [f x] : Rw).getD i []).getD 0 undef = f (gw ws i) := by
  simp [gw, List.getD_eq_getElem?_getD, h]
def muN (k : Nat) (vs : List Value) (ls : List Rw) : Nat := 64 - natOf (vs.getD k undef)
theorem sub_nat {i k : Nat} (h : k ≤ i) (hi : i ≤ 64) : binV .sub (.int .i64 (i : Int)) (.int .i64 (k : Int)) = .int .i64 ((i - k : Nat) : Int) := by
  simp only [binV]
  rw [wrap64 (by omega) (by omega), Int.ofNat_sub h]
theorem mul_four {i : Nat} (hi : i ≤ 64) : binV .mul (.int .i64 4) (.int .i64 (i : Int)) = .int .i64 ((4 * i : Nat) : Int) := by
  simp only [binV]
  rw [wrap64 (by omega) (by omega)]
  congr 1
theorem add_nat {i k : Nat} (hi : i + k ≤ 1000) : binV .add (.int .i64 (i : Int)) (.int .i64 (k : Int)) = .int .i64 ((i + k : Nat) : Int) := add_int (by omega) (by omega) (by omega)
theorem lenInt (a b : Nat) (h : a = b) : Value.int .i64 (a : Int) = .int .i64 (b : Int) := by rw [h]

theorem t78L_ok : LpOk C0 ⟨78, 0, sL0⟩ := by
  refine loop_tree C0_ok (DbOk.nil C0) 10 10 t78_fn t78_body t78L_only t78L_in (fun al h => by simp [sL0] at h; subst h; rfl) (by decide) (by decide) (muN 1) t78L_run t78L_b ?_
  intro vs ls hv hl hpre
  obtain ⟨s, i, h0, h1, hi, hs, hr⟩ : sh0 vs ls := hpre
  obtain ⟨x0, x1, x2, x3, x4, x5, x6, x7, x8, x9, rfl⟩ := len10 hv
  obtain ⟨l0, l1, rfl⟩ := len2 hl
  obtain rfl : x0 = .string s := h0
  obtain rfl : x1 = .int .i64 (i : Int) := h1
  obtain rfl : l0 = rowU (first16 s i) := hr
  unfold t78L
  refine okl_ask (fun hc => ?_) (fun hc => ?_)
  · have hi' : i < 16 := lss_nat (b := 16) hc
    have m4 := mul_four (i := i) (by omega)
    have a0 : binV .add (.int .i64 ((4 * i : Nat) : Int)) (.int .i64 0) = .int .i64 ((4 * i : Nat) : Int) := add_nat (k := 0) (by omega)
    have a1 : binV .add (.int .i64 ((4 * i : Nat) : Int)) (.int .i64 1) = .int .i64 ((4 * i + 1 : Nat) : Int) := add_nat (k := 1) (by omega)
    have a2 : binV .add (.int .i64 ((4 * i : Nat) : Int)) (.int .i64 2) = .int .i64 ((4 * i + 2 : Nat) : Int) := add_nat (k := 2) (by omega)
    have a3 : binV .add (.int .i64 ((4 * i : Nat) : Int)) (.int .i64 3) = .int .i64 ((4 * i + 3 : Nat) : Int) := add_nat (k := 3) (by omega)
    have ai : binV .add (.int .i64 (i : Int)) (.int .i64 1) = .int .i64 ((i + 1 : Nat) : Int) := add_nat (k := 1) (by omega)
    have b0 := byt_ev (s := s) (i := 4 * i) rfl (by omega)
    have b1 := byt_ev (s := s) (i := 4 * i + 1) rfl (by omega)
    have b2 := byt_ev (s := s) (i := 4 * i + 2) rfl (by omega)
    have b3 := byt_ev (s := s) (i := 4 * i + 3) rfl (by omega)
    iterate 11 (refine okl_need (by simp only [Te.ev, RT.ev, TL.ev, RL.ev, syL, List.getD_cons_zero, List.getD_cons_succ, List.nil_append, List.cons_append, List.append_nil, natOf, Int.toNat_natCast, sizeV, hs, m4, a0, a1, a2, a3, rowU_length, rowI_length, first_length, setRw_length]; first | exact leq_true (by omega) | exact lss_true (by omega)) ?_)
    have sh24 : ∀ x, binV .shl (U x) (.int .u64 24) = U (x <<< 24) := fun x => u_shl x 24 (by decide)
    have sh16 : ∀ x, binV .shl (U x) (.int .u64 16) = U (x <<< 16) := fun x => u_shl x 16 (by decide)
    have sh8 : ∀ x, binV .shl (U x) (.int .u64 8) = U (x <<< 8) := fun x => u_shl x 8 (by decide)
    have hrow : setRw (rowU (first16 s i)) i 0 [binV .or (binV .or (binV .or (binV .shl (cvV .u32 (binV .andNot (.string s) (binV .mul (.int .i64 4) (.int .i64 (i : Int))))) (.int .u64 24)) (binV .shl (cvV .u32 (binV .andNot (.string s) (binV .add (binV .mul (.int .i64 4) (.int .i64 (i : Int))) (.int .i64 1)))) (.int .u64 16))) (binV .shl (cvV .u32 (binV .andNot (.string s) (binV .add (binV .mul (.int .i64 4) (.int .i64 (i : Int))) (.int .i64 2)))) (.int .u64 8))) (cvV .u32 (binV .andNot (.string s) (binV .add (binV .mul (.int .i64 4) (.int .i64 (i : Int))) (.int .i64 3))))] = rowU (first16 s (i + 1)) := by
      rw [m4, a1, a2, a3, b0, b1, b2, b3, cv_u, cv_u, cv_u, cv_u, sh24, sh16, sh8, u_or, u_or, u_or, u_word, rowU_set, first_set s (by omega)]
    refine ⟨⟨⟨s, i + 1, rfl, ?_, hi', hs, ?_⟩, ?_⟩, fun vs' ls' hv' hl' hf => ?_⟩
    · simp only [Te.ev, RT.ev, TL.ev, RL.ev, syL, List.getD_cons_zero, List.getD_cons_succ, List.nil_append, List.cons_append, List.append_nil, natOf, Int.toNat_natCast, ai]
    · simp only [Te.ev, RT.ev, TL.ev, RL.ev, syL, List.getD_cons_zero, List.getD_cons_succ, List.nil_append, List.cons_append, List.append_nil, natOf, Int.toNat_natCast]
      exact hrow
    · show muN 1 _ _ < muN 1 _ _
      simp only [muN, Te.ev, RT.ev, TL.ev, RL.ev, syL, List.getD_cons_zero, List.getD_cons_succ, List.nil_append, List.cons_append, List.append_nil, natOf, Int.toNat_natCast, ai]
      omega
    · obtain rfl : ls' = [rowU (first16 s 16)] := hf
      rfl
  · obtain rfl : i = 16 := by have := lss_not (b := 16) hc; omega
    rfl

theorem set_set {L : Rw} {i : Nat} (v u : Value) : setRw (L.set i [v]) i 0 [u] = L.set i [u] := by
  rw [setRw_upd]
  rfl
theorem set_get {L : Rw} {i : Nat} (hi : i < L.length) (v : Value) : ((L.set i [v]).getD i []).getD 0 undef = v := by
  simp [List.getD_eq_getElem?_getD, hi]
theorem first_zero (s : ByteArray) {i : Nat} (hi : i < 64) : gw (first16 s i) i = 0 := by
  simp [gw, first16, List.getD_eq_getElem?_getD, hi]
theorem rowI_set0 (ws : List BV) (i : Nat) (v : Value) : setRw (rowI ws) i 0 [v] = (rowI ws).set i [v] := setRw_set (z := 1) rfl (fun e he => by simp [rowI] at he; obtain ⟨y, _, rfl⟩ := he; rfl)
theorem rowI_put (ws : List BV) (i : Nat) (x : BV) : (rowI ws).set i [I x] = rowI (ws.set i x) := by rw [← rowI_set0, rowI_set]
theorem ext_step (i : Nat) (hi : i < 64) (ws : List BV) : ext (64 - i) i ws = ext (64 - (i + 1)) (i + 1) (ws.set i (nxt ws i)) := by
  rw [show 64 - i = 64 - (i + 1) + 1 by omega]
  rfl
theorem rnds_step (i : Nat) (hi : i < 64) (kw ws : List BV) (s : St) : rnds (64 - i) i kw ws s = rnds (64 - (i + 1)) (i + 1) kw ws (rnd (gw kw i) (gw ws i) s) := by
  rw [show 64 - i = 64 - (i + 1) + 1 by omega]
  rfl

theorem t82L_ok : LpOk C0 ⟨82, 0, pL0⟩ := by
  refine loop_tree C0_ok (DbOk.nil C0) 10 10 t82_fn t82_body t82L_only t82L_in (fun al h => by simp [pL0] at h; subst h; rfl) (by decide) (by decide) (muN 1) t82L_run t82L_b ?_
  intro vs ls hv hl hpre
  obtain ⟨s, i, h0, h1, hi, hs, hr⟩ : im0 vs ls := hpre
  obtain ⟨x0, x1, rfl⟩ := len2 hv
  obtain ⟨l0, l1, rfl⟩ := len2 hl
  obtain rfl : x0 = .string s := h0
  obtain rfl : x1 = .int .i64 (i : Int) := h1
  obtain rfl : l0 = rowI (first16 s i) := hr
  unfold t82L
  refine okl_ask (fun hc => ?_) (fun hc => ?_)
  · have hi' : i < 16 := lss_nat (b := 16) hc
    have m4 := mul_four (i := i) (by omega)
    have a0 : binV .add (.int .i64 ((4 * i : Nat) : Int)) (.int .i64 0) = .int .i64 ((4 * i : Nat) : Int) := add_nat (k := 0) (by omega)
    have a1 : binV .add (.int .i64 ((4 * i : Nat) : Int)) (.int .i64 1) = .int .i64 ((4 * i + 1 : Nat) : Int) := add_nat (k := 1) (by omega)
    have a2 : binV .add (.int .i64 ((4 * i : Nat) : Int)) (.int .i64 2) = .int .i64 ((4 * i + 2 : Nat) : Int) := add_nat (k := 2) (by omega)
    have a3 : binV .add (.int .i64 ((4 * i : Nat) : Int)) (.int .i64 3) = .int .i64 ((4 * i + 3 : Nat) : Int) := add_nat (k := 3) (by omega)
    have ai : binV .add (.int .i64 (i : Int)) (.int .i64 1) = .int .i64 ((i + 1 : Nat) : Int) := add_nat (k := 1) (by omega)
    have b0 := byt_ev (s := s) (i := 4 * i) rfl (by omega)
    have b1 := byt_ev (s := s) (i := 4 * i + 1) rfl (by omega)
    have b2 := byt_ev (s := s) (i := 4 * i + 2) rfl (by omega)
    have b3 := byt_ev (s := s) (i := 4 * i + 3) rfl (by omega)
    iterate 32 (refine okl_need (by simp only [Te.ev, RT.ev, TL.ev, RL.ev, syL, List.getD_cons_zero, List.getD_cons_succ, List.nil_append, List.cons_append, List.append_nil, natOf, Int.toNat_natCast, sizeV, hs, m4, a0, a1, a2, a3, rowU_length, rowI_length, first_length, setRw_length]; first | exact leq_true (by omega) | exact lss_true (by omega)) ?_)
    have c0 : ((rowI (first16 s i)).getD i []).getD 0 undef = I 0 := by rw [rowI_at (by rw [first_length]; omega), first_zero s (by omega)]
    have hil : i < (rowI (first16 s i)).length := by rw [rowI_length, first_length]; omega
    have hG := set_get hil
    have hrow : (rowI (first16 s i)).set i [I (word s i)] = rowI (first16 s (i + 1)) := by rw [rowI_put, first_set s (by omega)]
    refine ⟨⟨⟨s, i + 1, rfl, ?_, hi', hs, ?_⟩, ?_⟩, fun vs' ls' hv' hl' hf => ?_⟩
    · simp only [Te.ev, RT.ev, TL.ev, RL.ev, syL, List.getD_cons_zero, List.getD_cons_succ, List.nil_append, List.cons_append, List.append_nil, natOf, Int.toNat_natCast, ai]
    · simp only [Te.ev, RT.ev, TL.ev, RL.ev, syL, List.getD_cons_zero, List.getD_cons_succ, List.nil_append, List.cons_append, List.append_nil, natOf, Int.toNat_natCast, rowI_set0, set_set, hG, c0, m4, a0, a1, a2, a3, b0, b1, b2, b3, cv_byte]
      rw [i_word]
      exact hrow
    · show muN 1 _ _ < muN 1 _ _
      simp only [muN, Te.ev, RT.ev, TL.ev, RL.ev, syL, List.getD_cons_zero, List.getD_cons_succ, List.nil_append, List.cons_append, List.append_nil, natOf, Int.toNat_natCast, ai]
      omega
    · obtain rfl : ls' = [rowI (first16 s 16)] := hf
      rfl
  · obtain rfl : i = 16 := by have := lss_not (b := 16) hc; omega
    rfl

theorem t78L2_ok : LpOk C0 ⟨78, 2, sL2⟩ := by
  refine loop_tree C0_ok (DbOk.nil C0) 10 10 t78_fn t78_body t78L2_only t78L2_in (fun al h => by simp [sL2] at h; subst h; rfl) (by decide) (by decide) (muN 0) t78L2_run t78L2_b ?_
  intro vs ls hv hl hpre
  obtain ⟨i, ws, h0, hi0, hi, hws, hr⟩ : sh2 vs ls := hpre
  obtain ⟨x0, x1, x2, x3, x4, x5, x6, x7, x8, rfl⟩ := len9 hv
  obtain ⟨l0, l1, rfl⟩ := len2 hl
  obtain rfl : x0 = .int .i64 (i : Int) := h0
  obtain rfl : l0 = rowU ws := hr
  unfold t78L2
  refine okl_ask (fun hc => ?_) (fun hc => ?_)
  · have hi' : i < 64 := lss_nat (b := 64) hc
    have d15 : binV .sub (.int .i64 (i : Int)) (.int .i64 15) = .int .i64 ((i - 15 : Nat) : Int) := sub_nat (k := 15) (by omega) (by omega)
    have d2 : binV .sub (.int .i64 (i : Int)) (.int .i64 2) = .int .i64 ((i - 2 : Nat) : Int) := sub_nat (k := 2) (by omega) (by omega)
    have d16 : binV .sub (.int .i64 (i : Int)) (.int .i64 16) = .int .i64 ((i - 16 : Nat) : Int) := sub_nat (k := 16) (by omega) (by omega)
    have d7 : binV .sub (.int .i64 (i : Int)) (.int .i64 7) = .int .i64 ((i - 7 : Nat) : Int) := sub_nat (k := 7) (by omega) (by omega)
    have ai : binV .add (.int .i64 (i : Int)) (.int .i64 1) = .int .i64 ((i + 1 : Nat) : Int) := add_nat (k := 1) (by omega)
    have g15 := rowU_at (ws := ws) (i := i - 15) (by omega)
    have g2 := rowU_at (ws := ws) (i := i - 2) (by omega)
    have g16 := rowU_at (ws := ws) (i := i - 16) (by omega)
    have g7 := rowU_at (ws := ws) (i := i - 7) (by omega)
    have r7 : ∀ x, binV .or (binV .shr (U x) (.int .u64 7)) (binV .shl (U x) (.int .u64 25)) = U (rot x 7) := fun x => u_rot x 7 (by decide) (by decide)
    have r18 : ∀ x, binV .or (binV .shr (U x) (.int .u64 18)) (binV .shl (U x) (.int .u64 14)) = U (rot x 18) := fun x => u_rot x 18 (by decide) (by decide)
    have r17 : ∀ x, binV .or (binV .shr (U x) (.int .u64 17)) (binV .shl (U x) (.int .u64 15)) = U (rot x 17) := fun x => u_rot x 17 (by decide) (by decide)
    have r19 : ∀ x, binV .or (binV .shr (U x) (.int .u64 19)) (binV .shl (U x) (.int .u64 13)) = U (rot x 19) := fun x => u_rot x 19 (by decide) (by decide)
    have s3 : ∀ x, binV .shr (U x) (.int .u64 3) = U (x >>> 3) := fun x => u_shr x 3 (by decide)
    have s10 : ∀ x, binV .shr (U x) (.int .u64 10) = U (x >>> 10) := fun x => u_shr x 10 (by decide)
    iterate 27 (refine okl_need (by simp only [Te.ev, RT.ev, TL.ev, RL.ev, syL, List.getD_cons_zero, List.getD_cons_succ, List.nil_append, List.cons_append, List.append_nil, natOf, Int.toNat_natCast, d15, d2, d16, d7, rowU_length, rowI_length, hws]; first | exact leq_true (by omega) | exact lss_true (by omega)) ?_)
    refine ⟨⟨⟨i + 1, ws.set i (nxt ws i), ?_, by omega, hi', by rw [List.length_set]; exact hws, ?_⟩, ?_⟩, fun vs' ls' hv' hl' hf => ?_⟩
    · simp only [Te.ev, RT.ev, TL.ev, RL.ev, syL, List.getD_cons_zero, List.getD_cons_succ, List.nil_append, List.cons_append, List.append_nil, natOf, Int.toNat_natCast, ai]
    · simp only [Te.ev, RT.ev, TL.ev, RL.ev, syL, List.getD_cons_zero, List.getD_cons_succ, List.nil_append, List.cons_append, List.append_nil, natOf, Int.toNat_natCast, d15, d2, d16, d7, g15, g2, g16, g7, r7, r18, r17, r19, s3, s10, u_xor, u_add, rowU_set]
      rfl
    · show muN 0 _ _ < muN 0 _ _
      simp only [muN, Te.ev, RT.ev, TL.ev, RL.ev, syL, List.getD_cons_zero, List.getD_cons_succ, List.nil_append, List.cons_append, List.append_nil, natOf, Int.toNat_natCast, ai]
      omega
    · replace hf : ls' = _ := hf
      simp only [Te.ev, RT.ev, TL.ev, RL.ev, syL, List.getD_cons_zero, List.getD_cons_succ, List.nil_append, List.cons_append, List.append_nil, natOf, Int.toNat_natCast, ai, d15, d2, d16, d7, g15, g2, g16, g7, r7, r18, r17, r19, s3, s10, u_xor, u_add, rowU_set, deR_U, deR_I] at hf
      subst hf
      show [_] = [_]
      simp only [Te.ev, RT.ev, TL.ev, RL.ev, syL, List.getD_cons_zero, List.getD_cons_succ, List.nil_append, List.cons_append, List.append_nil, natOf, Int.toNat_natCast, deR_U, deR_I]
      rw [ext_step i hi']
      rfl
  · obtain rfl : i = 64 := by have := lss_not (b := 64) hc; omega
    show [_] = [_]
    simp only [Te.ev, RT.ev, TL.ev, RL.ev, syL, List.getD_cons_zero, List.getD_cons_succ, List.nil_append, List.cons_append, List.append_nil, natOf, Int.toNat_natCast, deR_U, deR_I]
    rfl

theorem t82L4_ok : LpOk C0 ⟨82, 4, pL4⟩ := by
  refine loop_tree C0_ok (DbOk.nil C0) 10 10 t82_fn t82_body t82L4_only t82L4_in (fun al h => by simp [pL4] at h; subst h; rfl) (by decide) (by decide) (muN 0) t82L4_run t82L4_b ?_
  intro vs ls hv hl hpre
  obtain ⟨i, ws, h0, hi0, hi, hws, hr⟩ : im2 vs ls := hpre
  obtain ⟨x0, rfl⟩ := len1 hv
  obtain ⟨l0, l1, rfl⟩ := len2 hl
  obtain rfl : x0 = .int .i64 (i : Int) := h0
  obtain rfl : l0 = rowI ws := hr
  unfold t82L4
  refine okl_ask (fun hc => ?_) (fun hc => ?_)
  · have hi' : i < 64 := lss_nat (b := 64) hc
    have d15 : binV .sub (.int .i64 (i : Int)) (.int .i64 15) = .int .i64 ((i - 15 : Nat) : Int) := sub_nat (k := 15) (by omega) (by omega)
    have d2 : binV .sub (.int .i64 (i : Int)) (.int .i64 2) = .int .i64 ((i - 2 : Nat) : Int) := sub_nat (k := 2) (by omega) (by omega)
    have d16 : binV .sub (.int .i64 (i : Int)) (.int .i64 16) = .int .i64 ((i - 16 : Nat) : Int) := sub_nat (k := 16) (by omega) (by omega)
    have d7 : binV .sub (.int .i64 (i : Int)) (.int .i64 7) = .int .i64 ((i - 7 : Nat) : Int) := sub_nat (k := 7) (by omega) (by omega)
    have ai : binV .add (.int .i64 (i : Int)) (.int .i64 1) = .int .i64 ((i + 1 : Nat) : Int) := add_nat (k := 1) (by omega)
    have g15 := rowI_at (ws := ws) (i := i - 15) (by omega)
    have g2 := rowI_at (ws := ws) (i := i - 2) (by omega)
    have g16 := rowI_at (ws := ws) (i := i - 16) (by omega)
    have g7 := rowI_at (ws := ws) (i := i - 7) (by omega)
    have r7 : ∀ x, binV .and (binV .or (binV .shr (I x) (.int .i64 7)) (binV .shl (I x) (.int .i64 25))) (.int .i64 4294967295) = I (rot x 7) := fun x => i_rot x 7 .i64 .i64 (by decide) (by decide)
    have r18 : ∀ x, binV .and (binV .or (binV .shr (I x) (.int .i64 18)) (binV .shl (I x) (.int .i64 14))) (.int .i64 4294967295) = I (rot x 18) := fun x => i_rot x 18 .i64 .i64 (by decide) (by decide)
    have r17 : ∀ x, binV .and (binV .or (binV .shr (I x) (.int .i64 17)) (binV .shl (I x) (.int .i64 15))) (.int .i64 4294967295) = I (rot x 17) := fun x => i_rot x 17 .i64 .i64 (by decide) (by decide)
    have r19 : ∀ x, binV .and (binV .or (binV .shr (I x) (.int .i64 19)) (binV .shl (I x) (.int .i64 13))) (.int .i64 4294967295) = I (rot x 19) := fun x => i_rot x 19 .i64 .i64 (by decide) (by decide)
    have s3 : ∀ x, binV .shr (I x) (.int .u64 3) = I (x >>> 3) := fun x => i_shr x 3 .u64 (by decide)
    have s10 : ∀ x, binV .shr (I x) (.int .u64 10) = I (x >>> 10) := fun x => i_shr x 10 .u64 (by decide)
    have hsum : ∀ a b c d, binV .and (binV .add (binV .add (binV .add (I a) (I b)) (I c)) (I d)) (.int .i64 4294967295) = I (a + b + c + d) := fun a b c d => lo_mask (lo_add (lo_add (lo_add (lo_I a) (lo_I b) (by decide)) (lo_I c) (by decide)) (lo_I d) (by decide))
    iterate 15 (refine okl_need (by simp only [Te.ev, RT.ev, TL.ev, RL.ev, syL, List.getD_cons_zero, List.getD_cons_succ, List.nil_append, List.cons_append, List.append_nil, natOf, Int.toNat_natCast, d15, d2, d16, d7, rowU_length, rowI_length, hws]; first | exact leq_true (by omega) | exact lss_true (by omega)) ?_)
    refine ⟨⟨⟨i + 1, ws.set i (nxt ws i), ?_, by omega, hi', by rw [List.length_set]; exact hws, ?_⟩, ?_⟩, fun vs' ls' hv' hl' hf => ?_⟩
    · simp only [Te.ev, RT.ev, TL.ev, RL.ev, syL, List.getD_cons_zero, List.getD_cons_succ, List.nil_append, List.cons_append, List.append_nil, natOf, Int.toNat_natCast, ai]
    · simp only [Te.ev, RT.ev, TL.ev, RL.ev, syL, List.getD_cons_zero, List.getD_cons_succ, List.nil_append, List.cons_append, List.append_nil, natOf, Int.toNat_natCast, d15, d2, d16, d7, g15, g2, g16, g7, r7, r18, r17, r19, s3, s10, i_xor, hsum, rowI_set]
      rfl
    · show muN 0 _ _ < muN 0 _ _
      simp only [muN, Te.ev, RT.ev, TL.ev, RL.ev, syL, List.getD_cons_zero, List.getD_cons_succ, List.nil_append, List.cons_append, List.append_nil, natOf, Int.toNat_natCast, ai]
      omega
    · replace hf : ls' = _ := hf
      simp only [Te.ev, RT.ev, TL.ev, RL.ev, syL, List.getD_cons_zero, List.getD_cons_succ, List.nil_append, List.cons_append, List.append_nil, natOf, Int.toNat_natCast, ai, d15, d2, d16, d7, g15, g2, g16, g7, r7, r18, r17, r19, s3, s10, i_xor, hsum, rowI_set, deR_U, deR_I] at hf
      subst hf
      show [_] = [_]
      simp only [Te.ev, RT.ev, TL.ev, RL.ev, syL, List.getD_cons_zero, List.getD_cons_succ, List.nil_append, List.cons_append, List.append_nil, natOf, Int.toNat_natCast, deR_U, deR_I]
      rw [ext_step i hi']
      rfl
  · obtain rfl : i = 64 := by have := lss_not (b := 64) hc; omega
    show [_] = [_]
    simp only [Te.ev, RT.ev, TL.ev, RL.ev, syL, List.getD_cons_zero, List.getD_cons_succ, List.nil_append, List.cons_append, List.append_nil, natOf, Int.toNat_natCast, deR_U, deR_I]
    rfl

theorem f13 (f : Nat) (g : BV → Value) (hg : ∀ x, de (g x) = x) (hf : f = 13 ∧ g = U ∨ f = 23 ∧ g = I) {s : St} {i : Nat} {r : List Value} {kw ws : List BV} {rs ls' : List Rw} {vs' : List Value} :
    fc f (g s.a :: g s.b :: g s.c :: g s.d :: g s.e :: g s.f :: g s.g :: g s.h :: .int .i64 (i : Int) :: r) ((kw.map fun x => [g x]) :: (ws.map fun x => [g x]) :: rs) vs' ls' ↔ vs' = (rnds (64 - i) i kw ws s).vals g := by
  have h1 : stOf (g s.a :: g s.b :: g s.c :: g s.d :: g s.e :: g s.f :: g s.g :: g s.h :: .int .i64 (i : Int) :: r) = s := stOf_vals g hg s (.int .i64 (i : Int) :: r)
  have h2 := deR_map g hg kw
  have h3 := deR_map g hg ws
  rcases hf with ⟨rfl, rfl⟩ | ⟨rfl, rfl⟩
  · show vs' = (rnds _ _ (deR _) (deR _) (stOf _)).vals U ↔ _
    simp only [List.getD_cons_zero, List.getD_cons_succ, natOf, Int.toNat_natCast]
    rw [h1, h2, h3]
  · show vs' = (rnds _ _ (deR _) (deR _) (stOf _)).vals I ↔ _
    simp only [List.getD_cons_zero, List.getD_cons_succ, natOf, Int.toNat_natCast]
    rw [h1, h2, h3]
theorem len3 {α : Type} {l : List α} (h : l.length = 3) : ∃ x0 x1 x2, l = [x0, x1, x2] := by
  match l, h with
  | [x0, x1, x2], _ => exact ⟨x0, x1, x2, rfl⟩

theorem t78L4_ok : LpOk C0 ⟨78, 4, sL4⟩ := by
  refine loop_tree C0_ok (DbOk.nil C0) 10 10 t78_fn t78_body t78L4_only t78L4_in (fun al h => by simp [sL4] at h; subst h; rfl) (by decide) (by decide) (muN 8) t78L4_run t78L4_b ?_
  intro vs ls hv hl hpre
  obtain ⟨i, kw, ws, s, r, h0, hi, hkw, hws, hr0, hr1⟩ : sh4 U vs ls := hpre
  subst h0
  obtain ⟨x0, x1, x2, x3, x4, x5, x6, x7, rfl⟩ : ∃ x0 x1 x2 x3 x4 x5 x6 x7, r = [x0, x1, x2, x3, x4, x5, x6, x7] := by
    have : r.length = 8 := by simpa [St.vals, sL4] using hv
    exact len8 this
  obtain ⟨l0, l1, rfl⟩ := len2 hl
  obtain rfl : l0 = (kw.map fun x => [U x]) := hr0
  obtain rfl : l1 = (ws.map fun x => [U x]) := hr1
  unfold t78L4
  simp only [St.vals, List.cons_append, List.nil_append]
  refine okl_ask (fun hc => ?_) (fun hc => ?_)
  · have hi' : i < 64 := lss_nat (b := 64) hc
    have ai : binV .add (.int .i64 (i : Int)) (.int .i64 1) = .int .i64 ((i + 1 : Nat) : Int) := add_nat (k := 1) (by omega)
    have gk := row_at U (ws := kw) (i := i) (by omega)
    have gx := row_at U (ws := ws) (i := i) (by omega)
    have r6 : ∀ x, binV .or (binV .shr (U x) (.int .u64 6)) (binV .shl (U x) (.int .u64 26)) = U (rot x 6) := fun x => u_rot x 6 (by decide) (by decide)
    have r11 : ∀ x, binV .or (binV .shr (U x) (.int .u64 11)) (binV .shl (U x) (.int .u64 21)) = U (rot x 11) := fun x => u_rot x 11 (by decide) (by decide)
    have r25 : ∀ x, binV .or (binV .shr (U x) (.int .u64 25)) (binV .shl (U x) (.int .u64 7)) = U (rot x 25) := fun x => u_rot x 25 (by decide) (by decide)
    have r2 : ∀ x, binV .or (binV .shr (U x) (.int .u64 2)) (binV .shl (U x) (.int .u64 30)) = U (rot x 2) := fun x => u_rot x 2 (by decide) (by decide)
    have r13 : ∀ x, binV .or (binV .shr (U x) (.int .u64 13)) (binV .shl (U x) (.int .u64 19)) = U (rot x 13) := fun x => u_rot x 13 (by decide) (by decide)
    have r22 : ∀ x, binV .or (binV .shr (U x) (.int .u64 22)) (binV .shl (U x) (.int .u64 10)) = U (rot x 22) := fun x => u_rot x 22 (by decide) (by decide)
    iterate 6 (refine okl_need (by simp only [Te.ev, RT.ev, TL.ev, RL.ev, syL, List.getD_cons_zero, List.getD_cons_succ, List.nil_append, List.cons_append, List.append_nil, natOf, Int.toNat_natCast, List.length_map, hkw, hws]; first | exact leq_true (by omega) | exact lss_true (by omega)) ?_)
    refine ⟨⟨⟨i + 1, kw, ws, rnd (gw kw i) (gw ws i) s, [x0, x1, x2, x3, x4, x5, x6, x7], ?_, hi', hkw, hws, rfl, rfl⟩, ?_⟩, fun vs' ls' hv' hl' hf => ?_⟩
    · simp only [Te.ev, RT.ev, TL.ev, RL.ev, syL, List.getD_cons_zero, List.getD_cons_succ, List.nil_append, List.cons_append, List.append_nil, natOf, Int.toNat_natCast, ai, gk, gx, r6, r11, r25, r2, r13, r22, u_xor, u_and, u_add, u_lit]
      rfl
    · show muN 8 _ _ < muN 8 _ _
      simp only [muN, Te.ev, RT.ev, TL.ev, RL.ev, syL, List.getD_cons_zero, List.getD_cons_succ, List.nil_append, List.cons_append, List.append_nil, natOf, Int.toNat_natCast, ai]
      omega
    · replace hf : fc 13 _ _ vs' ls' := hf
      simp only [Te.ev, RT.ev, TL.ev, RL.ev, syL, List.getD_cons_zero, List.getD_cons_succ, List.nil_append, List.cons_append, List.append_nil, natOf, Int.toNat_natCast, ai, gk, gx, r6, r11, r25, r2, r13, r22, u_xor, u_and, u_add, u_lit] at hf
      have hf2 := (f13 13 U de_U (by simp) (s := rnd (gw kw i) (gw ws i) s)).1 hf
      rw [← rnds_step i hi'] at hf2
      subst hf2
      exact (f13 13 U de_U (by simp) (s := s) (ls' := [])).2 rfl
  · obtain rfl : i = 64 := by have := lss_not (b := 64) hc; omega
    exact (f13 13 U de_U (by simp) (s := s) (ls' := [])).2 rfl

theorem t26L_ok : LpOk C0 ⟨26, 0, pM0⟩ := by
  refine loop_tree C0_ok (DbOk.nil C0) 10 10 t26_fn t26_body t26L_only t26L_in (fun al h => by simp [pM0] at h; subst h; rfl) (by decide) (by decide) (muN 8) t26L_run t26L_b ?_
  intro vs ls hv hl hpre
  obtain ⟨i, kw, ws, s, r, h0, hi, hkw, hws, hr0, hr1⟩ : sh4 I vs ls := hpre
  subst h0
  obtain ⟨_, rfl⟩ : ∃ _u : Unit, r = [] := by
    have : r.length = 0 := by simpa [St.vals, pM0] using hv
    exact ⟨(), List.eq_nil_of_length_eq_zero this⟩
  obtain ⟨l0, l1, l2, rfl⟩ := len3 hl
  obtain rfl : l0 = (kw.map fun x => [I x]) := hr0
  obtain rfl : l1 = (ws.map fun x => [I x]) := hr1
  unfold t26L
  simp only [St.vals, List.cons_append, List.nil_append]
  refine okl_ask (fun hc => ?_) (fun hc => ?_)
  · have hi' : i < 64 := lss_nat (b := 64) hc
    have ai : binV .add (.int .i64 (i : Int)) (.int .i64 1) = .int .i64 ((i + 1 : Nat) : Int) := add_nat (k := 1) (by omega)
    have gk := row_at I (ws := kw) (i := i) (by omega)
    have gx := row_at I (ws := ws) (i := i) (by omega)
    have r6 : ∀ x, binV .and (binV .or (binV .shr (I x) (.int .i64 6)) (binV .shl (I x) (.int .i64 26))) (.int .i64 4294967295) = I (rot x 6) := fun x => i_rot x 6 .i64 .i64 (by decide) (by decide)
    have r11 : ∀ x, binV .and (binV .or (binV .shr (I x) (.int .i64 11)) (binV .shl (I x) (.int .i64 21))) (.int .i64 4294967295) = I (rot x 11) := fun x => i_rot x 11 .i64 .i64 (by decide) (by decide)
    have r25 : ∀ x, binV .and (binV .or (binV .shr (I x) (.int .i64 25)) (binV .shl (I x) (.int .i64 7))) (.int .i64 4294967295) = I (rot x 25) := fun x => i_rot x 25 .i64 .i64 (by decide) (by decide)
    have r2 : ∀ x, binV .and (binV .or (binV .shr (I x) (.int .i64 2)) (binV .shl (I x) (.int .i64 30))) (.int .i64 4294967295) = I (rot x 2) := fun x => i_rot x 2 .i64 .i64 (by decide) (by decide)
    have r13 : ∀ x, binV .and (binV .or (binV .shr (I x) (.int .i64 13)) (binV .shl (I x) (.int .i64 19))) (.int .i64 4294967295) = I (rot x 13) := fun x => i_rot x 13 .i64 .i64 (by decide) (by decide)
    have r22 : ∀ x, binV .and (binV .or (binV .shr (I x) (.int .i64 22)) (binV .shl (I x) (.int .i64 10))) (.int .i64 4294967295) = I (rot x 22) := fun x => i_rot x 22 .i64 .i64 (by decide) (by decide)
    have hm : Value.int .i64 4294967295 = I 4294967295#32 := rfl
    have hxe : ∀ x, binV .xor (.int .i64 4294967295) (I x) = I (x ^^^ 4294967295#32) := fun x => (i_xor 4294967295#32 x).trans (congrArg I (BitVec.xor_comm _ _))
    have ht : ∀ a b c d e, Lo (binV .add (binV .add (binV .add (binV .add (I a) (I b)) (I c)) (I d)) (I e)) (a + b + c + d + e) (1 + 1 + 1 + 1 + 1) := fun a b c d e => lo_add (lo_add (lo_add (lo_add (lo_I a) (lo_I b) (by decide)) (lo_I c) (by decide)) (lo_I d) (by decide)) (lo_I e) (by decide)
    have hu : ∀ a b, Lo (binV .add (I a) (I b)) (a + b) (1 + 1) := fun a b => lo_add (lo_I a) (lo_I b) (by decide)
    have hs1 : ∀ a b c d e f g, binV .and (binV .add (binV .add (binV .add (binV .add (binV .add (I a) (I b)) (I c)) (I d)) (I e)) (binV .add (I f) (I g))) (.int .i64 4294967295) = I (a + b + c + d + e + (f + g)) := fun a b c d e f g => lo_mask (lo_add (ht a b c d e) (hu f g) (by decide))
    have hs2 : ∀ x a b c d e, binV .and (binV .add (I x) (binV .add (binV .add (binV .add (binV .add (I a) (I b)) (I c)) (I d)) (I e))) (.int .i64 4294967295) = I (x + (a + b + c + d + e)) := fun x a b c d e => lo_mask (lo_add (lo_I x) (ht a b c d e) (by decide))
    iterate 6 (refine okl_need (by simp only [Te.ev, RT.ev, TL.ev, RL.ev, syL, List.getD_cons_zero, List.getD_cons_succ, List.nil_append, List.cons_append, List.append_nil, natOf, Int.toNat_natCast, List.length_map, hkw, hws]; first | exact leq_true (by omega) | exact lss_true (by omega)) ?_)
    refine ⟨⟨⟨i + 1, kw, ws, rnd (gw kw i) (gw ws i) s, [], ?_, hi', hkw, hws, rfl, rfl⟩, ?_⟩, fun vs' ls' hv' hl' hf => ?_⟩
    · simp only [Te.ev, RT.ev, TL.ev, RL.ev, syL, List.getD_cons_zero, List.getD_cons_succ, List.nil_append, List.cons_append, List.append_nil, natOf, Int.toNat_natCast, ai, gk, gx, r6, r11, r25, r2, r13, r22, hxe, i_xor, i_and, hs1, hs2]
      rfl
    · show muN 8 _ _ < muN 8 _ _
      simp only [muN, Te.ev, RT.ev, TL.ev, RL.ev, syL, List.getD_cons_zero, List.getD_cons_succ, List.nil_append, List.cons_append, List.append_nil, natOf, Int.toNat_natCast, ai]
      omega
    · replace hf : fc 23 _ _ vs' ls' := hf
      simp only [Te.ev, RT.ev, TL.ev, RL.ev, syL, List.getD_cons_zero, List.getD_cons_succ, List.nil_append, List.cons_append, List.append_nil, natOf, Int.toNat_natCast, ai, gk, gx, r6, r11, r25, r2, r13, r22, hxe, i_xor, i_and, hs1, hs2] at hf
      have hf2 := (f13 23 I de_I (by simp) (s := rnd (gw kw i) (gw ws i) s)).1 hf
      rw [← rnds_step i hi'] at hf2
      subst hf2
      exact (f13 23 I de_I (by simp) (s := s) (ls' := [])).2 rfl
  · obtain rfl : i = 64 := by have := lss_not (b := 64) hc; omega
    exact (f13 23 I de_I (by simp) (s := s) (ls' := [])).2 rfl
end Go.Proofs.Ytdfhkmekmockkaa.Rs
