/- FnExactShaBlock: the two functions told. -/
import Derived.Test.YtdfhkmekmockkaaRsH3
namespace Go.Proofs.Ytdfhkmekmockkaa.Rs
open Go.RowKit
set_option linter.unusedVariables false
set_option linter.unusedSimpArgs false
set_option maxRecDepth 100000

theorem inW_false {L : Rw} {i : Nat} (hi : i < L.length) {x : Int} (hx : cel L i 0 = .int .i64 x) (h : ¬ (0 ≤ x ∧ x ≤ 4294967295)) : inW L = false := by
  rw [inW, List.all_eq_false]
  refine ⟨L[i], List.getElem_mem hi, ?_⟩
  have : (L[i]).getD 0 undef = .int .i64 x := by rw [← hx, cel]; simp [List.getD_eq_getElem?_getD, hi]
  intro hh
  rw [this, Bool.and_eq_true] at hh
  exact h ⟨of_decide_eq_true hh.1, of_decide_eq_true hh.2⟩
theorem inW_next {L : Rw} {i : Nat} (hi : i < L.length) {x : Int} (hx : cel L i 0 = .int .i64 x) (h0 : 0 ≤ x) (h1 : x ≤ 4294967295) (h : inW (L.take i) = true) : inW (L.take (i + 1)) = true := by
  have : (L[i]).getD 0 undef = .int .i64 x := by rw [← hx, cel]; simp [List.getD_eq_getElem?_getD, hi]
  rw [inW] at h ⊢
  rw [List.take_add_one, List.getElem?_eq_getElem hi, List.all_append, h]
  simp only [Option.toList, List.all_cons, List.all_nil, this, intV, Bool.and_true, Bool.true_and, Bool.and_eq_true, decide_eq_true_eq]
  exact ⟨h0, h1⟩
theorem sha_same {L : Rw} {s : ByteArray} (h : ¬ (L.length = 8 ∧ s.size = 64 ∧ inW L = true)) : shaF L s = L := by rw [shaF, if_neg h]
theorem eight_rows {L : Rw} (hl : L.length = 8) (hr : IntRows 1 L) : ∃ x0 x1 x2 x3 x4 x5 x6 x7 : Int, L = [[.int .i64 x0], [.int .i64 x1], [.int .i64 x2], [.int .i64 x3], [.int .i64 x4], [.int .i64 x5], [.int .i64 x6], [.int .i64 x7]] := by
  have hone : ∀ e ∈ L, ∃ x : Int, e = [.int .i64 x] := by
    intro e he
    obtain ⟨i, hi, rfl⟩ := List.getElem_of_mem he
    obtain ⟨a, ha⟩ := hr.at_ hi (show 0 < 1 by decide)
    have hlen := hr.len _ (List.getElem_mem hi)
    rw [cel] at ha
    have : (L[i]).getD 0 undef = .int .i64 a := by rw [← ha]; simp [List.getD_eq_getElem?_getD, hi]
    revert this hlen
    generalize L[i] = e
    intro hlen this
    match e, hlen with
    | [v], _ => exact ⟨a, by simpa using this⟩
  match L, hl with
  | [e0, e1, e2, e3, e4, e5, e6, e7], _ =>
    obtain ⟨x0, rfl⟩ := hone e0 (by simp)
    obtain ⟨x1, rfl⟩ := hone e1 (by simp)
    obtain ⟨x2, rfl⟩ := hone e2 (by simp)
    obtain ⟨x3, rfl⟩ := hone e3 (by simp)
    obtain ⟨x4, rfl⟩ := hone e4 (by simp)
    obtain ⟨x5, rfl⟩ := hone e5 (by simp)
    obtain ⟨x6, rfl⟩ := hone e6 (by simp)
    obtain ⟨x7, rfl⟩ := hone e7 (by simp)
    exact ⟨x0, x1, x2, x3, x4, x5, x6, x7, rfl⟩
theorem word_of {x : Int} (h0 : 0 ≤ x) (h1 : x ≤ 4294967295) : ∃ w : BV, x = (w.toNat : Int) := by
  refine ⟨BitVec.ofNat 32 x.toNat, ?_⟩
  rw [BitVec.toNat_ofNat, Nat.mod_eq_of_lt (by omega)]
  omega
theorem inW_words (w0 w1 w2 w3 w4 w5 w6 w7 : BV) : inW [[I w0], [I w1], [I w2], [I w3], [I w4], [I w5], [I w6], [I w7]] = true := by
  simp only [inW, List.all_cons, List.all_nil, List.getD_cons_zero, I, intV, Bool.and_true, Bool.and_eq_true, decide_eq_true_eq]
  have h0 := w0.isLt
  have h1 := w1.isLt
  have h2 := w2.isLt
  have h3 := w3.isLt
  have h4 := w4.isLt
  have h5 := w5.isLt
  have h6 := w6.isLt
  have h7 := w7.isLt
  omega
theorem shaF_words (w0 w1 w2 w3 w4 w5 w6 w7 : BV) {s : ByteArray} (hs : s.size = 64) {t : St} (ht : t = rnds 64 0 keys (ext 48 16 (first16 s 16)) ⟨w0, w1, w2, w3, w4, w5, w6, w7⟩) : shaF [[I w0], [I w1], [I w2], [I w3], [I w4], [I w5], [I w6], [I w7]] s = [[I (w0 + t.a)], [I (w1 + t.b)], [I (w2 + t.c)], [I (w3 + t.d)], [I (w4 + t.e)], [I (w5 + t.f)], [I (w6 + t.g)], [I (w7 + t.h)]] := by
  subst ht
  rw [shaF, if_pos ⟨rfl, hs, inW_words w0 w1 w2 w3 w4 w5 w6 w7⟩]
  have : stOf ([[I w0], [I w1], [I w2], [I w3], [I w4], [I w5], [I w6], [I w7]].map fun e => e.getD 0 undef) = ⟨w0, w1, w2, w3, w4, w5, w6, w7⟩ := by
    simp only [stOf, List.map_cons, List.map_nil, List.getD_cons_zero, List.getD_cons_succ, de_I]
  simp only [this]
  rfl
theorem okl_rng {C : Cfg} {vs : List Value} {ls : List Rw} {i n c : Te} {P X : Out} {x i0 n0 : Int} (hi : i.ev (syL vs ls) = .int .i64 i0) (hn : n.ev (syL vs ls) = .int .i64 n0) (h0 : 0 ≤ i0) (h1 : i0 < n0) (hc : c.ev (syL vs ls) = .int .i64 x)
    (hP : ¬ (0 ≤ x ∧ x ≤ 4294967295) → P.OkL C vs ls) (hX : 0 ≤ x → x ≤ 4294967295 → X.OkL C vs ls) :
    (Out.need (.bin .leq (.l (.int .i64 0)) i) (.need (.bin .lss i n) (.ask (.bin .geq c (.l (.int .i64 0))) (.ask (.not (.bin .leq c (.l (.int .i64 4294967295)))) P (.need (.bin .leq (.l (.int .i64 0)) i) (.need (.bin .lss i n) X))) P))).OkL C vs ls := by
  refine okl_in hi hn h0 h1 (okl_ask (fun hg => okl_ask (fun hl => hP ?_) (fun hl => okl_in hi hn h0 h1 (hX ?_ ?_))) (fun hg => hP ?_))
  · simp only [Te.ev, hc, binV, isT, Value.bool.injEq, Bool.not_eq_true', decide_eq_false_iff_not] at hl
    omega
  · simp only [Te.ev, hc, binV, Value.bool.injEq, decide_eq_true_eq] at hg
    exact hg
  · simp only [Te.ev, hc, binV, isT, Value.bool.injEq, Bool.not_eq_false', decide_eq_true_eq] at hl
    exact hl
  · simp only [Te.ev, hc, binV, Value.bool.injEq, decide_eq_false_iff_not] at hg
    omega
set_option maxHeartbeats 1000000 in
theorem t80L_ok : LpOk C0 ⟨80, 0, aL0⟩ := by
  refine loop_tree C0_ok (DbOk.nil C0) 10 10 t80_fn t80_body t80L_only t80L_in (fun al h => by simp [aL0] at h; rcases h with rfl | rfl <;> rfl) (by decide) (by decide) mu1 t80L_run t80L_b ?_
  intro vs ls _ _ hpre
  obtain ⟨i, L, c, rfl, rfl, hi, hm, hr, hin⟩ : aw vs ls := hpre
  unfold t80L
  refine okl_ask (fun hc => ?_) (fun hc => ?_)
  · have hi' : i < L.length := lss_nat (b := L.length) hc
    obtain ⟨x, hx⟩ := hr.at_ hi' (show 0 < 1 by decide)
    have ai : binV .add (.int .i64 (i : Int)) (.int .i64 1) = .int .i64 ((i + 1 : Nat) : Int) := add_int (by omega) (by omega) (by omega)
    have hcell : (Te.cell (.s 0) (.s 1) 0).ev (syL [.int .i64 (L.length : Int), .int .i64 (i : Int), c] [L]) = .int .i64 x := by
      simp only [Te.ev, RT.ev, TL.ev, RL.ev, syL, List.getD_cons_zero, List.getD_cons_succ, List.nil_append, List.cons_append, List.append_nil, natOf, Int.toNat_natCast]
      exact hx
    refine okl_in (i := (i : Int)) (n := (L.length : Int)) rfl rfl (by omega) (by omega) (okl_ask (fun hg => okl_ask (fun hl => ?_) (fun hl => ?_)) (fun hg => ?_))
    · have hl2 : Value.bool (!isT (binV .leq ((Te.cell (.s 0) (.s 1) 0).ev (syL [.int .i64 (L.length : Int), .int .i64 (i : Int), c] [L])) (.int .i64 4294967295))) = .bool true := hl
      rw [hcell] at hl2
      simp only [binV, isT, Value.bool.injEq, Bool.not_eq_true', decide_eq_false_iff_not] at hl2
      have := inW_false hi' hx (by omega)
      exact this
    · have g1 : 0 ≤ x := by
        have hg2 : binV .geq ((Te.cell (.s 0) (.s 1) 0).ev (syL [.int .i64 (L.length : Int), .int .i64 (i : Int), c] [L])) (.int .i64 0) = .bool true := hg
        rw [hcell] at hg2
        simpa [binV] using hg2
      have g2 : x ≤ 4294967295 := by
        have hl2 : Value.bool (!isT (binV .leq ((Te.cell (.s 0) (.s 1) 0).ev (syL [.int .i64 (L.length : Int), .int .i64 (i : Int), c] [L])) (.int .i64 4294967295))) = .bool false := hl
        rw [hcell] at hl2
        simpa [binV, isT] using hl2
      refine ⟨⟨⟨i + 1, L, c, ?_, rfl, hi', hm, hr, inW_next hi' hx g1 g2 hin⟩, ?_⟩, fun vs' ls' hv hl hf => ?_, fun vs' ls' hv hl hf => ?_⟩
      · simp only [Te.ev, RT.ev, TL.ev, RL.ev, syL, List.getD_cons_zero, List.getD_cons_succ, List.nil_append, List.cons_append, List.append_nil, natOf, Int.toNat_natCast, ai]
      · show mu1 _ _ < mu1 _ _
        simp only [mu1, Te.ev, RT.ev, TL.ev, RL.ev, syL, List.getD_cons_zero, List.getD_cons_succ, List.nil_append, List.cons_append, List.append_nil, natOf, Int.toNat_natCast, ai]
        omega
      · have hf : inW L = false := hf
        show inW (([L] ++ ls').getD 0 []) = false
        exact hf
      · have hf : inW L = true := hf
        show inW (([L] ++ ls').getD 0 []) = true
        exact hf
    · have hg2 : binV .geq ((Te.cell (.s 0) (.s 1) 0).ev (syL [.int .i64 (L.length : Int), .int .i64 (i : Int), c] [L])) (.int .i64 0) = .bool false := hg
      rw [hcell] at hg2
      simp only [binV, Value.bool.injEq, decide_eq_false_iff_not] at hg2
      exact inW_false hi' hx (by omega)
  · obtain rfl : i = L.length := by have := lss_not (b := L.length) hc; omega
    rw [List.take_length] at hin
    exact hin
def chainF (r : Nat) : Nat → Nat → RT
  | 0, _ => .nil
  | n + 1, k => .app (.one (.cons (.cell (.s r) (.l (.int .i64 (k : Int))) 0) .nil)) (chainF r n (k + 1))
theorem chainF_ev (S : Sy) (r : Nat) {ws : List BV} (h : S.r r = ws.map fun x => [I x]) : ∀ n k, k + n = ws.length → (chainF r n k).ev S = (ws.drop k).map fun x => [I x]
  | 0, k, hk => by rw [List.drop_of_length_le (by omega)]; rfl
  | n + 1, k, hk => by
    simp only [chainF, RT.ev, TL.ev, Te.ev, natOf, Int.toNat_natCast, h, row_at I (ws := ws) (i := k) (by omega), chainF_ev S r h n (k + 1) (by omega)]
    rw [List.drop_eq_getElem_cons (show k < ws.length by omega)]
    have : gw ws k = ws[k] := by simp [gw, List.getD_eq_getElem?_getD, show k < ws.length by omega]
    rw [this]
    rfl
def keyZ : List Int := [1116352408, 1899447441, 3049323471, 3921009573, 961987163, 1508970993, 2453635748, 2870763221, 3624381080, 310598401, 607225278, 1426881987, 1925078388, 2162078206, 2614888103, 3248222580, 3835390401, 4022224774, 264347078, 604807628, 770255983, 1249150122, 1555081692, 1996064986, 2554220882, 2821834349, 2952996808, 3210313671, 3336571891, 3584528711, 113926993, 338241895, 666307205, 773529912, 1294757372, 1396182291, 1695183700, 1986661051, 2177026350, 2456956037, 2730485921, 2820302411, 3259730800, 3345764771, 3516065817, 3600352804, 4094571909, 275423344, 430227734, 506948616, 659060556, 883997877, 958139571, 1322822218, 1537002063, 1747873779, 1955562222, 2024104815, 2227730452, 2361852424, 2428436474, 2756734187, 3204031479, 3329325298]
def litRT (k : IntKind) : List Int → RT
  | [] => .nil
  | n :: ns => .app (.one (.cons (.l (.int k n)) .nil)) (litRT k ns)
theorem litRT_ev (S : Sy) (k : IntKind) : ∀ ns, (litRT k ns).ev S = ns.map fun n => [Value.int k n]
  | [] => rfl
  | n :: ns => by simp only [litRT, RT.ev, TL.ev, Te.ev, litRT_ev S k ns, List.map_cons]; rfl
theorem keysU : (keyZ.map fun n => [Value.int .u32 n]) = keys.map fun x => [U x] := by kernel_rfl
theorem keysI : (keyZ.map fun n => [Value.int .i64 n]) = keys.map fun x => [I x] := by kernel_rfl
theorem n2 : Int.toNat 2 = 2 := rfl
theorem n3 : Int.toNat 3 = 3 := rfl
theorem n4 : Int.toNat 4 = 4 := rfl
theorem n5 : Int.toNat 5 = 5 := rfl
theorem n6 : Int.toNat 6 = 6 := rfl
theorem n7 : Int.toNat 7 = 7 := rfl
theorem neq_false {a b : Int} (h : binV .neq (.int .i64 a) (.int .i64 b) = .bool false) : a = b := by
  simpa [binV] using h
theorem neq_true {a b : Int} (h : binV .neq (.int .i64 a) (.int .i64 b) = .bool true) : ¬ a = b := by
  simpa [binV] using h
theorem cv_U (w : BV) : cvV .u32 (I w) = U w := by
  show Value.int .u32 (IntKind.u32.wrap _) = _
  rw [wrap32]
  refine u_int ?_
  have := w.isLt
  omega
theorem cv_I (w : BV) : cvV .i64 (U w) = I w := by
  show Value.int .i64 (IntKind.i64.wrap _) = _
  have := w.isLt
  rw [wrapI (by omega) (by omega)]
  rfl
theorem zeros_U (s : ByteArray) : List.replicate 64 [Value.int .u32 0] = rowU (first16 s 0) := by
  simp only [rowU, first16, List.map_map]
  rfl
theorem zeros_I (s : ByteArray) : List.replicate 64 [Value.int .i64 0] = rowI (first16 s 0) := by
  simp only [rowI, first16, List.map_map]
  rfl

set_option maxHeartbeats 4000000 in
theorem t24S_ok : SumOk C0 24 (shS 15) := by
  refine fn_tree C0_ok ((((DbOk.nil C0).addL t78L4_ok).addL t78L2_ok).addL t78L_ok) 10 10 t24_fn t24S_run t24S_b ?_
  intro vs ls _ _ hpre
  obtain ⟨s, L, rfl, rfl, hm, hr⟩ : shP vs ls := hpre
  unfold t24S
  have same : ¬ (L.length = 8 ∧ s.size = 64 ∧ inW L = true) → fc 15 [.string s] [L] [] [[] ++ L] := fun h => by
    show [_] = [_]
    rw [List.nil_append]
    exact congrArg (fun x => [x]) (sha_same h).symm
  refine okl_need (by simp only [Te.ev, RT.ev, TL.ev, RL.ev, syL, List.getD_cons_zero, List.getD_cons_succ, List.nil_append, List.cons_append, List.append_nil, natOf, Int.toNat_natCast]; exact leq_true (by omega)) (okl_ask (fun hc => same (fun h => neq_true (a := (L.length : Int)) (b := 8) hc (by omega))) (fun hc => ?_))
  have h8 : L.length = 8 := by have : (L.length : Int) = 8 := neq_false hc; omega
  refine okl_ask (fun hc => same (fun h => neq_true (a := (s.size : Int)) (b := 64) hc (by omega))) (fun hc => ?_)
  have h64 : s.size = 64 := by have : (s.size : Int) = 64 := neq_false hc; omega
  obtain ⟨x0, x1, x2, x3, x4, x5, x6, x7, rfl⟩ := eight_rows h8 hr
  refine okl_rng (x := x0) (i0 := 0) (n0 := 8) rfl rfl (by omega) (by omega) rfl (fun h => same (fun hh => by have := inW_false (L := [[.int .i64 x0], [.int .i64 x1], [.int .i64 x2], [.int .i64 x3], [.int .i64 x4], [.int .i64 x5], [.int .i64 x6], [.int .i64 x7]]) (i := 0) (by simp) (x := x0) rfl h; rw [this] at hh; exact absurd hh.2.2 (by decide))) (fun p0 q0 => ?_)
  refine okl_rng (x := x1) (i0 := 1) (n0 := 8) rfl rfl (by omega) (by omega) rfl (fun h => same (fun hh => by have := inW_false (L := [[.int .i64 x0], [.int .i64 x1], [.int .i64 x2], [.int .i64 x3], [.int .i64 x4], [.int .i64 x5], [.int .i64 x6], [.int .i64 x7]]) (i := 1) (by simp) (x := x1) rfl h; rw [this] at hh; exact absurd hh.2.2 (by decide))) (fun p1 q1 => ?_)
  refine okl_rng (x := x2) (i0 := 2) (n0 := 8) rfl rfl (by omega) (by omega) rfl (fun h => same (fun hh => by have := inW_false (L := [[.int .i64 x0], [.int .i64 x1], [.int .i64 x2], [.int .i64 x3], [.int .i64 x4], [.int .i64 x5], [.int .i64 x6], [.int .i64 x7]]) (i := 2) (by simp) (x := x2) rfl h; rw [this] at hh; exact absurd hh.2.2 (by decide))) (fun p2 q2 => ?_)
  refine okl_rng (x := x3) (i0 := 3) (n0 := 8) rfl rfl (by omega) (by omega) rfl (fun h => same (fun hh => by have := inW_false (L := [[.int .i64 x0], [.int .i64 x1], [.int .i64 x2], [.int .i64 x3], [.int .i64 x4], [.int .i64 x5], [.int .i64 x6], [.int .i64 x7]]) (i := 3) (by simp) (x := x3) rfl h; rw [this] at hh; exact absurd hh.2.2 (by decide))) (fun p3 q3 => ?_)
  refine okl_rng (x := x4) (i0 := 4) (n0 := 8) rfl rfl (by omega) (by omega) rfl (fun h => same (fun hh => by have := inW_false (L := [[.int .i64 x0], [.int .i64 x1], [.int .i64 x2], [.int .i64 x3], [.int .i64 x4], [.int .i64 x5], [.int .i64 x6], [.int .i64 x7]]) (i := 4) (by simp) (x := x4) rfl h; rw [this] at hh; exact absurd hh.2.2 (by decide))) (fun p4 q4 => ?_)
  refine okl_rng (x := x5) (i0 := 5) (n0 := 8) rfl rfl (by omega) (by omega) rfl (fun h => same (fun hh => by have := inW_false (L := [[.int .i64 x0], [.int .i64 x1], [.int .i64 x2], [.int .i64 x3], [.int .i64 x4], [.int .i64 x5], [.int .i64 x6], [.int .i64 x7]]) (i := 5) (by simp) (x := x5) rfl h; rw [this] at hh; exact absurd hh.2.2 (by decide))) (fun p5 q5 => ?_)
  refine okl_rng (x := x6) (i0 := 6) (n0 := 8) rfl rfl (by omega) (by omega) rfl (fun h => same (fun hh => by have := inW_false (L := [[.int .i64 x0], [.int .i64 x1], [.int .i64 x2], [.int .i64 x3], [.int .i64 x4], [.int .i64 x5], [.int .i64 x6], [.int .i64 x7]]) (i := 6) (by simp) (x := x6) rfl h; rw [this] at hh; exact absurd hh.2.2 (by decide))) (fun p6 q6 => ?_)
  refine okl_rng (x := x7) (i0 := 7) (n0 := 8) rfl rfl (by omega) (by omega) rfl (fun h => same (fun hh => by have := inW_false (L := [[.int .i64 x0], [.int .i64 x1], [.int .i64 x2], [.int .i64 x3], [.int .i64 x4], [.int .i64 x5], [.int .i64 x6], [.int .i64 x7]]) (i := 7) (by simp) (x := x7) rfl h; rw [this] at hh; exact absurd hh.2.2 (by decide))) (fun p7 q7 => ?_)
  obtain ⟨w0, rfl⟩ := word_of p0 q0
  obtain ⟨w1, rfl⟩ := word_of p1 q1
  obtain ⟨w2, rfl⟩ := word_of p2 q2
  obtain ⟨w3, rfl⟩ := word_of p3 q3
  obtain ⟨w4, rfl⟩ := word_of p4 q4
  obtain ⟨w5, rfl⟩ := word_of p5 q5
  obtain ⟨w6, rfl⟩ := word_of p6 q6
  obtain ⟨w7, rfl⟩ := word_of p7 q7
  refine okl_need rfl (okl_need rfl (okl_need rfl ⟨show sh0 _ _ from ⟨s, 0, rfl, rfl, by omega, h64, zeros_U s⟩, fun vs1 ls1 hv1 hl1 hf1 => ?_⟩))
  obtain rfl := nil_of hv1
  obtain rfl : ls1 = [rowU (first16 s 16)] := hf1
  refine ⟨show sh2 _ _ from ⟨16, first16 s 16, rfl, by omega, by omega, first_length s 16, rfl⟩, fun vs2 ls2 hv2 hl2 hf2 => ?_⟩
  obtain rfl := nil_of hv2
  replace hf2 : ls2 = [rowU (ext 48 16 (deR (rowU (first16 s 16))))] := hf2
  rw [deR_U] at hf2
  subst hf2
  have hlen : (ext 48 16 (first16 s 16)).length = 64 := by rw [ext_length, first_length]
  have key := fun t => shaF_words w0 w1 w2 w3 w4 w5 w6 w7 h64 (t := t)
  generalize ext 48 16 (first16 s 16) = W at hlen key ⊢
  have hkl : keys.length = 64 := by decide
  have hc : ∀ w : BV, cvV .u32 (.int .i64 (w.toNat : Int)) = U w := cv_U
  refine ⟨show sh4 U _ _ from ⟨0, keys, W, ⟨w0, w1, w2, w3, w4, w5, w6, w7⟩, [U w0, U w1, U w2, U w3, U w4, U w5, U w6, U w7], ?_, by omega, hkl, hlen, ?_, ?_⟩, fun vs3 ls3 hv3 hl3 hf3 => ?_⟩
  · simp only [Te.ev, RT.ev, TL.ev, RL.ev, syL, List.getD_cons_zero, List.getD_cons_succ, List.nil_append, List.cons_append, List.append_nil, natOf, Int.toNat_natCast, Int.toNat_zero, Int.toNat_one, n2, n3, n4, n5, n6, n7, hc]
    rfl
  · show RT.ev _ (litRT .u32 keyZ) = _
    rw [litRT_ev, keysU]
  · rfl
  obtain rfl := nil_of hl3
  replace hf3 : fc 13 _ (RT.ev (syL _ _) (litRT .u32 keyZ) :: _) vs3 [] := hf3
  rw [litRT_ev, keysU] at hf3
  simp only [Te.ev, RT.ev, TL.ev, RL.ev, syL, List.getD_cons_zero, List.getD_cons_succ, List.nil_append, List.cons_append, List.append_nil, natOf, Int.toNat_natCast, Int.toNat_zero, Int.toNat_one, n2, n3, n4, n5, n6, n7, hc] at hf3
  have hf4 := (f13 13 U de_U (by simp) (s := ⟨w0, w1, w2, w3, w4, w5, w6, w7⟩) (i := 0) (kw := keys) (ws := W)).1 hf3
  generalize ht : rnds (64 - 0) 0 keys W ⟨w0, w1, w2, w3, w4, w5, w6, w7⟩ = t at hf4
  subst hf4
  iterate 16 (refine okl_need rfl ?_)
  show [_] = [_]
  have hsum : ∀ w r : BV, cvV .i64 (binV .add (cvV .u32 (.int .i64 (w.toNat : Int))) (U r)) = I (w + r) := fun w r => by rw [hc, u_add, cv_I]
  refine congrArg (fun x => [x]) (Eq.trans ?_ (key t ht.symm).symm)
  show [[cvV .i64 (binV .add (cvV .u32 (.int .i64 (w0.toNat : Int))) (U t.a))], [cvV .i64 (binV .add (cvV .u32 (.int .i64 (w1.toNat : Int))) (U t.b))], [cvV .i64 (binV .add (cvV .u32 (.int .i64 (w2.toNat : Int))) (U t.c))], [cvV .i64 (binV .add (cvV .u32 (.int .i64 (w3.toNat : Int))) (U t.d))], [cvV .i64 (binV .add (cvV .u32 (.int .i64 (w4.toNat : Int))) (U t.e))], [cvV .i64 (binV .add (cvV .u32 (.int .i64 (w5.toNat : Int))) (U t.f))], [cvV .i64 (binV .add (cvV .u32 (.int .i64 (w6.toNat : Int))) (U t.g))], [cvV .i64 (binV .add (cvV .u32 (.int .i64 (w7.toNat : Int))) (U t.h))]] = _
  simp only [hsum]

theorem words_of {L : Rw} (h8 : L.length = 8) (hr : IntRows 1 L) (hin : inW L = true) : ∃ w0 w1 w2 w3 w4 w5 w6 w7 : BV, L = [[I w0], [I w1], [I w2], [I w3], [I w4], [I w5], [I w6], [I w7]] := by
  obtain ⟨x0, x1, x2, x3, x4, x5, x6, x7, rfl⟩ := eight_rows h8 hr
  have key : ∀ (i : Nat) (hi : i < 8) (x : Int), cel [[.int .i64 x0], [.int .i64 x1], [.int .i64 x2], [.int .i64 x3], [.int .i64 x4], [.int .i64 x5], [.int .i64 x6], [.int .i64 x7]] i 0 = .int .i64 x → 0 ≤ x ∧ x ≤ 4294967295 := fun i hi x hx => by
    by_cases h : 0 ≤ x ∧ x ≤ 4294967295
    · exact h
    · have := inW_false (L := [[.int .i64 x0], [.int .i64 x1], [.int .i64 x2], [.int .i64 x3], [.int .i64 x4], [.int .i64 x5], [.int .i64 x6], [.int .i64 x7]]) (i := i) (by simpa using hi) hx h
      rw [this] at hin
      cases hin
  obtain ⟨w0, rfl⟩ := word_of (key 0 (by decide) x0 rfl).1 (key 0 (by decide) x0 rfl).2
  obtain ⟨w1, rfl⟩ := word_of (key 1 (by decide) x1 rfl).1 (key 1 (by decide) x1 rfl).2
  obtain ⟨w2, rfl⟩ := word_of (key 2 (by decide) x2 rfl).1 (key 2 (by decide) x2 rfl).2
  obtain ⟨w3, rfl⟩ := word_of (key 3 (by decide) x3 rfl).1 (key 3 (by decide) x3 rfl).2
  obtain ⟨w4, rfl⟩ := word_of (key 4 (by decide) x4 rfl).1 (key 4 (by decide) x4 rfl).2
  obtain ⟨w5, rfl⟩ := word_of (key 5 (by decide) x5 rfl).1 (key 5 (by decide) x5 rfl).2
  obtain ⟨w6, rfl⟩ := word_of (key 6 (by decide) x6 rfl).1 (key 6 (by decide) x6 rfl).2
  obtain ⟨w7, rfl⟩ := word_of (key 7 (by decide) x7 rfl).1 (key 7 (by decide) x7 rfl).2
  exact ⟨w0, w1, w2, w3, w4, w5, w6, w7, rfl⟩
theorem not_eq_true {a b : Int} (h : Value.bool (!isT (binV .eql (.int .i64 a) (.int .i64 b))) = .bool true) : ¬ a = b := by
  simpa [binV, isT] using h
theorem not_eq_false {a b : Int} (h : Value.bool (!isT (binV .eql (.int .i64 a) (.int .i64 b))) = .bool false) : a = b := by
  simpa [binV, isT] using h
set_option maxHeartbeats 4000000 in
theorem t26S_ok : SumOk C0 26 (shS 15) := by
  refine fn_tree C0_ok (((((DbOk.nil C0).addL t80L_ok).addL t26L_ok).addL t82L4_ok).addL t82L_ok) 10 10 t26_fn t26S_run t26S_b ?_
  intro vs ls _ _ hpre
  obtain ⟨s, L, rfl, rfl, hm, hr⟩ : shP vs ls := hpre
  unfold t26S
  have same : ¬ (L.length = 8 ∧ s.size = 64 ∧ inW L = true) → fc 15 [.string s] [L] [] [[] ++ L] := fun h => by
    show [_] = [_]
    rw [List.nil_append]
    exact congrArg (fun x => [x]) (sha_same h).symm
  refine okl_need (by simp only [Te.ev, RT.ev, TL.ev, RL.ev, syL, List.getD_cons_zero, List.getD_cons_succ, List.nil_append, List.cons_append, List.append_nil, natOf, Int.toNat_natCast]; exact leq_true (by omega)) ⟨show aw _ _ from ⟨0, L, .int .i64 8, rfl, rfl, Nat.zero_le _, hm, hr, rfl⟩, fun vs0 ls0 hv0 hl0 hf0 => ?_, fun vs0 ls0 hv0 hl0 hf0 => ?_⟩
  · obtain rfl := nil_of hv0
    obtain rfl := nil_of hl0
    have hin : inW L = false := hf0
    exact same (fun h => by rw [hin] at h; exact absurd h.2.2 (by decide))
  obtain rfl := nil_of hv0
  obtain rfl := nil_of hl0
  have hin : inW L = true := hf0
  refine okl_ask (fun hc => same (fun h => not_eq_true (a := (L.length : Int)) (b := 8) hc (by omega))) (fun hc => ?_)
  have h8 : L.length = 8 := by have : (L.length : Int) = 8 := not_eq_false hc; omega
  refine okl_ask (fun hc => same (fun h => neq_true (a := (s.size : Int)) (b := 64) hc (by omega))) (fun hc => ?_)
  have h64 : s.size = 64 := by have : (s.size : Int) = 64 := neq_false hc; omega
  obtain ⟨w0, w1, w2, w3, w4, w5, w6, w7, rfl⟩ := words_of h8 hr hin
  refine okl_need rfl (okl_need rfl (okl_need rfl (okl_need rfl ⟨show im0 _ _ from ⟨s, 0, rfl, rfl, by omega, h64, zeros_I s⟩, fun vs1 ls1 hv1 hl1 hf1 => ?_⟩)))
  obtain rfl := nil_of hv1
  obtain rfl : ls1 = [rowI (first16 s 16)] := hf1
  refine ⟨show im2 _ _ from ⟨16, first16 s 16, rfl, by omega, by omega, first_length s 16, rfl⟩, fun vs2 ls2 hv2 hl2 hf2 => ?_⟩
  obtain rfl := nil_of hv2
  replace hf2 : ls2 = [rowI (ext 48 16 (deR (rowI (first16 s 16))))] := hf2
  rw [deR_I] at hf2
  subst hf2
  have hlen : (ext 48 16 (first16 s 16)).length = 64 := by rw [ext_length, first_length]
  have key := fun t => shaF_words w0 w1 w2 w3 w4 w5 w6 w7 h64 (t := t)
  generalize ext 48 16 (first16 s 16) = W at hlen key ⊢
  have hkl : keys.length = 64 := by decide
  have hch : ∀ S : Sy, S.r 2 = rowI W → (chainF 2 64 0).ev S = W.map fun x => [I x] := fun S hS => chainF_ev S 2 hS 64 0 (by omega)
  refine okl_need ?_ (okl_need rfl (okl_need ?_ (okl_need rfl ?_)))
  · show binV .eql (.int .i64 ((rowI W).length : Int)) (.int .i64 64) = .bool true
    rw [rowI_length, hlen]
    rfl
  · show binV .eql (.int .i64 (((chainF 2 64 0).ev _).length : Int)) (.int .i64 64) = .bool true
    rw [hch _ rfl, List.length_map, hlen]
    rfl
  iterate 16 (refine okl_need rfl ?_)
  refine ⟨show sh4 I _ _ from ⟨0, keys, W, ⟨w0, w1, w2, w3, w4, w5, w6, w7⟩, [], ?_, by omega, hkl, hlen, ?_, ?_⟩, fun vs3 ls3 hv3 hl3 hf3 => ?_⟩
  · simp only [Te.ev, RT.ev, TL.ev, RL.ev, syL, List.getD_cons_zero, List.getD_cons_succ, List.nil_append, List.cons_append, List.append_nil, natOf, Int.toNat_natCast, Int.toNat_zero, Int.toNat_one, n2, n3, n4, n5, n6, n7]
    rfl
  · show RT.ev _ (litRT .i64 keyZ) = _
    rw [litRT_ev, keysI]
  · show RT.ev _ (chainF 2 64 0) = _
    exact hch _ rfl
  obtain rfl := nil_of hl3
  replace hf3 : fc 23 _ (RT.ev (syL _ _) (litRT .i64 keyZ) :: RT.ev (syL _ _) (chainF 2 64 0) :: _) vs3 [] := hf3
  rw [litRT_ev, keysI, hch _ rfl] at hf3
  simp only [Te.ev, RT.ev, TL.ev, RL.ev, syL, List.getD_cons_zero, List.getD_cons_succ, List.nil_append, List.cons_append, List.append_nil, natOf, Int.toNat_natCast, Int.toNat_zero, Int.toNat_one, n2, n3, n4, n5, n6, n7] at hf3
  have hf4 := (f13 23 I de_I (by simp) (s := ⟨w0, w1, w2, w3, w4, w5, w6, w7⟩) (i := 0) (kw := keys) (ws := W)).1 hf3
  generalize ht : rnds (64 - 0) 0 keys W ⟨w0, w1, w2, w3, w4, w5, w6, w7⟩ = t at hf4
  subst hf4
  iterate 32 (refine okl_need rfl ?_)
  show [_] = [_]
  have hsum : ∀ w r : BV, binV .and (binV .add (I w) (I r)) (.int .i64 4294967295) = I (w + r) := fun w r => lo_mask (lo_add (lo_I w) (lo_I r) (by decide))
  refine congrArg (fun x => [x]) (Eq.trans ?_ (key t ht.symm).symm)
  show [[binV .and (binV .add (I w0) (I t.a)) (.int .i64 4294967295)], [binV .and (binV .add (I w1) (I t.b)) (.int .i64 4294967295)], [binV .and (binV .add (I w2) (I t.c)) (.int .i64 4294967295)], [binV .and (binV .add (I w3) (I t.d)) (.int .i64 4294967295)], [binV .and (binV .add (I w4) (I t.e)) (.int .i64 4294967295)], [binV .and (binV .add (I w5) (I t.f)) (.int .i64 4294967295)], [binV .and (binV .add (I w6) (I t.g)) (.int .i64 4294967295)], [binV .and (binV .add (I w7) (I t.h)) (.int .i64 4294967295)]] = _
  simp only [hsum]

theorem lss_false {a : Int} (h : 0 ≤ a) : binV .lss (.int .i64 a) (.int .i64 0) = .bool false := by
  simp only [binV, Value.bool.injEq, decide_eq_false_iff_not]
  omega
theorem neq_same {a b : Int} (h : a = b) : binV .neq (.int .i64 a) (.int .i64 b) = .bool false := by rw [h]; exact binV_neq_int _ _
theorem sha_rows {L : Rw} {s : ByteArray} (hr : IntRows 1 L) (hm : L.length ≤ 100000000) : IntRows 1 (shaF L s) ∧ (shaF L s).length ≤ 100000000 := by
  rw [shaF]
  split
  · refine ⟨?_, by simp [St.vals]⟩
    intro e he
    simp only [St.vals, List.map_cons, List.map_nil, List.mem_cons, List.not_mem_nil, or_false] at he
    rcases he with rfl | rfl | rfl | rfl | rfl | rfl | rfl | rfl
    all_goals
      refine ⟨rfl, fun j k u hk hu => ?_⟩
      cases j with
      | zero => simp [ks] at hk hu; subst hk hu; exact ⟨_, rfl⟩
      | succ j => simp at hu
  · exact ⟨hr, hm⟩
set_option maxHeartbeats 4000000 in
theorem t5S_ok : SumOk C0 5 lawH := by
  refine fn_tree C0_ok (((((((DbOk.nil C0).addS (by decide) t29S_ok).addS (by decide) t28S_ok).addS (by decide) t27S_ok).addS (by decide) t25S_ok).addS (by decide) t26S_ok).addS (by decide) t24S_ok) 10 10 t5_fn t5S_run t5S_b ?_
  intro vs ls _ _ hpre
  obtain ⟨s, L, rfl, rfl, hr⟩ : shQ vs ls := hpre
  unfold t5S
  refine okl_ask (fun _ => trivial) (fun hc => okl_ask (fun _ => trivial) (fun _ => ?_))
  have hm : L.length ≤ 100000000 := by
    have hc2 : binV .gtr (.int .i64 (L.length : Int)) (.int .i64 1048576) = .bool false := hc
    simp only [binV, Value.bool.injEq, decide_eq_false_iff_not] at hc2
    omega
  obtain ⟨hrR, hmR⟩ := sha_rows (s := s) hr hm
  generalize hR : shaF L s = R at hrR hmR
  have hb : (1 : Int) + ((1 : Nat) : Int) * (L.length : Int) ≤ 1000000000000000 := by omega
  have hml : (marks 1 1 R.length).length = R.length := marks_length 1 _ 1
  refine ⟨show toPre 1 [] _ from ⟨L, rfl, hm, hr.len⟩, fun v l hv hl hf => ?_⟩
  obtain rfl := nil_of hv
  obtain rfl : l = [L] := hf
  refine ⟨show shP _ _ from ⟨s, L, rfl, rfl, hm, hr⟩, fun v l hv hl hf => ?_⟩
  obtain rfl := nil_of hv
  obtain rfl : l = [R] := by rw [← hR]; exact hf
  refine ⟨show toPre 1 [] _ from ⟨L, rfl, hm, hr.len⟩, fun v l hv hl hf => ?_⟩
  obtain rfl := nil_of hv
  obtain rfl : l = [L] := hf
  refine ⟨show shP _ _ from ⟨s, L, rfl, rfl, hm, hr⟩, fun v l hv hl hf => ?_⟩
  obtain rfl := nil_of hv
  obtain rfl : l = [R] := by rw [← hR]; exact hf
  refine ⟨show eqPre 1 [] _ from ⟨R, rfl, hmR, hrR⟩, fun v l hv hl hf => ?_⟩
  obtain rfl := nil_of hv
  obtain rfl := nil_of hl
  refine ⟨show toPre 1 [] _ from ⟨L, rfl, hm, hr.len⟩, fun v l hv hl hf => ?_⟩
  obtain rfl := nil_of hv
  obtain rfl : l = [L] := hf
  refine ⟨show eqPre 1 [] _ from ⟨L, rfl, hm, hr⟩, fun v l hv hl hf => ?_⟩
  obtain rfl := nil_of hv
  obtain rfl := nil_of hl
  refine ⟨show mkPre 1 _ _ from ⟨1, L, rfl, rfl, hm, by omega, by omega, hr.len⟩, fun v l hv hl hf => ?_⟩
  obtain ⟨f1, f2⟩ := hf
  obtain rfl : v = [.int .i64 (1 + ((1 : Nat) : Int) * (L.length : Int))] := f1
  obtain rfl : l = [marks 1 1 L.length] := f2
  refine ask_no (lss_false (a := 1 + ((1 : Nat) : Int) * (L.length : Int)) (by omega)) ?_
  refine ⟨show eqPre 1 [] _ from ⟨R, rfl, hmR, hrR⟩, fun v l hv hl hf => ?_⟩
  obtain rfl := nil_of hv
  obtain rfl := nil_of hl
  refine ⟨show mkPre 1 _ _ from ⟨1, R, rfl, rfl, hmR, by omega, by omega, hrR.len⟩, fun v l hv hl hf => ?_⟩
  obtain ⟨f1, f2⟩ := hf
  obtain rfl : v = [.int .i64 (1 + ((1 : Nat) : Int) * (R.length : Int))] := f1
  obtain rfl : l = [marks 1 1 R.length] := f2
  refine ⟨show hdPre 1 _ _ from ⟨1, R.length, rfl, rfl, by omega, by omega, by omega⟩, fun v l hv hl hf => ?_⟩
  obtain rfl := nil_of hl
  obtain rfl : v = [.int .i64 (1 + ((1 : Nat) : Int) * ((marks 1 1 R.length).length : Int))] := hf
  refine ask_no (lss_false (a := 1 + ((1 : Nat) : Int) * ((marks 1 1 R.length).length : Int)) (by omega)) ?_
  refine ask_no (neq_same (by rw [marks_length])) ?_
  refine ⟨show toPre 1 [] _ from ⟨L, rfl, hm, hr.len⟩, fun v l hv hl hf => ?_⟩
  obtain rfl := nil_of hv
  obtain rfl : l = [L] := hf
  refine ⟨show shP _ _ from ⟨s, L, rfl, rfl, hm, hr⟩, fun v l hv hl hf => ?_⟩
  obtain rfl := nil_of hv
  obtain rfl : l = [R] := by rw [← hR]; exact hf
  refine ⟨show eqPre 1 [] _ from ⟨R, rfl, hmR, hrR⟩, fun v l hv hl hf => ?_⟩
  obtain rfl := nil_of hv
  obtain rfl := nil_of hl
  refine ⟨show hdPre 1 _ _ from ⟨1, R.length, rfl, rfl, by omega, by omega, by omega⟩, fun v l hv hl hf => ?_⟩
  obtain rfl := nil_of hl
  obtain rfl : v = [.int .i64 (1 + ((1 : Nat) : Int) * ((marks 1 1 R.length).length : Int))] := hf
  refine ask_no (lss_false (a := 1 + ((1 : Nat) : Int) * ((marks 1 1 R.length).length : Int)) (by omega)) ?_
  refine ask_no (neq_same (by rw [marks_length])) ?_
  exact trivial
end Go.Proofs.Ytdfhkmekmockkaa.Rs
