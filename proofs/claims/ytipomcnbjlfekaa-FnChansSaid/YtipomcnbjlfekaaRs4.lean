/- A symbolic machine over the model's operations. Part 4: what computes without memory, on terms. No program in sight. -/
import Derived.Test.YtipomcnbjlfekaaRs3
namespace Go.Proofs.Ytipomcnbjlfekaa.Rs
open Go.RowKit
set_option linter.unusedVariables false
set_option linter.unusedSimpArgs false
def cO (tm : Tm) (x : Operand) : Option AC :=
  match getO tm x with
  | some (.o (.c c)) => some c
  | _ => none
def i0 : Te := .l (.int .i64 0)
def needIx (i n : Te) : List Te := [.bin .leq i0 i, .bin .lss i n]
def needUp (i n : Te) : List Te := [.bin .leq i0 i, .bin .leq i n]
def loT (tm : Tm) : Option Operand → Option Te
  | none => some i0
  | some x =>
    match cO tm x with
    | some c =>
      match teO c with
      | some (.n .i64, te) => some te
      | _ => none
    | none => none
def hiT (tm : Tm) (n : Te) : Option Operand → Option Te
  | none => some n
  | some x =>
    match cO tm x with
    | some c =>
      match teO c with
      | some (.n .i64, te) => some te
      | _ => none
    | none => none
/-- Stores change no length. -/
def unset : RT → RT
  | .set r _ _ _ => unset r
  | r => r
theorem unset_len (S : Sy) : ∀ rt : RT, ((unset rt).ev S).length = (rt.ev S).length
  | .set r i j cs => by simp only [unset, RT.ev, setRw, List.length_modify]; exact unset_len S r
  | .s _ => rfl
  | .nil => rfl
  | .one _ => rfl
  | .app _ _ => rfl
  | .take _ _ => rfl
  | .drop _ _ => rfl
  | .rep _ _ => rfl
  | .by _ => rfl
def symT (C : Cfg) (H : Hp) (tm : Tm) : Op → Option (SV × List Te)
  | .unOp .not t x =>
    match cO tm x with
    | some (.t .b te) => some (.o (.c (.t .b (.not te))), [])
    | _ => none
  | .convert s d x =>
    match cO tm x, C.ty s, C.ty d with
    | some (.t (.n k) te), some ⟨.int _, _, _, _⟩, some ⟨.int j, _, _, _⟩ => some (.o (.c (.t (.n j) (.cv j te))), [])
    | _, _, _ => none
  | .binOp op t x y _ =>
    match cO tm x, cO tm y with
    | some a, some b =>
      match teO a, teO b with
      | some (kx, tx), some (ky, ty) =>
        match binT op kx ky ty with
        | some k => some (.o (.c (.t k (.bin op tx ty))), [])
        | none =>
          match kx, ky, C.ty t with
          | .b, .b, some ⟨.bool, _, _, _⟩ =>
            match op with
            | .eql => some (.o (.c (.t .b (.bin .eql tx ty))), [])
            | .neq => some (.o (.c (.t .b (.bin .neq tx ty))), [])
            | _ => none
          | _, _, _ => none
      | _, _ => none
    | _, _ => none
  | .nilCheck x =>
    match cO tm x with
    | some (.pe b i j) => some (.o (.c (.pe b i j)), [])
    | _ => none
  | .fieldAddr s x f =>
    match C.ty s, cO tm x with
    | some ⟨.struct fs, _, _, _⟩, some (.pe b i j) =>
      match fs[f]? with
      | some (off, sz, _) => bif Nat.beq sz 0 then none else some (.o (.c (.pe b i (j + off))), [])
      | none => none
    | _, _ => none
  | .indexAddr t x i =>
    match C.ty t, cO tm x, loT tm (some i) with
    | some ⟨.slice e, _, _, _⟩, some (.sr b), some ti =>
      match H.bs.get b, C.ty e with
      | some (.sy _ _ ks rt), some de => bif Nat.beq ks.length de.z && Nat.blt 0 de.z then some (.o (.c (.pe b ti 0)), needIx ti (.len (unset rt))) else none
      | _, _ => none
    | some ⟨.arr n e, _, _, _⟩, some (.p b 0), some ti =>
      match H.bs.get b, C.ty e with
      | some (.sy true _ [_] rt), some ⟨_, 1, _, _⟩ => some (.o (.c (.pe b ti 0)), .bin .lss ti (.l (.int .i64 (n : Int))) :: needIx ti (.len (unset rt)))
      | _, _ => none
    | _, _, _ => none
  | .index t x i =>
    match C.ty t, cO tm x, loT tm (some i) with
    | some ⟨.str, _, _, _⟩, some (.t .s te), some ti => some (.o (.c (.t (.n .u8) (.bin .andNot te ti))), needIx ti (.sl te))
    | _, _, _ => none
  | .slice t x lo hi none =>
    match C.ty t, cO tm x with
    | some ⟨.slice e, _, _, _⟩, some (.sr b) =>
      match H.bs.get b, C.ty e with
      | some (.sy _ _ ks rt), some de =>
        match loT tm lo, hiT tm (.len rt) hi with
        | some l, some h => bif Nat.beq ks.length de.z && Nat.blt 0 de.z then some (.o (.c (.ss b l (.bin .sub h l))), needUp l h ++ needUp h (.len rt)) else none
        | _, _ => none
      | _, _ => none
    | _, _ => none
  | .call { callee := .builtin .len, args, argTypes } =>
    match args.toList, argTypes.toList with
    | [x], [t] =>
      match C.ty t, cO tm x with
      | some ⟨.slice _, _, _, _⟩, some (.sr b) =>
        match H.bs.get b with
        | some (.sy _ _ _ rt) => some (.o (.c (.t (.n .i64) (.len (unset rt)))), [])
        | _ => none
      | some ⟨.slice _, _, _, _⟩, some (.ss b i n) => some (.o (.c (.t (.n .i64) n)), [])
      | some ⟨.str, _, _, _⟩, some (.t .s te) => some (.o (.c (.t (.n .i64) (.sl te))), [])
      | _, _ => none
    | _, _ => none
  | _ => none
section
variable {C : Cfg} {fr : Fr} {E : Env} {N : Nat} {tm : Tm} {a : Act} {w0 : World} {H : Hp} {w : World}
theorem cO_rel (hT : RelT E N tm a) {x : Operand} {c : AC} (h : cO tm x = some c) : RelC E c (a.eval x) := by
  unfold cO at h
  split at h
  · rename_i v hg
    cases h
    exact getO_rel hT hg
  · cases h
theorem loT_rel (hT : RelT E N tm a) {x : Operand} {te : Te} (h : loT tm (some x) = some te) : ∃ n, a.eval x = .int .i64 n ∧ ∀ S, E.q.has S → te.ev S = .int .i64 n := by
  simp only [loT] at h
  split at h
  · rename_i c hc
    split at h
    · rename_i te' ht
      cases h
      obtain ⟨⟨n, hn⟩, h2⟩ := teO_rel ht (cO_rel hT hc)
      exact ⟨n, hn, fun S hS => by rw [h2 S hS, hn]⟩
    · cases h
  · cases h
/-- What lies: a slice as long as the row. -/
theorem RelB.val {b : Nat} {own : Bool} {t : Nat} {ks : List CK} {rt : RT} (h : RelB fr E w b (.sy own t ks rt)) : ∃ r L ad c, E b = some r ∧ r.z = ks.length ∧ (∀ S, E.q.has S → rt.ev S = L) ∧ RowOk ks L ∧ Lies fr w r t L own ∧ r.val = .slice ad L.length c ∧ L.length ≤ c ∧ L.length ≤ maxLen ∧ (0 < L.length * r.z → ∃ g o, ad = some ⟨g, o, none⟩) := by
  obtain ⟨r, L, e, k1, k2, k3, k4⟩ := h
  cases own with
  | true =>
    rcases k4 with ⟨q1, q2, q3⟩ | ⟨g, arr, q1, q2, q0, qt, q3, q4, q5, q6, q7, q8⟩
    · subst q3
      exact ⟨r, [], none, 0, e, k1, k2, k3, .inl ⟨q1, q2, rfl⟩, q2, by simp, by simp, by simp⟩
    · exact ⟨r, L, _, r.cap, e, k1, k2, k3, .inr ⟨g, arr, q1, q2, q0, qt, q3, q4, q5, q6, q7, q8⟩, q3, q6, by omega, fun _ => ⟨g, 0, rfl⟩⟩
  | false =>
    have k4' := k4
    obtain ⟨q1, ad, c, q2, q3, q4, q5⟩ := k4
    exact ⟨r, L, ad, c, e, k1, k2, k3, k4', q2, q3, q4, fun h => by obtain ⟨g, o, _, _, _, h1, _⟩ := q5 h; exact ⟨g, o, h1⟩⟩
theorem bool_dec {p : Prop} [Decidable p] (h : Value.bool (decide p) = .bool true) : p := by
  injection h with h
  exact of_decide_eq_true h
theorem needIx_ok {q : Qn} {i n : Te} {x y : Int} (hi : i.ev q.S = .int .i64 x) (hn : n.ev q.S = .int .i64 y) (h : ∀ c ∈ needIx i n, c.ev q.S = .bool true) : 0 ≤ x ∧ x < y := by
  have h1 := h _ (List.mem_cons_self)
  have h2 := h _ (List.mem_cons_of_mem _ List.mem_cons_self)
  simp only [Te.ev, i0, hi, hn, binV] at h1 h2
  exact ⟨bool_dec h1, bool_dec h2⟩
theorem needUp_ok {q : Qn} {i n : Te} {x y : Int} (hi : i.ev q.S = .int .i64 x) (hn : n.ev q.S = .int .i64 y) (h : ∀ c ∈ needUp i n, c.ev q.S = .bool true) : 0 ≤ x ∧ x ≤ y := by
  have h1 := h _ (List.mem_cons_self)
  have h2 := h _ (List.mem_cons_of_mem _ List.mem_cons_self)
  simp only [Te.ev, i0, hi, hn, binV] at h1 h2
  exact ⟨bool_dec h1, bool_dec h2⟩
theorem wrap_id (x : Int) (h0 : 0 ≤ x) (h1 : x ≤ (maxLen : Int)) : IntKind.i64.wrap x = x := by
  rw [IntKind.wrap_i64]
  simp only [maxLen] at h1
  omega
theorem indexSy_run (hC : C.Ok) {t e : TypeId} {z : Nat} {zero : List Value} {bt : Nat} (ht : C.ty t = some ⟨.slice e, z, zero, bt⟩) {de : Td} (he : C.ty e = some de) (g o n c k : Nat) (hk : k < n) (w : World) :
    (Instr.indexAt t (.slice (some ⟨g, o, none⟩) n c) (.int .i64 (k : Int))).run C.P w = .ok (.pointer (some ⟨g, o + k * de.z, none⟩)) w := indexSl_run hC ht he g o n c k hk w
/-- What computes without memory, on terms. -/
theorem symT_ok (hC : C.Ok) (hH : RelH fr w0 E H w) (hT : RelT E N tm a) {o : Oper} {r : SV} {ns : List Te} (h : symT C H tm o.op = some (r, ns)) (hn : ∀ c ∈ ns, c.ev E.q.S = .bool true) : ∃ v, RelS E r v ∧ ∀ w', (execOp a.eval o).run C.P w' = .ok (.value v) w' := by
  cases ho : o.op with
  | unOp op t x =>
    rw [ho] at h
    cases op <;> simp only [symT] at h <;> first | (cases h; done) | skip
    split at h
    · rename_i te hx
      cases h
      obtain ⟨⟨b, hb⟩, h2⟩ := cO_rel hT hx
      refine ⟨.bool (!b), ⟨⟨_, rfl⟩, fun S hS => by simp only [Te.ev, h2 S hS, hb, isT]⟩, fun w' => ?_⟩
      unfold execOp; rw [ho]
      simp only [hb]
      rfl
    · cases h
  | convert s d x =>
    rw [ho] at h
    simp only [symT] at h
    split at h
    · rename_i k te k1 z1 zero1 b1 j z2 zero2 b2 hx hs hd
      cases h
      obtain ⟨⟨n, hnv⟩, h2⟩ := cO_rel hT hx
      refine ⟨.int j (j.wrap n), ⟨⟨_, rfl⟩, fun S hS => by simp only [Te.ev, h2 S hS, hnv, cvV]⟩, fun w' => ?_⟩
      unfold execOp; rw [ho]
      have e1 : C.P.underlying s = some (.int k1) := (hC.ty _ _ hs).desc
      have e2 : C.P.underlying d = some (.int j) := (hC.ty _ _ hd).desc
      simp only [hnv]
      refine run_value ?_
      simp only [convert, Sem.run_bind, underlying_run' e1, underlying_run' e2, Result.andThen_ok, Conv.intToInt, Sem.run_pure]
    · cases h
  | binOp op t x y yt =>
    rw [ho] at h
    simp only [symT] at h
    split at h
    · rename_i p q hp hq
      split at h
      · rename_i kx tx ky ty h1 h2
        split at h
        · rename_i k hk
          cases h
          obtain ⟨u1, u2⟩ := teO_rel h1 (cO_rel hT hp)
          obtain ⟨v1, v2⟩ := teO_rel h2 (cO_rel hT hq)
          obtain ⟨g1, g2⟩ := binT_ok hk u1 v1 (v2 _ E.q.has_self) t x y
          refine ⟨_, ⟨g1, fun S hS => by simp only [Te.ev, u2 S hS, v2 S hS]⟩, fun w' => ?_⟩
          unfold execOp; rw [ho]
          exact run_value (g2 w')
        · split at h
          · rename_i hty hbn
            have e1 : C.P.underlying t = some .bool := (hC.ty _ _ hty).desc
            obtain ⟨⟨bu, hbu⟩, u2⟩ := teO_rel h1 (cO_rel hT hp)
            obtain ⟨⟨bv, hbv⟩, v2⟩ := teO_rel h2 (cO_rel hT hq)
            have heq : ∀ w', (Op.equal t (.bool bu) (.bool bv)).run C.P w' = .ok (bu == bv) w' := fun w' => by
              have hd : ∀ d, (Op.equalIn (d + 1) t (.bool bu) (.bool bv)).run C.P w' = .ok (bu == bv) w' := fun d => by
                simp only [Op.equalIn, Sem.run_bind, underlying_run' e1, Result.andThen_ok, Sem.run_pure]
              exact hd 9999
            split at h
            · cases h
              refine ⟨.bool (bu == bv), ⟨⟨_, rfl⟩, fun S hS => by simp only [Te.ev, u2 S hS, v2 S hS, hbu, hbv, binV]⟩, fun w' => ?_⟩
              unfold execOp; rw [ho]
              simp only [hbu, hbv]
              refine run_value ?_
              simp [eqGuard, binOp, Sem.run_bind, heq]
            · cases h
              refine ⟨.bool (!(bu == bv)), ⟨⟨_, rfl⟩, fun S hS => by simp only [Te.ev, u2 S hS, v2 S hS, hbu, hbv, binV]⟩, fun w' => ?_⟩
              unfold execOp; rw [ho]
              simp only [hbu, hbv]
              refine run_value ?_
              simp [eqGuard, binOp, Sem.run_bind, heq]
            · cases h
          · cases h
      · cases h
    · cases h
  | nilCheck x =>
    rw [ho] at h
    simp only [symT] at h
    split at h
    · rename_i b i j hx
      cases h
      have hr := cO_rel hT hx
      refine ⟨_, hr, fun w' => ?_⟩
      obtain ⟨r, g, oo, n, c, k, e, k1, k2, k3, he⟩ := hr
      unfold execOp; rw [ho]
      simp [he]
    · cases h
  | fieldAddr s x f =>
    rw [ho] at h
    simp only [symT] at h
    split at h
    · rename_i fs z zero bt b i j hs hx
      split at h
      · rename_i foff sz ft hf
        simp only [beq_eq, cond_decide] at h
        split at h
        · cases h
        · rename_i hsz
          cases h
          obtain ⟨r, g, oo, n, c, k, e, k1, k2, k3, he⟩ := cO_rel hT hx
          refine ⟨_, ⟨r, g, oo, n, c, k, e, k1, k2, k3, rfl⟩, fun w' => ?_⟩
          unfold execOp; rw [ho]
          simp only [he]
          rw [show oo + (k * r.z + (j + foff)) = oo + (k * r.z + j) + foff by omega]
          exact run_value (fieldAt_run hC hs hf hsz _ _ w')
      · cases h
    · cases h
  | indexAddr t x i =>
    rw [ho] at h
    simp only [symT] at h
    split at h
    · rename_i e z zero bt b ti ht hx hi
      split at h
      · rename_i own tb ks rt de hb he
        cases hc : (Nat.beq ks.length de.z && Nat.blt 0 de.z) with
        | false => rw [hc] at h; cases h
        | true =>
          rw [hc, cond_true] at h
          cases h
          simp only [Bool.and_eq_true, beq_eq, decide_eq_true_eq, Nat.blt_eq] at hc
          obtain ⟨hz, hz0⟩ := hc
          obtain ⟨r, L, ad, c, hE, q1, q2, q3, q4, q5, q6, q7, q8⟩ := (hH.blk _ _ hb).2.val
          obtain ⟨r', hE', hv, _⟩ := cO_rel hT hx
          rw [hE] at hE'; cases hE'
          obtain ⟨n, hiv, hie⟩ := loT_rel hT hi
          obtain ⟨h0, h1⟩ := needIx_ok (y := (L.length : Int)) (hie _ E.q.has_self) (by simp only [Te.ev, unset_len, q2 _ E.q.has_self]) hn
          obtain ⟨k, rfl⟩ : ∃ k : Nat, n = (k : Int) := ⟨n.toNat, by omega⟩
          have hkL : k < L.length := by omega
          obtain ⟨g, oo, rfl⟩ := q8 (by rw [q1, hz]; exact Nat.mul_pos (by omega) hz0)
          refine ⟨_, ⟨r, g, oo, L.length, c, k, hE, q5, hkL, fun S hS => by rw [hie S hS]; simp [natOf], rfl⟩, fun w' => ?_⟩
          unfold execOp; rw [ho]
          simp only [hv, hiv, q5]
          have := indexSy_run hC ht he g oo L.length c k hkL w'
          rw [Nat.add_zero, q1, hz]
          exact run_value this
      · cases h
    · rename_i nn e z zero bt b ti ht hx hi
      split at h
      · rename_i tb ck rt dd zero' bt' hb he
        cases h
        obtain ⟨r, L, hE, q1, q2, q3, q4⟩ := (hH.blk _ _ hb).2
        obtain ⟨r', g, hE', hg, hv⟩ := cO_rel hT hx
        rw [hE] at hE'; cases hE'
        obtain ⟨n, hiv, hie⟩ := loT_rel hT hi
        obtain ⟨h0, h1⟩ := needIx_ok (y := (L.length : Int)) (hie _ E.q.has_self) (by simp only [Te.ev, unset_len, q2 _ E.q.has_self]) (fun c hc => hn c (List.mem_cons_of_mem _ hc))
        have h2 := hn _ List.mem_cons_self
        simp only [Te.ev, hie _ E.q.has_self, binV] at h2
        have h2 : n < (nn : Int) := bool_dec h2
        obtain ⟨k, rfl⟩ : ∃ k : Nat, n = (k : Int) := ⟨n.toNat, by omega⟩
        have hkL : k < L.length := by omega
        rcases q4 with ⟨h3, _⟩ | ⟨g', arr, h3, h4, h5, h6, h7, _⟩
        · rw [hg] at h3; cases h3
        · rw [hg] at h3; cases h3
          refine ⟨_, ⟨r, g, 0, L.length, r.cap, k, hE, h7, hkL, fun S hS => by rw [hie S hS]; simp [natOf], rfl⟩, fun w' => ?_⟩
          unfold execOp; rw [ho]
          simp only [hv, hiv, h5]
          have := indexArr_run hC ht he g (0 + 0) k (by omega) w'
          refine run_value ?_
          rw [this]
          rw [q1]
          simp
      · cases h
    · cases h
  | index t x i =>
    rw [ho] at h
    simp only [symT] at h
    split at h
    · rename_i z zero bt te ti ht hx hi
      cases h
      obtain ⟨⟨s, hsv⟩, hse⟩ := cO_rel hT hx
      obtain ⟨n, hiv, hie⟩ := loT_rel hT hi
      obtain ⟨h0, h1⟩ := needIx_ok (x := n) (y := (s.size : Int)) (hie _ E.q.has_self) (by simp only [Te.ev, hse _ E.q.has_self, hsv, sizeV]) hn
      have hlt : n.toNat < s.size := by omega
      have hb : (if 0 ≤ n then s[n.toNat]? else none) = some s[n.toNat] := by rw [if_pos h0]; exact getElem?_pos s n.toNat hlt
      refine ⟨.int .u8 (s[n.toNat].toNat : Int), ⟨⟨_, rfl⟩, fun S hS => by simp only [Te.ev, hse S hS, hie S hS, hsv, binV, hb]⟩, fun w' => ?_⟩
      unfold execOp; rw [ho]
      have e1 : C.P.underlying t = some .string := (hC.ty _ _ ht).desc
      simp only [hsv, hiv]
      refine run_value ?_
      simp only [Instr.index, asIntOf, Sem.run_bind, Sem.run_pure, underlying_run' e1, Result.andThen_ok, hb]
    · cases h
  | slice t x lo hi mx =>
    rw [ho] at h
    cases mx with
    | some m => simp [symT] at h
    | none =>
      simp only [symT] at h
      split at h
      · rename_i e z zero bt b ht hx
        split at h
        · rename_i own tb ks rt de hb he
          split at h
          · rename_i tl th hl hhi
            cases hc : (Nat.beq ks.length de.z && Nat.blt 0 de.z) with
            | false => rw [hc] at h; cases h
            | true =>
              rw [hc, cond_true] at h
              cases h
              simp only [Bool.and_eq_true, beq_eq, decide_eq_true_eq, Nat.blt_eq] at hc
              obtain ⟨hz, hz0⟩ := hc
              obtain ⟨r, L, ad, c, hE, q1, q2, q3, q4, q5, q6, q7, q8⟩ := (hH.blk _ _ hb).2.val
              obtain ⟨r', hE', hv, _⟩ := cO_rel hT hx
              rw [hE] at hE'; cases hE'
              have hn1 : ∀ c ∈ needUp tl th, c.ev E.q.S = .bool true := fun c hc => hn c (List.mem_append_left _ hc)
              have hn2 : ∀ c ∈ needUp th (.len rt), c.ev E.q.S = .bool true := fun c hc => hn c (List.mem_append_right _ hc)
              have hlen : ∀ S, E.q.has S → (Te.len rt).ev S = .int .i64 (L.length : Int) := fun S hS => by simp only [Te.ev, q2 S hS]
              obtain ⟨xl, hlv, hle⟩ : ∃ n, (∀ lx, lo = some lx → a.eval lx = .int .i64 n) ∧ (lo = none → n = 0) ∧ ∀ S, E.q.has S → tl.ev S = .int .i64 n := by
                cases lo with
                | none => simp only [loT, Option.some.injEq] at hl; subst hl; exact ⟨0, by simp, fun _ => rfl, fun S _ => rfl⟩
                | some lx => obtain ⟨n, g1, g2⟩ := loT_rel hT hl; exact ⟨n, fun l e => by cases e; exact g1, by simp, g2⟩
              obtain ⟨xh, hhv, hhe⟩ : ∃ n, (∀ lx, hi = some lx → a.eval lx = .int .i64 n) ∧ (hi = none → n = L.length) ∧ ∀ S, E.q.has S → th.ev S = .int .i64 n := by
                cases hi with
                | none => simp only [hiT, Option.some.injEq] at hhi; subst hhi; exact ⟨L.length, by simp, fun _ => rfl, hlen⟩
                | some lx => obtain ⟨n, g1, g2⟩ := loT_rel (te := th) hT (by simpa [loT, hiT] using hhi); exact ⟨n, fun l e => by cases e; exact g1, by simp, g2⟩
              obtain ⟨a1, a2⟩ := needUp_ok (hle.2 _ E.q.has_self) (hhe.2 _ E.q.has_self) hn1
              obtain ⟨a3, a4⟩ := needUp_ok (hhe.2 _ E.q.has_self) (hlen _ E.q.has_self) hn2
              obtain ⟨l, rfl⟩ : ∃ k : Nat, xl = (k : Int) := ⟨xl.toNat, by omega⟩
              obtain ⟨hh, rfl⟩ : ∃ k : Nat, xh = (k : Int) := ⟨xh.toNat, by omega⟩
              have hu : C.P.underlying t = some (.slice e) := (hC.ty _ _ ht).desc
              have hlo : ∀ w', (match lo.map a.eval with | some v => Instr.sliceBound v hh .sliceB | none => (pure 0 : Sem Nat)).run C.P w' = .ok l w' := by
                intro w'
                cases lo with
                | none => have := hle.1 rfl; obtain rfl : l = 0 := by omega
                          rfl
                | some lx =>
                  simp only [Option.map_some, hlv lx rfl]
                  exact sliceBound_run w' l hh _ (by omega)
              have hhi' : ∀ w', (match hi.map a.eval with | some v => Instr.sliceBound v c .sliceAcap | none => (pure L.length : Sem Nat)).run C.P w' = .ok hh w' := by
                intro w'
                cases hi with
                | none => have := hhe.1 rfl; obtain rfl : hh = L.length := by omega
                          rfl
                | some hx2 =>
                  simp only [Option.map_some, hhv hx2 rfl]
                  exact sliceBound_run w' hh _ _ (by omega)
              have hbd : ∀ w', (Instr.sliceBounds true L.length c (lo.map a.eval) (hi.map a.eval) none).run C.P w' = .ok (l, hh, c) w' := by
                intro w'
                have h1 := hlo w'
                have h2 := hhi' w'
                cases hi with
                | none =>
                  simp only [Option.map_none] at h2
                  cases lo with
                  | none => simp_all [Instr.sliceBounds, Sem.run_bind]
                  | some lx => simp_all [Instr.sliceBounds, Sem.run_bind]
                | some hx2 =>
                  simp only [Option.map_some] at h2
                  cases lo with
                  | none => simp_all [Instr.sliceBounds, Sem.run_bind]
                  | some lx => simp_all [Instr.sliceBounds, Sem.run_bind]
              have hrun : ∀ w', (execOp a.eval o).run C.P w' = .ok (.value (.slice (if c = l then ad else ad.map (·.add (l * r.z))) (hh - l) (c - l))) w' := by
                intro w'
                unfold execOp; rw [ho]
                refine run_value ?_
                have hsz := sizeOf_run (hC.ty _ _ he) w'
                rw [← hz, ← q1] at hsz
                simp only [Instr.sliceAt, Instr.slice, hv, q5, Sem.run_bind, underlying_run' hu, Result.andThen_ok, hbd, hsz, Sem.run_pure, Option.map_none]
              refine ⟨_, ⟨r, ad, L.length, c, l, hh - l, hE, q5, by omega, fun S hS => ⟨hle.2 S hS, ?_⟩, _, _, rfl, fun hpos => ?_, fun hk0 => ?_⟩, hrun⟩
              · simp only [Te.ev, hle.2 S hS, hhe.2 S hS, binV]
                rw [wrap_id _ (by omega) (by omega)]
                congr 1
                omega
              · rw [if_neg (by omega)]
                obtain ⟨g, oo, rfl⟩ := q8 (Nat.mul_pos (by omega) (by omega))
                exact ⟨g, oo, rfl, by simp [addr_add]⟩
              · subst hk0
                refine ⟨?_, by omega⟩
                split
                · rfl
                · cases ad with
                  | none => rfl
                  | some ad => simp [addr_add0]
          · cases h
        · cases h
      · cases h
  | call c =>
    rw [ho] at h
    obtain ⟨callee, args, argTypes⟩ := c
    cases callee with
    | value f => simp [symT] at h
    | invoke f m => simp [symT] at h
    | builtin b =>
      have hex : ∀ w' v, (builtin b argTypes o.type (args.map fun | .const _ => true | _ => false) (args.map a.eval)).run C.P w' = .ok (.value v) w' → (execOp a.eval o).run C.P w' = .ok (.value v) w' := by
        intro w' v hv
        unfold execOp; rw [ho]
        simp only [resolve, Sem.run_bind, Sem.run_pure, Result.andThen_ok, invoke]
        exact hv
      cases b with
      | len =>
        simp only [symT] at h
        split at h
        · rename_i x t hx ht
          obtain rfl : args = #[x] := by apply Array.toList_inj.1; simpa using hx
          obtain rfl : argTypes = #[t] := by apply Array.toList_inj.1; simpa using ht
          split at h
          · rename_i e z zero bt b htt hu
            split at h
            · rename_i own tb ks rt hb
              cases h
              have hun : C.P.underlying t = some (.slice e) := (hC.ty _ _ htt).desc
              obtain ⟨r, L, ad, c, hE, q1, q2, q3, q4, q5, q6, q7, q8⟩ := (hH.blk _ _ hb).2.val
              obtain ⟨r', hE', hv, _⟩ := cO_rel hT hu
              rw [hE] at hE'; cases hE'
              refine ⟨.int .i64 (L.length : Int), ⟨⟨_, rfl⟩, fun S hS => by simp only [Te.ev, unset_len, q2 S hS]⟩, fun w' => hex w' _ ?_⟩
              simp [builtin, Builtin.len_, Sem.run_bind, underlying_run' hun, hv, q5, goInt]
            · cases h
          · rename_i e z zero bt b i n htt hu
            cases h
            have hun : C.P.underlying t = some (.slice e) := (hC.ty _ _ htt).desc
            obtain ⟨r, ad, L, c, k, m, hE, q1, q2, q3, a', c', hv, _⟩ := cO_rel hT hu
            refine ⟨.int .i64 (m : Int), ⟨⟨_, rfl⟩, fun S hS => (q3 S hS).2⟩, fun w' => hex w' _ ?_⟩
            simp [builtin, Builtin.len_, Sem.run_bind, underlying_run' hun, hv, goInt]
          · rename_i z zero bt te htt hu
            cases h
            have hun : C.P.underlying t = some .string := (hC.ty _ _ htt).desc
            obtain ⟨⟨s, hs⟩, h2⟩ := cO_rel hT hu
            refine ⟨.int .i64 (s.size : Int), ⟨⟨_, rfl⟩, fun S hS => by simp only [Te.ev, h2 S hS, hs, sizeV]⟩, fun w' => hex w' _ ?_⟩
            simp [builtin, Builtin.len_, Sem.run_bind, underlying_run' hun, hs, goInt]
          · cases h
        · cases h
      | _ => simp [symT] at h
  | _ => rw [ho] at h; simp [symT] at h
end
end Go.Proofs.Ytipomcnbjlfekaa.Rs
