/- A symbolic machine over the model's operations. Part 15: ends, code, functions, loops. No program in sight. -/
import Derived.Test.YtipomcnbjlfekaaRs14
namespace Go.Proofs.Ytipomcnbjlfekaa.Rs
open Go.RowKit
set_option linter.unusedVariables false
set_option linter.unusedSimpArgs false
/-! ### Ends -/
def exEq : Ex → Ex → Bool
  | .nrm, .nrm => true
  | .ret, .ret => true
  | .ext i, .ext j => Nat.beq i j
  | _, _ => false
theorem exEq_eq {x y : Ex} (h : exEq x y = true) : x = y := by
  unfold exEq at h
  split at h
  · rfl
  · rfl
  · rw [Nat.eq_of_beq_eq_true h]
  · cases h
def endT (s : Sum) (e : Ex) (xsOf : Alt → Option (List SV)) (H : Hp) : List Alt → Out
  | [] => .fail
  | al :: rest =>
    bif exEq al.ex e then
      match xsOf al with
      | some xs => bif okE s al (bindE s al xs H).1 (bindE s al xs H).2 then .prove al.id (tlF .s 0 s.nv) (rlF .s 0 s.nr) (tlF (lv s (bindE s al xs H).2) s.nv al.mv) (rlF (lr s (bindE s al xs H).2) s.nr al.mr) else endT s e xsOf H rest
      | none => endT s e xsOf H rest
    else endT s e xsOf H rest
section
variable {C : Cfg} {K0 : Qn → Ex → Tm → Hp → Prop} {fr : Fr} {E E0 : Env} {w0 : World} {H : Hp} {w w' : World} {s : Sum}
theorem vals_le {q q' : Qn} (h : q.le q') {n : Nat} (hn : n ≤ q.n) : vals q' n = vals q n := by
  apply List.map_congr_left
  intro i hi
  exact h.2.2.1 i (by have := List.mem_range.1 hi; omega)
theorem rows_le {q q' : Qn} (h : q.le q') {n : Nat} (hn : n ≤ q.m) : rowsOf q' n = rowsOf q n := by
  apply List.map_congr_left
  intro i hi
  exact h.2.2.2 i (by have := List.mem_range.1 hi; omega)
theorem endT_ok (hH : RelH fr w0 E H w) (h0 : E0.le E) (hn : E0.q.n = s.nv ∧ E0.q.m = s.nr) (hdef : ∀ c, c < s.bl.length → ∃ r, E0 c = some r) (hfr : ∀ c, s.bl.length ≤ c → E0 c = none) {e : Ex} {xsOf : Alt → Option (List SV)} {usOf : Alt → List Value}
    (hx : ∀ al xs, xsOf al = some xs → xs.length = (usOf al).length ∧ ∀ (j : Nat) x v, xs[j]? = some x → (usOf al)[j]? = some v → RelS E x v) : ∀ (l : List Alt), (endT s e xsOf H l).Ok C K0 E.q →
    ∃ al ∈ l, al.ex = e ∧ (∃ xs, xsOf al = some xs) ∧ ∃ E1, Told1 C fr w0 s E0 al E1 w ∧ al.res.length = (usOf al).length ∧ ∀ (j : Nat) x v, al.res[j]? = some x → (usOf al)[j]? = some v → RelS E1 x v
  | [], h => h.elim
  | al :: rest, h => by
    have hrest : (endT s e xsOf H rest).Ok C K0 E.q → ∃ al' ∈ al :: rest, al'.ex = e ∧ (∃ xs, xsOf al' = some xs) ∧ ∃ E1, Told1 C fr w0 s E0 al' E1 w ∧ al'.res.length = (usOf al').length ∧ ∀ (j : Nat) x v, al'.res[j]? = some x → (usOf al')[j]? = some v → RelS E1 x v := fun h => by
      obtain ⟨a, ha, k⟩ := endT_ok hH h0 hn hdef hfr hx rest h
      exact ⟨a, List.mem_cons_of_mem _ ha, k⟩
    simp only [endT] at h
    cases he : exEq al.ex e with
    | false => rw [he] at h; exact hrest h
    | true =>
      rw [he, cond_true] at h
      split at h
      · rename_i xs hxs
        cases hok : okE s al (bindE s al xs H).1 (bindE s al xs H).2 with
        | false => rw [hok] at h; exact hrest h
        | true =>
          rw [hok, cond_true] at h
          obtain ⟨l1, l2⟩ := hx al xs hxs
          obtain ⟨E1, a1, a2, a3, a4, a5⟩ := nA_ok (H0 := s.H1 al) al.res xs (usOf al) hH l1 l2
          have hm : (bA ⟨.e, .e, oldB s.bl.length .e, (nA (s.H1 al) H al.res xs).2⟩ al.res (nA (s.H1 al) H al.res xs).1).H = (nA (s.H1 al) H al.res xs).2 := bA_H _ _ _
          obtain ⟨E2, b1, b2, b3⟩ := bBs_ok (fr := fr) (w0 := w0) (w := w) (H0 := s.H1 al) (s.H1 al).next 0 (bA ⟨.e, .e, oldB s.bl.length .e, (nA (s.H1 al) H al.res xs).2⟩ al.res (nA (s.H1 al) H al.res xs).1) (E := E1) (by rw [hm]; exact a3)
          have hf := okE_fits hok
          have hq : E2.q = E.q := b2.trans a2
          have h02 : E0.le E2 := Env.le_trans h0 (Env.le_trans a1 b1)
          refine ⟨al, by simp, exEq_eq he, ⟨xs, hxs⟩, eeOf s al (bindE s al xs H).2 E2, ends_ok hf b3 h02 hn hdef hfr ?_, ?_, ?_⟩
          · have h : C.fact al.id _ _ _ _ := h
            rw [tlF_ev, rlF_ev, tlF_ev, rlF_ev] at h
            have e1 : (List.range s.nv).map (fun j => (Te.s (0 + j)).ev E.q.S) = vals E0.q s.nv := by
              rw [← vals_le h0.2 (by rw [hn.1]; exact Nat.le_refl _)]
              apply List.map_congr_left
              intro j _
              rw [Nat.zero_add]; rfl
            have e2 : (List.range s.nr).map (fun j => (RT.s (0 + j)).ev E.q.S) = rowsOf E0.q s.nr := by
              rw [← rows_le h0.2 (by rw [hn.2]; exact Nat.le_refl _)]
              apply List.map_congr_left
              intro j _
              rw [Nat.zero_add]; rfl
            rw [e1, e2, ← hq] at h
            exact h
          · rw [(wA_ok (E := E2) hf.res).1]; exact a4
          · intro j x v hjx hjv
            obtain ⟨y, hy, hyx⟩ := (wA_ok (E := E2) hf.res).2 j x hjx
            exact hyx v ((a5 j y v hy hjv).mono b1)
      · exact hrest h
end
/-! ### Code -/
def slotsO (tm : Tm) : List Nat → Option (List SV)
  | [] => some []
  | d :: ds =>
    match tm.get d, slotsO tm ds with
    | some x, some xs => some (x :: xs)
    | _, _ => none
def tmOf : List Nat → List SV → Tm
  | d :: ds, x :: xs => (tmOf ds xs).put d (some x)
  | _, _ => .e
def callLs (tm : Tm) (H : Hp) (k : Ex → Tm → Hp → Out) : List Sum → Option Out
  | [] => none
  | s :: rest =>
    match slotsO tm s.sl with
    | some as =>
      match callS s as H (fun al rs H2 => k al.ex (tmOf al.sl rs) H2) with
      | some o => some o
      | none => callLs tm H k rest
    | none => callLs tm H k rest
def knowO (tm : Tm) (c : Operand) (b : Bool) : Tm :=
  match c with
  | .tmp d => tm.put d (some (knownB b))
  | _ => tm
def iterT (f : Tm → Hp → (Ex → Tm → Hp → Out) → Out) : Nat → Tm → Hp → (Ex → Tm → Hp → Out) → Out
  | 0, _, _, _ => .fail
  | n + 1, tm, H, k => f tm H fun e tm H => match e with
    | .nrm => iterT f n tm H k
    | .ext id => k (.ext id) tm H
    | .ret => k .ret tm H
def codeT (C : Cfg) (ce : Ce) (N lf fid : Nat) : Code → Tm → Hp → (Ex → Tm → Hp → Out) → Out
  | .skip, tm, H, k => k .nrm tm H
  | .region _ ops false, tm, H, k => opsT C ce N ops ops.toList tm H fun tm H => nameL C (asgs ops.toList) tm H fun tm H => k .nrm tm H
  | .region _ ops true, tm, H, k => drawR C ce N ops tm H fun tm H => nameL C (asgs ops.toList) tm H fun tm H => k .nrm tm H
  | .seq x y, tm, H, k => codeT C ce N lf fid x tm H fun e tm H => match e with
    | .nrm => codeT C ce N lf fid y tm H k
    | .ext id => k (.ext id) tm H
    | .ret => k .ret tm H
  | .cond c x y, tm, H, k =>
    match cO tm c with
    | some (.v (.bool true)) => codeT C ce N lf fid x tm H k
    | some (.v (.bool false)) => codeT C ce N lf fid y tm H k
    | some (.t .b te) => .ask te (codeT C ce N lf fid x (knowO tm c true) H k) (codeT C ce N lf fid y (knowO tm c false) H k)
    | _ => .fail
  | .block id x, tm, H, k =>
    match callLs tm H k (C.lps fid id) with
    | some o => o
    | none => codeT C ce N lf fid x tm H fun e tm H => match e with
      | .nrm => k .nrm tm H
      | .ext j => bif Nat.beq j id then k .nrm tm H else k (.ext j) tm H
      | .ret => k .ret tm H
  | .loop x, tm, H, k => iterT (fun tm H k => codeT C ce N lf fid x tm H k) lf tm H k
  | .exit id, tm, H, k => k (.ext id) tm H
  | .ret, tm, H, k => k .ret tm H
  | _, _, _, _ => .fail
/-- The blocks of a text, with what they hold. -/
def blocksOf : Code → List (Nat × Code)
  | .seq x y => blocksOf x ++ blocksOf y
  | .cond _ x y => blocksOf x ++ blocksOf y
  | .block id x => (id, x) :: blocksOf x
  | .loop x => blocksOf x
  | _ => []
def Post (K : Ex → Act → World → Prop) : Exit → Act → World → Prop
  | .normal, a, w => K .nrm a w
  | .exit id, a, w => K (.ext id) a w
  | .ret, a, w => K .ret a w
  | _, _, _ => False
/-- What is told of a loop is so. -/
def LoopOk (C : Cfg) (N : Nat) (c : Code) (s : Sum) : Prop :=
  ∀ fr w0 w (E0 : Env) (a : Act), E0.q.n = s.nv → E0.q.m = s.nr → RelH fr w0 E0 s.H0 w → RelT E0 N (tmOf s.sl s.as0) a → s.sl.length = s.as0.length → C.pre s.pid (vals E0.q s.nv) (rowsOf E0.q s.nr) →
    (∀ c, c < s.bl.length → ∃ r, E0 c = some r) → (∀ c, s.bl.length ≤ c → E0 c = none) →
    c.wp C.P (Post fun e a' w' => ∃ al ∈ s.outs, al.ex = e ∧ ∃ E1, Told1 C fr w0 s E0 al E1 w' ∧ al.res.length = al.sl.length ∧ RelT E1 N (tmOf al.sl al.res) a') a w
def Cfg.Loops (C : Cfg) (N fid : Nat) (c : Code) : Prop := ∀ p ∈ blocksOf c, ∀ s ∈ C.lps fid p.1, LoopOk C N (.block p.1 p.2) s
section
variable {C : Cfg} {K0 : Qn → Ex → Tm → Hp → Prop} {fr : Fr} {E E0 : Env} {N lf fid : Nat} {w0 : World} {H : Hp} {w w' : World} {ce : Ce} {tm : Tm} {a : Act}
theorem slotsO_get : ∀ {l : List Nat} {xs : List SV}, slotsO tm l = some xs → xs.length = l.length ∧ ∀ (j : Nat) x, xs[j]? = some x → ∃ d, l[j]? = some d ∧ tm.get d = some x
  | [], xs, h => by cases h; exact ⟨rfl, fun j x h => by simp at h⟩
  | d :: ds, xs, h => by
    simp only [slotsO] at h
    split at h
    · rename_i x xs' hx hxs
      cases h
      obtain ⟨h1, h2⟩ := slotsO_get hxs
      refine ⟨by simp [h1], fun j y hy => ?_⟩
      cases j with
      | zero => simp at hy; subst hy; exact ⟨d, rfl, hx⟩
      | succ j => simpa using h2 j y (by simpa using hy)
    · cases h
theorem slots_rel (hT : RelT E N tm a) {l : List Nat} {xs : List SV} (h : slotsO tm l = some xs) : xs.length = (l.map fun d => a.tmps.getD d undef).length ∧ ∀ (j : Nat) x v, xs[j]? = some x → (l.map fun d => a.tmps.getD d undef)[j]? = some v → RelS E x v := by
  obtain ⟨h1, h2⟩ := slotsO_get h
  refine ⟨by simp [h1], fun j x v hx hv => ?_⟩
  obtain ⟨d, hd, hg⟩ := h2 j x hx
  rw [List.getElem?_map, hd] at hv
  cases hv
  exact (hT.at_ d x hg).2
theorem tmOf_get : ∀ (l : List Nat) (xs : List SV) (d : Nat) (x : SV), (tmOf l xs).get d = some x → ∃ j : Nat, l[j]? = some d ∧ xs[j]? = some x
  | [], xs, d, x, h => by cases xs <;> simp [tmOf, Tr.get] at h
  | e :: l, [], d, x, h => by simp [tmOf, Tr.get] at h
  | e :: l, y :: xs, d, x, h => by
    simp only [tmOf, Tr.get_put] at h
    split at h
    · rename_i he
      cases h
      subst he
      exact ⟨0, rfl, rfl⟩
    · obtain ⟨j, h1, h2⟩ := tmOf_get l xs d x h
      exact ⟨j + 1, h1, h2⟩
/-- Slots that are so. -/
theorem tmOf_rel (hs : a.tmps.size = N) (hd : a.defers = []) {l : List Nat} {xs : List SV} (hlt : ∀ (j d : Nat), l[j]? = some d → d < N) (h : ∀ (j : Nat) x v, xs[j]? = some x → (l.map fun d => a.tmps.getD d undef)[j]? = some v → RelS E x v) : RelT E N (tmOf l xs) a := by
  refine ⟨hs, hd, fun d x hx => ?_⟩
  obtain ⟨j, h1, h2⟩ := tmOf_get l xs d x hx
  exact ⟨hlt j d h1, h j x _ h2 (by rw [List.getElem?_map, h1]; rfl)⟩
theorem e0_def {s : Sum} {as : List SV} {m : Mt} (hf : Fits s as m) (hH : RelH fr w0 E m.H w) : (∀ c, c < s.bl.length → ∃ r, (e0Of s m E) c = some r) ∧ (∀ c, s.bl.length ≤ c → (e0Of s m E) c = none) :=
  ⟨fun c hc => rg_def hf hH hc, fun c hc => by
    show rgOf s m E c = none
    unfold rgOf
    rw [List.getElem?_eq_none hc]⟩
/-- A loop that is told of. -/
theorem callLs_ok {c : Code} {k : Ex → Tm → Hp → Out} {KK : Ex → Act → World → Prop} (hH : RelH fr w0 E H w) (hT : RelT E N tm a) (hK : ∀ E' a' w' e tm' H', E.le E' → RelH fr w0 E' H' w' → RelT E' N tm' a' → (k e tm' H').Ok C K0 E'.q → KK e a' w') :
    ∀ {l : List Sum} {o : Out}, (∀ s ∈ l, LoopOk C N c s) → callLs tm H k l = some o → o.Ok C K0 E.q → c.wp C.P (Post KK) a w
  | [], o, hl, h, ho => by cases h
  | s :: rest, o, hl, h, ho => by
    simp only [callLs] at h
    split at h
    · rename_i as hsl
      split at h
      · rename_i o' hc
        cases h
        obtain ⟨l1, l2⟩ := slots_rel hT hsl
        obtain ⟨E', m, as', h1, h2, hf, h3, h4, h5, h6, h7, h8⟩ := callS_begin hc ho hH l1 l2
        obtain ⟨d1, d2⟩ := e0_def hf h3
        have hslt : ∀ (j d : Nat), s.sl[j]? = some d → d < N := fun j d hd => by
          obtain ⟨g1, g2⟩ := slotsO_get hsl
          obtain ⟨x, hx⟩ : ∃ x, as[j]? = some x := ⟨_, List.getElem?_eq_getElem (by rw [g1]; exact (List.getElem?_eq_some_iff.1 hd).1)⟩
          obtain ⟨d', hd', hg⟩ := g2 j x hx
          rw [hd] at hd'; cases hd'
          exact (hT.at_ d x hg).1
        refine wp_mono (hl s (by simp) (frOf s m E' w) w w (e0Of s m E') a rfl rfl h4 (tmOf_rel hT.size hT.defers hslt h6) (by rw [h5]; simp) h7 d1 d2) ?_
        have key : ∀ e a' w', (∃ al ∈ s.outs, al.ex = e ∧ ∃ E1, Told1 C (frOf s m E' w) w s (e0Of s m E') al E1 w' ∧ al.res.length = al.sl.length ∧ RelT E1 N (tmOf al.sl al.res) a') → KK e a' w' := by
          rintro e a' w' ⟨al, hal, rfl, E1, ht, hrl, hT1⟩
          obtain ⟨E2, rs, H2, g1, g2, g3, g4, g5⟩ := callS_end hf h3 (h8 al hal) ht
          refine hK E2 a' w' al.ex (tmOf al.sl rs) H2 (Env.le_trans h1 g1) g2 ⟨hT1.size, hT1.defers, fun d y hy => ?_⟩ g3
          -- a slot may be told twice: the last stands
          have hh : ∀ (sl : List Nat) (xs ys : List SV), xs.length = ys.length → (∀ (j : Nat) y, ys[j]? = some y → ∃ x, xs[j]? = some x ∧ ∀ u, RelS E1 x u → RelS E2 y u) → ∀ d y, (tmOf sl ys).get d = some y → ∃ x, (tmOf sl xs).get d = some x ∧ ∀ u, RelS E1 x u → RelS E2 y u := by
            intro sl
            induction sl with
            | nil => intro xs ys _ _ d y hy; cases ys <;> simp [tmOf, Tr.get] at hy
            | cons e sl ih =>
              intro xs ys hlen hxy d y hy
              match xs, ys, hlen, hxy, hy with
              | [], [], _, _, hy => simp [tmOf, Tr.get] at hy
              | x0 :: xs, y0 :: ys, hlen, hxy, hy =>
                simp only [tmOf, Tr.get_put] at hy ⊢
                by_cases hde : d = e
                · rw [if_pos hde] at hy ⊢
                  cases hy
                  obtain ⟨x, hx, hu⟩ := hxy 0 _ rfl
                  simp at hx
                  subst hx
                  exact ⟨x0, rfl, hu⟩
                · rw [if_neg hde] at hy ⊢
                  exact ih xs ys (by simpa using hlen) (fun j y hy => by simpa using hxy (j + 1) y (by simpa using hy)) d y hy
          obtain ⟨x, hx, hu⟩ := hh al.sl al.res rs g4 g5 d y hy
          obtain ⟨q1, q2⟩ := hT1.at_ d x hx
          exact ⟨q1, hu _ q2⟩
        intro e a' w' hq
        cases e <;> first | exact key _ _ _ hq | exact hq.elim
      · exact callLs_ok hH hT hK (fun s' hs' => hl s' (List.mem_cons_of_mem _ hs')) h ho
    · exact callLs_ok hH hT hK (fun s' hs' => hl s' (List.mem_cons_of_mem _ hs')) h ho
theorem knowO_ok (hT : RelT E N tm a) {c : Operand} {te : Te} (h : cO tm c = some (.t .b te)) {b : Bool} (hv : a.eval c = .bool b) : RelT E N (knowO tm c b) a := by
  unfold cO at h
  split at h
  · rename_i v hg
    cases h
    cases c with
    | tmp d => exact hT.know hg hv
    | const v => exact hT
    | global g => cases hg
    | func f => cases hg
  · cases h
theorem codeT_ok (hC : C.Ok) (hce : CeOk C K0 fr w0 ce) : ∀ (c : Code) (KK : Ex → Act → World → Prop) (k : Ex → Tm → Hp → Out) (tm : Tm) (H : Hp) (E : Env) (a : Act) (w : World), C.Loops N fid c → (codeT C ce N lf fid c tm H k).Ok C K0 E.q → RelH fr w0 E H w → RelT E N tm a →
    (∀ E' a' w' e tm' H', E.le E' → RelH fr w0 E' H' w' → RelT E' N tm' a' → (k e tm' H').Ok C K0 E'.q → KK e a' w') → c.wp C.P (Post KK) a w
  | .skip, KK, k, tm, H, E, a, w, hL, h, hH, hT, hK => wp_skip (hK E a w .nrm tm H (Env.le_refl E) hH hT h)
  | .region id ops false, KK, k, tm, H, E, a, w, hL, h, hH, hT, hK => by
    simp only [codeT] at h
    refine wp_region_list (opsT_ok hC hce ops.toList tm H E a w h hH hT fun E' a' w' tm' H' hle hH' hT' hk => ?_)
    obtain ⟨E2, tm2, H2, n1, n2, n3, n4⟩ := nameL_ok _ E' tm' H' hk hH' hT'
    exact hK E2 a' w' .nrm tm2 H2 (Env.le_trans hle n1) n2 n3 n4
  | .region id ops true, KK, k, tm, H, E, a, w, hL, h, hH, hT, hK => by
    simp only [codeT] at h
    refine drawR_ok hC hce (fun _ _ _ _ h => h) h hH hT fun E' a' w' tm' H' hle hH' hT' hk => ?_
    obtain ⟨E2, tm2, H2, n1, n2, n3, n4⟩ := nameL_ok _ E' tm' H' hk hH' hT'
    exact hK E2 a' w' .nrm tm2 H2 (Env.le_trans hle n1) n2 n3 n4
  | .seq x y, KK, k, tm, H, E, a, w, hL, h, hH, hT, hK => by
    simp only [codeT] at h
    refine wp_seq ?_
    have hLx : C.Loops N fid x := fun p hp => hL p (by simp only [blocksOf, List.mem_append]; exact .inl hp)
    have hLy : C.Loops N fid y := fun p hp => hL p (by simp only [blocksOf, List.mem_append]; exact .inr hp)
    refine wp_mono (codeT_ok hC hce x (fun e a w => match e with | .nrm => y.wp C.P (Post KK) a w | e => KK e a w) _ tm H E a w hLx h hH hT (fun E' a' w' e tm' H' hle hH' hT' hk => ?_)) ?_
    · cases e with
      | nrm => exact codeT_ok hC hce y KK k tm' H' E' a' w' hLy hk hH' hT' fun E2 a2 w2 e2 tm2 H2 hle2 => hK E2 a2 w2 e2 tm2 H2 (Env.le_trans hle hle2)
      | ext j => exact hK E' a' w' _ tm' H' hle hH' hT' hk
      | ret => exact hK E' a' w' _ tm' H' hle hH' hT' hk
    · intro e a w hq
      cases e <;> first | exact hq | exact hq.elim
  | .cond c x y, KK, k, tm, H, E, a, w, hL, h, hH, hT, hK => by
    simp only [codeT] at h
    have hLx : C.Loops N fid x := fun p hp => hL p (by simp only [blocksOf, List.mem_append]; exact .inl hp)
    have hLy : C.Loops N fid y := fun p hp => hL p (by simp only [blocksOf, List.mem_append]; exact .inr hp)
    split at h
    · rename_i hb
      exact wp_cond_true (cO_rel hT hb).1 (codeT_ok hC hce x KK k tm H E a w hLx h hH hT hK)
    · rename_i hb
      exact wp_cond_false (cO_rel hT hb).1 (codeT_ok hC hce y KK k tm H E a w hLy h hH hT hK)
    · rename_i te hb
      obtain ⟨⟨b, hv⟩, hev⟩ := cO_rel hT hb
      have hbe := hev _ E.q.has_self
      rw [hv] at hbe
      have hT2 := knowO_ok hT hb hv
      cases b with
      | true => exact wp_cond_true hv (codeT_ok hC hce x KK k _ H E a w hLx (h.1 hbe) hH hT2 hK)
      | false => exact wp_cond_false hv (codeT_ok hC hce y KK k _ H E a w hLy (h.2 hbe) hH hT2 hK)
    · exact h.elim
  | .block id x, KK, k, tm, H, E, a, w, hL, h, hH, hT, hK => by
    simp only [codeT] at h
    have hLx : C.Loops N fid x := fun p hp => hL p (by simp only [blocksOf, List.mem_cons]; exact .inr hp)
    split at h
    · rename_i o ho
      exact callLs_ok hH hT hK (fun s hs => hL (id, x) (by simp [blocksOf]) s hs) ho h
    · refine wp_block ?_
      refine wp_mono (codeT_ok hC hce x (fun e a w => match e with | .ext j => if j = id then KK .nrm a w else KK (.ext j) a w | e => KK e a w) _ tm H E a w hLx h hH hT (fun E' a' w' e tm' H' hle hH' hT' hk => ?_)) ?_
      · cases e with
        | nrm => exact hK E' a' w' _ tm' H' hle hH' hT' hk
        | ret => exact hK E' a' w' _ tm' H' hle hH' hT' hk
        | ext j =>
          dsimp only at hk ⊢
          rw [beq_eq, cond_decide] at hk
          split at hk
          · rename_i hj; rw [if_pos hj]; exact hK E' a' w' _ tm' H' hle hH' hT' hk
          · rename_i hj; rw [if_neg hj]; exact hK E' a' w' _ tm' H' hle hH' hT' hk
      · intro e a w hq
        cases e with
        | exit j => simp only [Exit.inBlock, Post] at hq ⊢; exact hq
        | normal => exact hq
        | ret => exact hq
        | goto l => exact hq
        | panic c => exact hq
        | outgrown => exact hq
  | .loop x, KK, k, tm, H, E, a, w, hL, h, hH, hT, hK => by
    simp only [codeT] at h
    have hLx : C.Loops N fid x := fun p hp => hL p (by simp only [blocksOf]; exact hp)
    have key : ∀ n (tm : Tm) (H : Hp) (E : Env) (a : Act) (w : World), (iterT (fun tm H k => codeT C ce N lf fid x tm H k) n tm H k).Ok C K0 E.q → RelH fr w0 E H w → RelT E N tm a → (∀ E' a' w' e tm' H', E.le E' → RelH fr w0 E' H' w' → RelT E' N tm' a' → (k e tm' H').Ok C K0 E'.q → KK e a' w') → Code.rounds C.P x (Post KK) n a w := by
      intro n
      induction n with
      | zero => intro tm H E a w h; exact h.elim
      | succ n ih =>
        intro tm H E a w h hH hT hK
        rw [rounds_succ]
        simp only [iterT] at h
        refine wp_mono (codeT_ok hC hce x (fun e a w => match e with | .nrm => Code.rounds C.P x (Post KK) n a w | e => KK e a w) _ tm H E a w hLx h hH hT (fun E' a' w' e tm' H' hle hH' hT' hk => ?_)) ?_
        · cases e with
          | nrm => exact ih tm' H' E' a' w' hk hH' hT' fun E2 a2 w2 e2 tm2 H2 hle2 => hK E2 a2 w2 e2 tm2 H2 (Env.le_trans hle hle2)
          | ext j => exact hK E' a' w' _ tm' H' hle hH' hT' hk
          | ret => exact hK E' a' w' _ tm' H' hle hH' hT' hk
        · intro e a w hq
          cases e <;> first | exact hq | exact hq.elim
    exact wp_loop_rounds lf (key lf tm H E a w h hH hT hK)
  | .exit id, KK, k, tm, H, E, a, w, hL, h, hH, hT, hK => wp_exit (hK E a w (.ext id) tm H (Env.le_refl E) hH hT h)
  | .ret, KK, k, tm, H, E, a, w, hL, h, hH, hT, hK => wp_ret (hK E a w .ret tm H (Env.le_refl E) hH hT h)
  | .rangeFunc .., KK, k, tm, H, E, a, w, hL, h, hH, hT, hK => h.elim
  | .scope .., KK, k, tm, H, E, a, w, hL, h, hH, hT, hK => h.elim
  | .label .., KK, k, tm, H, E, a, w, hL, h, hH, hT, hK => h.elim
  | .goto .., KK, k, tm, H, E, a, w, hL, h, hH, hT, hK => h.elim
  | .refuse .., KK, k, tm, H, E, a, w, hL, h, hH, hT, hK => h.elim
end
/-! ### Functions -/
def argTm : List SV → Nat → Tm
  | [], _ => .e
  | x :: xs, i => (argTm xs (i + 1)).put i (some x)
def resT (C : Cfg) (H : Hp) (tm : Tm) : List ResultVar → Option (List AV × List Te)
  | [] => some ([], [])
  | .tmp t :: rest =>
    match tm.get t, resT C H tm rest with
    | some (.o u), some (r, ns) => some (u :: r, ns)
    | _, _ => none
  | .cell p t :: rest =>
    match tm.get p, resT C H tm rest with
    | some (.o (.c c)), some (r, ns) =>
      match peekC C H t c with
      | some u => some (u :: r, ns)
      | none =>
        match arrL C H t c with
        | some (u, ms) => some (u :: r, ms ++ ns)
        | none => none
    | _, _ => none
def packE : List AV → SV
  | [x] => .o x
  | xs => .tu xs
def funT (C : Cfg) (ce : Ce) (lf fid : Nat) (F : Func) (as : List SV) (H : Hp) (k : SV → Hp → Out) : Out :=
  match F.body with
  | none => .fail
  | some c =>
    bif Nat.ble as.length F.ntmps then
      codeT C ce F.ntmps lf fid c (argTm as 0) H fun e tm H => match e with
        | .ext _ => .fail
        | _ => match resT C H tm F.results.toList with
          | some (us, ns) => needs ns (k (packE us) H)
          | none => .fail
    else .fail
def runT (C : Cfg) (lf : Nat) : Nat → Ce
  | 0 => fun _ _ _ _ => .fail
  | n + 1 => fun f as H k =>
    match C.sums f with
    | [] =>
      match C.fn f with
      | some F => funT C (runT C lf n) lf f F as H k
      | none => .fail
    | s :: l => callL as H (one k) (s :: l)
structure Cfg.Told (C : Cfg) : Prop where
  sums : ∀ f s, s ∈ C.sums f → SumOk C f s
  loops : ∀ f F c, C.fn f = some F → F.body = some c → C.Loops F.ntmps f c
section
variable {C : Cfg} {K0 : Qn → Ex → Tm → Hp → Prop} {fr : Fr} {E E0 : Env} {N lf : Nat} {w0 : World} {H : Hp} {w w' : World} {ce : Ce} {tm : Tm} {a : Act}
theorem argTm_get : ∀ (xs : List SV) (i t : Nat), (argTm xs i).get t = if i ≤ t then xs[t - i]? else none
  | [], i, t => by simp [argTm, Tr.get]
  | x :: xs, i, t => by
    simp only [argTm, Tr.get_put]
    by_cases h : t = i
    · subst h; simp
    · rw [if_neg h, argTm_get xs (i + 1) t]
      by_cases h2 : i ≤ t
      · rw [if_pos (by omega), if_pos h2]
        obtain ⟨q, hq⟩ : ∃ q, t - i = q + 1 := ⟨t - i - 1, by omega⟩
        rw [hq, show t - (i + 1) = q by omega]
        simp
      · rw [if_neg (by omega), if_neg h2]
def resOne (tmps : Array Value) (x : ResultVar) : Sem Value :=
  match x with
  | .tmp t => pure (tmps.getD t undef)
  | .cell p t => do loadVar t (← asAddr (tmps.getD p undef))
theorem results_eq (F : Func) (tmps : Array Value) : results F tmps = (do let vs ← F.results.mapM (resOne tmps); pure (if h : vs.size = 1 then vs[0] else .tuple vs)) := rfl
theorem resT_ok (hC : C.Ok) (hH : RelH fr w0 E H w) (hT : RelT E N tm a) : ∀ (l : List ResultVar) {us : List AV} {ns : List Te}, resT C H tm l = some (us, ns) → (∀ c ∈ ns, c.ev E.q.S = .bool true) → ∃ vs : List Value,
    (l.mapM (resOne a.tmps)).run C.P w = .ok vs w ∧ us.length = vs.length ∧ ∀ (j : Nat) x v, us[j]? = some x → vs[j]? = some v → RelV E x v
  | [], us, ns, h, hn => by
    cases h
    exact ⟨[], by simp [List.mapM_nil, Sem.run_pure], rfl, fun j x v hx => by simp at hx⟩
  | .tmp t :: rest, us, ns, h, hn => by
    simp only [resT] at h
    split at h
    · rename_i u r ns' hu hr
      cases h
      obtain ⟨vs, h1, h2, h3⟩ := resT_ok hC hH hT rest hr hn
      have h0 : (resOne a.tmps (.tmp t)).run C.P w = .ok (a.tmps.getD t undef) w := rfl
      refine ⟨a.tmps.getD t undef :: vs, ?_, by simp [h2], fun j x v hx hv => ?_⟩
      · simp only [List.mapM_cons, Sem.run_bind, h0, h1, Sem.run_pure, Result.andThen_ok]
      · cases j with
        | zero =>
          have e1 : x = u := by simpa using hx.symm
          have e2 : v = a.tmps.getD t undef := by simpa using hv.symm
          rw [e1, e2]
          exact (hT.at_ t _ hu).2
        | succ j => simp at hx hv; exact h3 j x v hx hv
    · cases h
  | .cell p t :: rest, us, ns, h, hn => by
    simp only [resT] at h
    split at h
    · rename_i c r ns' hu hr
      have key : ∀ {u : AV}, (∀ c ∈ ns', c.ev E.q.S = .bool true) → (∃ ad v, a.tmps.getD p undef = .pointer (some ad) ∧ RelV E u v ∧ (loadVar t ad).run C.P w = .ok v w) → ∃ vs : List Value, ((ResultVar.cell p t :: rest).mapM (resOne a.tmps)).run C.P w = .ok vs w ∧ (u :: r).length = vs.length ∧ ∀ (j : Nat) x v, (u :: r)[j]? = some x → vs[j]? = some v → RelV E x v := by
        rintro u hn' ⟨ad, v0, hev, hv0, hrun⟩
        obtain ⟨vs, h1, h2, h3⟩ := resT_ok hC hH hT rest hr hn'
        have h0 : (resOne a.tmps (.cell p t)).run C.P w = .ok v0 w := by
          show (do loadVar t (← asAddr (a.tmps.getD p undef)) : Sem Value).run C.P w = .ok v0 w
          rw [hev]
          exact hrun
        refine ⟨v0 :: vs, ?_, by simp [h2], fun j x v hx hv => ?_⟩
        · simp only [List.mapM_cons, Sem.run_bind, h0, h1, Sem.run_pure, Result.andThen_ok]
        · cases j with
          | zero => simp at hx hv; subst hx hv; exact hv0
          | succ j => simp at hx hv; exact h3 j x v hx hv
      split at h
      · rename_i u hpk
        cases h
        exact key hn (peekC_ok hC hH hpk (hT.at_ p _ hu).2)
      · split at h
        · rename_i u ms hpk
          cases h
          exact key (fun c hc => hn c (List.mem_append_right _ hc)) (arrL_ok hC hH hpk (fun c hc => hn c (List.mem_append_left _ hc)) (hT.at_ p _ hu).2)
        · cases h
    · cases h
theorem results_ok (hC : C.Ok) (hH : RelH fr w0 E H w) (hT : RelT E N tm a) {F : Func} {us : List AV} {ns : List Te} (h : resT C H tm F.results.toList = some (us, ns)) (hn : ∀ c ∈ ns, c.ev E.q.S = .bool true) : ∃ v, RelS E (packE us) v ∧ (results F a.tmps).run C.P w = .ok v w := by
  obtain ⟨vs, h1, h2, h3⟩ := resT_ok hC hH hT F.results.toList h hn
  have hr : (F.results.mapM (resOne a.tmps)).run C.P w = .ok vs.toArray w := by
    rw [Array.mapM_eq_mapM_toList]
    rw [show (List.toArray <$> F.results.toList.mapM (resOne a.tmps)) = (do pure (List.toArray (← F.results.toList.mapM (resOne a.tmps)))) from rfl]
    rw [Sem.run_bind, h1]
    rfl
  have hrun : (results F a.tmps).run C.P w = .ok (if h : vs.toArray.size = 1 then vs.toArray[0] else .tuple vs.toArray) w := by
    rw [results_eq, Sem.run_bind, hr]
    rfl
  match us, vs, h2, h3, hrun with
  | [x], [v], _, h3, hrun => exact ⟨v, h3 0 x v rfl rfl, by rw [hrun]; rfl⟩
  | [], [], _, h3, hrun => exact ⟨.tuple #[], ⟨#[], rfl, rfl, fun j x v hx => by simp at hx⟩, by rw [hrun]; rfl⟩
  | x :: y :: us, v1 :: v2 :: vs, h2, h3, hrun =>
    refine ⟨.tuple (v1 :: v2 :: vs).toArray, ⟨(v1 :: v2 :: vs).toArray, rfl, by simpa using h2, fun j x v hx hv => h3 j x v hx (by simpa using hv)⟩, ?_⟩
    rw [hrun, dif_neg (by simp)]
theorem funT_ok (hC : C.Ok) (hce : CeOk C K0 fr w0 ce) {f : FuncId} {F : Func} (hF : C.fn f = some F) (hL : ∀ c, F.body = some c → C.Loops F.ntmps f c) {as : List SV} {k : SV → Hp → Out} (h : (funT C ce lf f F as H k).Ok C K0 E.q) (hH : RelH fr w0 E H w) {vs : Array Value} (hl : as.length = vs.size) (hr : ∀ (j : Nat) x v, as[j]? = some x → vs[j]? = some v → RelS E x v) :
    Calls C.P f vs w fun e w' => ∃ E' v r H', e = .returned v ∧ E.le E' ∧ RelS E' r v ∧ RelH fr w0 E' H' w' ∧ (k r H').Ok C K0 E'.q := by
  unfold funT at h
  split at h
  · exact h.elim
  · rename_i c hb
    cases hn : Nat.ble as.length F.ntmps with
    | false => rw [hn] at h; exact h.elim
    | true =>
      rw [hn, cond_true] at h
      simp only [Nat.ble_eq] at hn
      refine calls_of_wp (hC.fn _ _ hF).1 hb ?_
      have hT : RelT E F.ntmps (argTm as 0) { tmps := vs ++ Array.replicate (F.ntmps - vs.size) undef, defers := [] } := by
        refine ⟨by simp; omega, rfl, fun t sv ht => ?_⟩
        rw [argTm_get, if_pos (Nat.zero_le _), Nat.sub_zero] at ht
        have hlt : t < as.length := (List.getElem?_eq_some_iff.1 ht).1
        refine ⟨by omega, ?_⟩
        have hvt : vs[t]? = some (vs[t]'(by omega)) := Array.getElem?_eq_getElem (by omega)
        have he : (vs ++ Array.replicate (F.ntmps - vs.size) undef).getD t undef = vs[t]'(by omega) := by
          rw [Array.getD_eq_getD_getElem?, Array.getElem?_append_left (by omega), hvt]
          rfl
        simp only [he]
        exact hr t sv _ ht hvt
      refine wp_mono (codeT_ok hC hce c (fun e' a' w' => (e' = .nrm ∨ e' = .ret) ∧ a'.defers = [] ∧ ∃ v, (results F a'.tmps).run C.P w' = .ok v w' ∧ ∃ E' r H', E.le E' ∧ RelS E' r v ∧ RelH fr w0 E' H' w' ∧ (k r H').Ok C K0 E'.q) _ _ H E _ w (hL c hb) h hH hT (fun E' a' w' e tm' H' hle hH' hT' hk => ?_)) ?_
      · have fin : (e = .nrm ∨ e = .ret) → (match resT C H' tm' F.results.toList with | some (us, ns) => needs ns (k (packE us) H') | none => Out.fail).Ok C K0 E'.q → (e = .nrm ∨ e = .ret) ∧ a'.defers = [] ∧ ∃ v, (results F a'.tmps).run C.P w' = .ok v w' ∧ ∃ E' r H', E.le E' ∧ RelS E' r v ∧ RelH fr w0 E' H' w' ∧ (k r H').Ok C K0 E'.q := fun he hk => by
          split at hk
          · rename_i us ns hus
            obtain ⟨hn1, hk⟩ := needs_ok hk
            obtain ⟨v, hv, hrun⟩ := results_ok hC hH' hT' hus hn1
            exact ⟨he, hT'.defers, v, hrun, E', _, H', hle, hv, hH', hk⟩
          · exact hk.elim
        cases e with
        | nrm => exact fin (.inl rfl) hk
        | ret => exact fin (.inr rfl) hk
        | ext j => exact hk.elim
      · intro e a' w' hq
        cases e with
        | normal => obtain ⟨_, hd, v, hrun, E', r, H', hle, hv, hH', hk⟩ := hq; exact ⟨hd, v, hrun, E', v, r, H', rfl, hle, hv, hH', hk⟩
        | ret => obtain ⟨_, hd, v, hrun, E', r, H', hle, hv, hH', hk⟩ := hq; exact ⟨hd, v, hrun, E', v, r, H', rfl, hle, hv, hH', hk⟩
        | exit j => rcases hq.1 with h | h <;> cases h
        | goto l => exact hq.elim
        | panic c => exact hq.elim
        | outgrown => exact hq.elim
/-- The machine is right. -/
theorem runT_ok (hC : C.Ok) (hT : C.Told) : ∀ n, CeOk C K0 fr w0 (runT C lf n)
  | 0 => fun f as H k E w vs h => h.elim
  | n + 1 => by
    intro f as H k E w vs h hH hl hr
    simp only [runT] at h
    split at h
    · split at h
      · rename_i F hF
        exact funT_ok hC (runT_ok hC hT n) hF (fun c hc => hT.loops f F c hF hc) h hH hl hr
      · exact h.elim
    · rename_i s l hs
      exact callL_ok hH hl hr (s :: l) (fun s' hs' => hT.sums f s' (by rw [hs]; exact hs')) h
end
end Go.Proofs.Ytipomcnbjlfekaa.Rs
