import Derived.Test.YtipomcnbjlfekaaGreatWi
/- Parts of the proof, merged by a program. -/
namespace Go.Proofs.YtipomcnbjlfekaaGreat.Rs
set_option maxRecDepth 100000
set_option linter.all false
open Go.RowKit
theorem f_gclient {a:Ar} (ha:AOk a) {l:List Se} (hl3:l.length≤100) (hS:∀s∈l,SeD a s) {p:List Le} (hp:PoolR p) {r3 r4:Rw} {name next drops part now addr tm:Int} {P:Tm'}
  (hc:∀s∈l,s.state=1→¬∃e∈p,e.cid=s.cid) (hk:Den a part P) (hl:a.length+65≤3000) :
  (∃a',fin trA 3003 [I name,I next,I drops,I addr,I tm,I part,I now] [qag a,qax l,qaI p,r3,r4]=some (0,[I (-1),B false],[qag a',qaI p,qax l])∧Ext a a' 65) ∨
  (∃(j:Nat) (hj:j < l.length),l[j].addr=addr∧l[j].state=2∧fin trA 3003 [I name,I next,I drops,I addr,I tm,I part,I now] [qag a,qax l,qaI p,r3,r4]=some (0,[I l[j].last,B true],[qag a,qaI p,qax (l.modify j fun s=>{ s with heard:=now })])) ∨
  ∃(j:Nat) (hj:j < l.length) (a':Ar) (said t app:Int),l[j].addr=addr∧l[j].state=1∧qeU 1 l[j].g.hand l[j].mode l[j].name l[j].g.said P=true ∧
   fin trA 3003 [I name,I next,I drops,I addr,I tm,I part,I now] [qag a,qax l,qaI p,r3,r4]=some (0,[I t,B true],[qag a',qaI (qan l[j].cid p).1,qax (l.modify j fun s=>opened s part said t app now (qan l[j].cid p).2 P)])∧Ext a a' 65∧(qan l[j].cid p).2≠0 ∧
   Den a' said (.pair l[j].g.said P)∧Den a' t (qav 75 [ackT l[j].g.hand (qan l[j].cid p).2 (.pair l[j].g.said P)])∧Den a' app (appT l[j].g.hand (.pair l[j].g.said P)):=by
 rcases qhm ha hl3 hS (p:=qaI p) (r3:=r3) (r4:=r4) (name:=name) (next:=next) (drops:=drops) (now:=now) (addr:=addr) (tm:=tm) (v:=0) (b:=false) hk hl l.length 0 (by omega) with h | ⟨j,hj,q1,q2,h⟩ | ⟨j,hj,q1,q2,q3,h⟩
 ·rw[show((0:Nat):Int)=0 from rfl] at h
  refine .inl ⟨a,qaa trA ?_,(Ext.refl ha).le (by omega)⟩
  show o250.go _ _ _=_
  simp only[o250,qac,TT,Nat.reduceEqDiff,↓reduceIte,h]
 ·rw[show((0:Nat):Int)=0 from rfl] at h
  refine .inr (.inl ⟨j,hj,q1,q2,qaa trA ?_⟩)
  show o250.go _ _ _=_
  simp only[o250,qac,TT,Nat.reduceEqDiff,↓reduceIte,h]
 ·rw[show((0:Nat):Int)=0 from rfl] at h
  rcases f_gopen (r3:=r3) (r4:=r4) (name:=name) (next:=next) (drops:=drops) (now:=now) ha j hj (hS _ (List.getElem_mem hj)) hp (hc _ (List.getElem_mem hj) q2) hk q3 hl with ⟨a',e,x,_⟩ | ⟨a',said,t,app,e,x,h0,d1,d2,d3⟩
  ·have h':=h _ _ _ _ _ e
   refine .inl ⟨a',qaa trA ?_,x⟩
   show o250.go _ _ _=_
   simp only[o250,qac,TT,Nat.reduceEqDiff,↓reduceIte,h']
  ·have h':=h _ _ _ _ _ e
   refine .inr (.inr ⟨j,hj,a',said,t,app,q1,q2,q3,qaa trA ?_,x,h0,d1,d2,d3⟩)
   show o250.go _ _ _=_
   simp only[o250,qac,TT,Nat.reduceEqDiff,↓reduceIte,h']
structure Way where
 net:Int
 bits:Int
 to:Int
def Way.v (r:Way):List Value:=[I r.net,I r.bits,I r.to]
def qaR (l:List Way):Rw:=l.map Way.v
theorem qar (l:List Way):(qaR l).length=l.length:=List.length_map ..
theorem qaD (l:List Way) (i:Nat) (h:i < l.length):(qaR l).getD i []=(l[i]).v:=by
 simp[qaR,List.getD_eq_getElem?_getD,List.getElem?_eq_getElem h]
theorem f_fits (r:Way) (dst:Int):∃b,fin trA 1082 [I r.net,I r.bits,I r.to,I dst] []=some (0,[B b],[]):=by
 cases h1:inB r.bits 0 8 with
 | false =>
  refine⟨false,qaa trA ?_⟩
  show o90.go _ _ _=_
  simp only[o90,TT,Nat.reduceEqDiff,↓reduceIte,f_in,h1]
 | true =>
  cases h2:inB dst 0 255 with
  | false =>
   refine⟨false,qaa trA ?_⟩
   show o90.go _ _ _=_
   simp only[o90,TT,Nat.reduceEqDiff,↓reduceIte,f_in,h1,h2]
  | true =>
   cases h3:inB r.net 0 255 with
   | false =>
    refine⟨false,qaa trA ?_⟩
    show o90.go _ _ _=_
    simp only[o90,TT,Nat.reduceEqDiff,↓reduceIte,f_in,h1,h2,h3]
   | true =>
    have b1:=h1
    simp only[inB,Bool.and_eq_true,decide_eq_true_eq] at b1
    have w:wr (8 - r.bits)=((8 - r.bits).toNat:Int):=by rw[qaj (by omega) (by omega)];omega
    have c:=qfU (n:=(8 - r.bits).toNat) (by omega)
    have hleq:∀n:Nat,qbm .leq (.int .i64 0) (.int .u64 (n:Int))=.bool true:=fun n=>by
     show Value.bool (decide ((0:Int)≤(n:Int)))=_
     rw[decide_eq_true (by omega)]
    refine⟨decide (Int.fdiv dst (2 ^ (min (((8 - r.bits).toNat:Nat):Int).toNat 64))=Int.fdiv r.net (2 ^ (min (((8 - r.bits).toNat:Nat):Int).toNat 64))),qaa trA ?_⟩
    show o90.go _ _ _=_
    simp only[o90,TT,Nat.reduceEqDiff,↓reduceIte,f_in,h1,h2,h3,w,c,hleq]
    rfl
theorem qfl {l:List Way} (hl:l.length≤100) (dst x y z:Int) (b:Bool):∀(n i:Nat) (at_:Int),i+n=l.length→(at_=-1∨∃j:Nat,at_=j∧j < l.length) →
  ∃r:Int,fin trA 290 [I dst,I x,I y,I z,B b,I at_,I i] [qaR l]=some (0,[I r],[])∧(r=-1∨∃j:Nat,r=j∧j < l.length)
 | 0,i,at_,hi,ht=>by
  refine⟨at_,qaa trA ?_,ht⟩
  show o24_0.go _ _ _=_
  have g:¬(i:Int) < (l.length:Int):=by omega
  simp only[o24_0,TT,Nat.reduceEqDiff,↓reduceIte,qar,g]
 | n+1,i,at_,hi,ht=>by
  have hlt:i < l.length:=by omega
  have g:(i:Int) < (l.length:Int):=by omega
  have g0:(0:Int)≤(i:Int):=by omega
  have w:=qaB (i:=i) (n:=100) (by omega) (by omega)
  obtain⟨f,e1⟩:=f_fits l[i] dst
  obtain⟨r1,e2,h2⟩:=qfl hl dst x y z b n (i+1) at_ (by omega) ht
  obtain⟨r2,e3,h3⟩:=qfl hl dst x y z b n (i+1) (i:Int) (by omega) (.inr ⟨i,rfl,hlt⟩)
  cases f with
  | false =>
   refine⟨r1,qaa trA ?_,h2⟩
   show o24_0.go _ _ _=_
   simp only[o24_0,TT,Nat.reduceEqDiff,↓reduceIte,qar,Int.toNat_natCast,qaD l i hlt,Way.v,g,g0,e1,w,e2]
  | true =>
   rcases ht with rfl | ⟨j,rfl,hj⟩
   ·refine⟨r2,qaa trA ?_,h3⟩
    show o24_0.go _ _ _=_
    simp only[o24_0,TT,Nat.reduceEqDiff,↓reduceIte,qar,Int.toNat_natCast,qaD l i hlt,Way.v,g,g0,e1,w,e3,show(-1:Int) < 0 by omega]
   ·have n1:¬(j:Int) < 0:=by omega
    have n2:(0:Int)≤(j:Int):=by omega
    have n3:(j:Int) < (l.length:Int):=by omega
    by_cases h4:l[j].bits < l[i].bits
    ·refine⟨r2,qaa trA ?_,h3⟩
     show o24_0.go _ _ _=_
     simp only[o24_0,TT,Nat.reduceEqDiff,↓reduceIte,qar,Int.toNat_natCast,qaD l i hlt,qaD l j hj,Way.v,g,g0,e1,w,e3,n1,n2,n3,h4]
    ·refine⟨r1,qaa trA ?_,h2⟩
     show o24_0.go _ _ _=_
     simp only[o24_0,TT,Nat.reduceEqDiff,↓reduceIte,qar,Int.toNat_natCast,qaD l i hlt,qaD l j hj,Way.v,g,g0,e1,w,e2,n1,n2,n3,h4]
theorem f_routeOf {l:List Way} (hl:l.length≤100) (dst:Int):∃x y z ok,fin trA 291 [I dst] [qaR l]=some (0,[I x,I y,I z,B ok],[]):=by
 obtain⟨r,e,h⟩:=qfl hl dst 0 0 0 false l.length 0 (-1) (by omega) (.inl rfl)
 rw[show((0:Nat):Int)=0 from rfl] at e
 rcases h with rfl | ⟨j,rfl,hj⟩
 ·refine⟨0,0,0,false,qaa trA ?_⟩
  show o24.go _ _ _=_
  simp only[o24,TT,Nat.reduceEqDiff,↓reduceIte,e,show(-1:Int) < 0 by omega]
 ·have n1:¬(j:Int) < 0:=by omega
  have n2:(0:Int)≤(j:Int):=by omega
  have n3:(j:Int) < (l.length:Int):=by omega
  refine⟨l[j].net,l[j].bits,l[j].to,true,qaa trA ?_⟩
  show o24.go _ _ _=_
  simp only[o24,TT,Nat.reduceEqDiff,↓reduceIte,e,qar,Int.toNat_natCast,qaD l j hj,Way.v,n1,n2,n3]
structure Ou where
 route:Int
 src:Int
 dst:Int
 hops:Int
 val:Int
def Ou.v (o:Ou):List Value:=[I o.route,I o.src,I o.dst,I o.hops,I o.val]
def qbb (l:List Ou):Rw:=l.map Ou.v
theorem qaK (l:List Ou):(qbb l).length=l.length:=List.length_map ..
theorem encS_get_mod (l:List Se) (j:Nat) (h:j < l.length) (f:Se→Se):(qax (l.modify j f)).getD j []=(f l[j]).v:=by
 rw[qaq _ j (by simpa using h),List.getElem_modify_eq]
theorem f_forward {a:Ar} (ha:AOk a) {l:List Se} (hl3:l.length≤100) (hS:∀s∈l,SeD a s) {p:List Le} (hp:p.length≤100) {w:List Way} (hw:w.length≤100) {o:List Ou} (ho:o.length≤50) (name next drops cid src dst hops val:Int) (hl:a.length+60≤3000) :
  (fin trA 3170 [I name,I next,I drops,I cid,I src,I dst,I hops,I val] [qag a,qax l,qaI p,qaR w,qbb o]=some (0,[I (wr (drops+1))],[qag a,qbb o,qax l,[]])) ∨
  (qaX src dst hops val=true∧1 < hops∧src=qaP cid p∧src≠0∧(
   (∃(j:Nat) (hj:j < l.length) (a':Ar) (t:Int),l[j].state=2∧l[j].cid=qbR dst p∧fin trA 3170 [I name,I next,I drops,I cid,I src,I dst,I hops,I val] [qag a,qax l,qaI p,qaR w,qbb o] =
    some (0,[I drops],[qag a',qbb o,qax (l.modify j fun s=>{ s with ch:={ s.ch with seq:=s.ch.seq+1 } }),[[I l[j].addr,I t]]])∧Ext a a' 60∧Den a' t (qav 76 [.atom l[j].cid,sayT l[j].ch l[j].g.app (qer src dst (hops - 1) val)])) ∨
   ∃to,o.length < 50∧fin trA 3170 [I name,I next,I drops,I cid,I src,I dst,I hops,I val] [qag a,qax l,qaI p,qaR w,qbb o]=some (0,[I drops],[qag a,qbb (o++[⟨to,src,dst,hops - 1,val⟩]),qax l,[]]))):=by
 have e1:=f_placeOf hp cid
 by_cases c1:qaP cid p=0
 ·refine .inl (qaa trA ?_)
  show o264.go _ _ _=_
  simp only[o264,TT,Nat.reduceEqDiff,↓reduceIte,e1,c1]
 by_cases c2':¬src=qaP cid p
 ·refine .inl (qaa trA ?_)
  show o264.go _ _ _=_
  simp only[o264,TT,Nat.reduceEqDiff,↓reduceIte,e1,c1,c2',ne_eq,not_false_eq_true]
 have c2:=Classical.not_not.1 c2'
 by_cases c3:hops≤1
 ·refine .inl (qaa trA ?_)
  show o264.go _ _ _=_
  simp only[o264,TT,Nat.reduceEqDiff,↓reduceIte,e1,c1,c2,c3,ne_eq,not_true_eq_false]
 have e2:=f_packetOk src dst hops val
 cases c4:qaX src dst hops val with
 | false =>
  rw[c4,c2] at e2
  refine .inl (qaa trA ?_)
  show o264.go _ _ _=_
  simp only[o264,TT,Nat.reduceEqDiff,↓reduceIte,e1,c1,c2,c3,e2,ne_eq,not_true_eq_false]
 | true =>
  rw[c4] at e2
  have b:=c4
  simp only[qaX,inB,Bool.and_eq_true,decide_eq_true_eq] at b
  have wh:wr (hops - 1)=hops - 1:=qaj (by omega) (by omega)
  have e3:=f_cidOf hp dst
  have e4:=qdD hl3 (qbR dst p) name next drops (qaI p) (qaR w) (qbb o)
  obtain⟨rx,ry,rz,rk,e5⟩:=f_routeOf hw dst
  have route:(∀j:Nat,qbU l (qbR dst p)=some j→∃h:j < l.length,l[j].state≠2)→(fin trA 3170 [I name,I next,I drops,I cid,I src,I dst,I hops,I val] [qag a,qax l,qaI p,qaR w,qbb o]=some (0,[I (wr (drops+1))],[qag a,qbb o,qax l,[]]))∨∃to,o.length < 50∧fin trA 3170 [I name,I next,I drops,I cid,I src,I dst,I hops,I val] [qag a,qax l,qaI p,qaR w,qbb o]=some (0,[I drops],[qag a,qbb (o++[⟨to,src,dst,hops - 1,val⟩]),qax l,[]]):=fun hno=>by
   have q:qbb o++[[Value.int .i64 rz,Value.int .i64 src,Value.int .i64 dst,Value.int .i64 (hops - 1),Value.int .i64 val]]=qbb (o++[⟨rz,src,dst,hops - 1,val⟩]):=by simp[qbb,Ou.v]
   have g9:((o++[(⟨rz,src,dst,hops - 1,val⟩:Ou)]).length:Int)≤100000000:=by simp;omega
   subst c2
   cases hs:qbU l (qbR dst p) with
   | none =>
    rw[hs] at e4
    have n1:¬(-1:Int) ≥ 0:=by omega
    cases rk with
    | false =>
     refine .inl (qaa trA ?_)
     show o264.go _ _ _=_
     simp only[o264,qaE,qaG,TT,Nat.reduceEqDiff,↓reduceIte,e1,c1,c3,e2,e3,e4,e5,ixI,n1,ne_eq,not_true_eq_false]
    | true =>
     by_cases h50:(50:Int)≤(o.length:Int)
     ·refine .inl (qaa trA ?_)
      show o264.go _ _ _=_
      simp only[o264,qaE,qaG,TT,Nat.reduceEqDiff,↓reduceIte,e1,c1,c3,e2,e3,e4,e5,ixI,n1,ne_eq,not_true_eq_false,qaK,ge_iff_le,h50]
     ·refine .inr ⟨rz,by omega,qaa trA ?_⟩
      show o264.go _ _ _=_
      simp only[o264,qaE,qaG,TT,Nat.reduceEqDiff,↓reduceIte,e1,c1,c3,e2,e3,e4,e5,ixI,n1,ne_eq,not_true_eq_false,ge_iff_le,wh,q,qaK,h50,g9]
   | some j =>
    rw[hs] at e4
    obtain⟨hj,hst⟩:=hno j hs
    have n1:(j:Int) ≥ 0:=by omega
    have n2:(0:Int)≤(j:Int):=by omega
    have n3:(j:Int) < (l.length:Int):=by omega
    cases rk with
    | false =>
     refine .inl (qaa trA ?_)
     show o264.go _ _ _=_
     simp only[o264,qaE,qaG,TT,Nat.reduceEqDiff,↓reduceIte,e1,c1,c3,e2,e3,e4,e5,ixI,n1,n2,n3,qad,Int.toNat_natCast,qaq l j hj,Se.v,hst,ne_eq,not_true_eq_false]
    | true =>
     by_cases h50:(50:Int)≤(o.length:Int)
     ·refine .inl (qaa trA ?_)
      show o264.go _ _ _=_
      simp only[o264,qaE,qaG,TT,Nat.reduceEqDiff,↓reduceIte,e1,c1,c3,e2,e3,e4,e5,ixI,n1,n2,n3,qad,Int.toNat_natCast,qaq l j hj,Se.v,hst,ne_eq,not_true_eq_false,qaK,ge_iff_le,h50]
     ·refine .inr ⟨rz,by omega,qaa trA ?_⟩
      show o264.go _ _ _=_
      simp only[o264,qaE,qaG,TT,Nat.reduceEqDiff,↓reduceIte,e1,c1,c3,e2,e3,e4,e5,ixI,n1,n2,n3,qad,Int.toNat_natCast,qaq l j hj,Se.v,hst,ne_eq,not_true_eq_false,ge_iff_le,wh,q,qaK,h50,g9]
  cases hs:qbU l (qbR dst p) with
  | none =>
   rcases route (fun j hj=>by rw[hs] at hj;cases hj) with h | h
   ·exact .inl h
   ·exact .inr ⟨rfl,by omega,c2,by rw[c2];exact c1,.inr h⟩
  | some j =>
   obtain⟨hj,hcid⟩:=qcD hs
   by_cases hst':¬l[j].state=2
   ·rcases route (fun j' hj'=>by rw[hs] at hj';cases hj';exact⟨hj,hst'⟩) with h | h
    ·exact .inl h
    ·exact .inr ⟨rfl,by omega,c2,by rw[c2];exact c1,.inr h⟩
   have hst:=Classical.not_not.1 hst'
   have hsd:=hS l[j] (List.getElem_mem hj)
   rw[hs] at e4
   have n1:(j:Int) ≥ 0:=by omega
   have n2:(0:Int)≤(j:Int):=by omega
   have n3:(j:Int) < (l.length:Int):=by omega
   obtain⟨a1,k1,e6,x1,d1⟩:=qat (n:=qbR dst p) ha (by have:=hsd.cid;omega) (by have:=hsd.cid;omega) (by omega)
   have l1:=x1.len
   obtain⟨a2,k2,e7,x2,d2⟩:=f_packet (s:=src) (d:=dst) (h:=hops - 1) (v:=val) x1.ok (by simp only[qaX,inB,Bool.and_eq_true,decide_eq_true_eq];omega) (by omega)
   have l2:=x2.len
   obtain⟨a3,k3,e8,x3,d3⟩:=f_say x2.ok ((hsd.ch hst).mono (x1.pre.trans x2.pre)) d2 (by omega)
   have l3:=x3.len
   obtain⟨a4,k4,e9,x4,d4⟩:=qbt (n:=76) x3.ok (d1.mono (x2.pre.trans x3.pre)) d3 (by omega) (by omega) (by omega)
   have n4:k3 ≥ 0:=d3.nonneg
   have n5:k4 ≥ 0:=d4.nonneg
   simp only[Ch.v,List.cons_append,List.nil_append] at e8
   refine .inr ⟨rfl,by omega,c2,by rw[c2];exact c1,.inl ⟨j,hj,a4,k4,hst,hcid,qaa trA ?_,(x1.trans (x2.trans (x3.trans x4))).le (by omega),by rw[hcid];exact d4⟩⟩
   have sc:=set_ch l j { l[j].ch with seq:=l[j].ch.seq+1 }
   simp only at sc
   have lm:∀(f:Se→Se),(qax (l.modify j f)).length=l.length:=fun f=>by rw[qad,List.length_modify]
   subst c2
   show o264.go _ _ _=_
   simp only[o264,qaE,qaG,TT,Nat.reduceEqDiff,↓reduceIte,e1,c1,c3,e2,e3,e4,ixI,n1,n2,n3,qad,Int.toNat_natCast,qaq l j hj,Se.v,hst,wh,e6,e7,e8,e9,n4,n5,sc,encS_get_mod l j hj,lm,same_self,ne_eq,not_true_eq_false]
   refine congrArg (fun r=>some ((0:Nat),([I drops]:List Value),[qag a4,qbb o,r,[[I l[j].addr,I k4]]])) ?_
   refine ?_
   have:∀(l':List Se) (i:Nat) (h:i < l'.length),qax (l'.modify i fun s=>{ s with ch:={ l'[i].ch with seq:=l'[i].ch.seq+1 } })=qax (l'.modify i fun s=>{ s with ch:={ s.ch with seq:=s.ch.seq+1 } }):=by
    intro l'
    induction l' with
    | nil=>intro i h;simp at h
    | cons x l' ih =>
     intro i h
     cases i with
     | zero=>simp[qax]
     | succ i =>
      have:=ih i (by simpa using h)
      simp only[qax] at this ⊢
      simpa using this
   exact this l j hj
inductive Fwd (a:Ar) (l:List Se) (p:List Le) (o:List Ou) (cid:Int) (k:Pk):Ar→List Se→List Ou→Rw→Prop where
 | drop:Fwd a l p o cid k a l o []
 | to {j:Nat} (hj:j < l.length) {a':Ar} {t:Int} (ok:qaX k.src k.dst k.hops k.val=true) (hops:1 < k.hops) (src:k.src=qaP cid p∧k.src≠0) (st:l[j].state=2) (c:l[j].cid=qbR k.dst p) (x:Ext a a' 60)
   (d:Den a' t (qav 76 [.atom l[j].cid,sayT l[j].ch l[j].g.app (qer k.src k.dst (k.hops - 1) k.val)])) :
   Fwd a l p o cid k a' (l.modify j fun s=>{ s with ch:={ s.ch with seq:=s.ch.seq+1 } }) o [[I l[j].addr,I t]]
 | out (to:Int) (ok:qaX k.src k.dst k.hops k.val=true) (hops:1 < k.hops) (src:k.src=qaP cid p∧k.src≠0) (few:o.length < 50):Fwd a l p o cid k a l (o++[⟨to,k.src,k.dst,k.hops - 1,k.val⟩]) []
theorem f_fwd {a:Ar} (ha:AOk a) {l:List Se} (hl3:l.length≤100) (hS:∀s∈l,SeD a s) {p:List Le} (hp:p.length≤100) {w:List Way} (hw:w.length≤100) {o:List Ou} (ho:o.length≤50) (name next drops cid:Int) (k:Pk) (hl:a.length+60≤3000) :
  ∃d a' l' o' m,fin trA 3170 [I name,I next,I drops,I cid,I k.src,I k.dst,I k.hops,I k.val] [qag a,qax l,qaI p,qaR w,qbb o]=some (0,[I d],[qag a',qbb o',qax l',m])∧Fwd a l p o cid k a' l' o' m:=by
 rcases f_forward ha hl3 hS hp hw ho name next drops cid k.src k.dst k.hops k.val hl with h | ⟨c1,c2,c3,c4,⟨j,hj,a',t,s,c,h,x,d⟩ | ⟨to,few,h⟩⟩
 ·exact⟨_,_,_,_,_,h,.drop⟩
 ·exact⟨_,_,_,_,_,h,.to hj c1 c2 ⟨c3,c4⟩ s c x d⟩
 ·exact⟨_,_,_,_,_,h,.out to c1 c2 ⟨c3,c4⟩ few⟩
def qcr (s:Se) (c:Ch) (now addr:Int) (SN SL:Nat→Prop):Se:={ s with ch:=c,heard:=now,addr:=addr,g:={ s.g with SN:=SN,SL:=SL } }
theorem qaW {α:Type} {P:α→Prop} {f:α→α} {l:List α} {i:Nat} (h:∀x∈l,P x) (hf:∀h:i < l.length,P (f l[i])):∀x∈l.modify i f,P x:=fun x hx=>by
 rcases qey hx with h' | ⟨h1,rfl⟩
 ·exact h x h'
 ·exact hf h1
theorem SeD.heard {a:Ar} {s:Se} (h:SeD a s) (h2:s.state=2) {e n:Nat} {c':Ch} {SN' SL':Nat→Prop} (hr:Heard s.ch s.g.SN s.g.SL e n c' SN' SL') (he:e≤8) {addr now:Int} (had:0≤addr∧addr≤49):SeD a (qcr s c' now addr SN' SL') :=
 { h with addr:=had,ch:=fun _=>hr.cr (h.ch h2) he,side:=fun _=>by show c'.side=2;rw[hr.side];exact h.side h2 }
theorem f_grecord {a:Ar} (ha:AOk a) {l:List Se} (hl3:l.length≤100) (hS:∀s∈l,SeD a s) {p:List Le} (hp:p.length≤100) {w:List Way} (hw:w.length≤100) {o:List Ou} (ho:o.length≤50) {name next drops addr tm x y z now:Int} {N R:Tm'} (had:0≤addr∧addr≤49) (hy:Den a y N) (hz:Den a z R) (hl:a.length+60≤3000) :
  (fin trA 3014 [I name,I next,I drops,I addr,I tm,I 1,I 2,I now] [qag a,qax l,qaI p,qaR w,qbb o,[[I x],[I y],[I z]]]=some (0,[I drops,I (-1),B false],[qag a,qbb o,qax l,[]])) ∨
  ∃(j:Nat) (hj:j < l.length) (e s:Nat) (u:Tm') (c':Ch) (SN' SL':Nat→Prop) (body ad d:Int) (a':Ar) (l':List Se) (o':List Ou) (m:Rw),
   l[j].state=2∧l[j].cid=N.num.1∧qdq R=some ((e:Int),(s:Int))∧(e≤8∧s≤9999)∧qbw ((l[j].g.app.turn e).key (3 - l[j].ch.side)) R=some u∧¬Held l[j].ch l[j].g.SN l[j].g.SL e s∧Heard l[j].ch l[j].g.SN l[j].g.SL e s c' SN' SL'∧Den a body u∧(ad=addr∨ad=l[j].addr) ∧
   fin trA 3014 [I name,I next,I drops,I addr,I tm,I 1,I 2,I now] [qag a,qax l,qaI p,qaR w,qbb o,[[I x],[I y],[I z]]]=some (0,[I d,I body,B true],[qag a',qbb o',qax l',m]) ∧
   ((qdl u=none∧a'=a∧l'=l.modify j (fun s=>qcr s c' now ad SN' SL')∧o'=o∧m=[])∨∃k,qdl u=some k∧qaX k.src k.dst k.hops k.val=true∧Fwd a (l.modify j fun s=>qcr s c' now ad SN' SL') p o N.num.1 k a' l' o' m):=by
 have v0:wr (1+0)=1:=by rw[qaj (by omega) (by omega)];rfl
 have v1:wr (1+1)=2:=by rw[qaj (by omega) (by omega)];rfl
 have e1:=qes ha hy
 have e2:=qdD hl3 N.num.1 name next drops (qaI p) (qaR w) (qbb o)
 cases hs:qbU l N.num.1 with
 | none =>
  rw[hs] at e2
  refine .inl (qaa trA ?_)
  show o251.go _ _ _=_
  simp only[o251,qaG,TT,Nat.reduceEqDiff,↓reduceIte,TN,Nat.reduceAdd,Int.reduceLT,Int.reduceLE,Int.reduceToNat,Int.reduceToNat,v0,e1,e2,ixI,show(-1:Int) < 0 by omega]
 | some j =>
  obtain⟨hj,hcid⟩:=qcD hs
  rw[hs] at e2
  have n1:¬(j:Int) < 0:=by omega
  have n2:(0:Int)≤(j:Int):=by omega
  have n3:(j:Int) < (l.length:Int):=by omega
  have hsd:=hS l[j] (List.getElem_mem hj)
  by_cases hst':¬l[j].state=2
  ·refine .inl (qaa trA ?_)
   show o251.go _ _ _=_
   simp only[o251,qaG,TT,Nat.reduceEqDiff,↓reduceIte,TN,Nat.reduceAdd,Int.reduceLT,Int.reduceLE,Int.reduceToNat,Int.reduceToNat,v0,e1,e2,ixI,n1,n2,n3,qad,Int.toNat_natCast,qaq l j hj,Se.v,hst',ne_eq,not_false_eq_true]
  have hst:=Classical.not_not.1 hst'
  obtain⟨b,e3⟩:=f_newer ha l[j].ch hz
  simp only[Ch.v,List.cons_append,List.nil_append] at e3
  rcases (f_hear ha (hsd.ch hst) hz (by omega)).symm with ⟨code,e4,hcode⟩ | ⟨e,s,u,c',SN',SL',body,q1,q2,q3,q4,q5,q6,e4⟩
  ·simp only[Ch.v,List.cons_append,List.nil_append] at e4
   refine .inl (qaa trA ?_)
   show o251.go _ _ _=_
   simp only[o251,qaG,TT,Nat.reduceEqDiff,↓reduceIte,TN,Nat.reduceAdd,Int.reduceLT,Int.reduceLE,Int.reduceToNat,Int.reduceToNat,v0,v1,e1,e2,e3,e4,ixI,n1,n2,n3,qad,Int.toNat_natCast,qaq l j hj,Se.v,hst,hcode,ne_eq,not_true_eq_false,not_false_eq_true]
  have lm:∀(l':List Se) (f:Se→Se),(qax (l'.modify j f)).length=l'.length:=fun l' f=>by rw[qad,List.length_modify]
  simp only[Ch.v,List.cons_append,List.nil_append] at e4
  have hpk:=f_packetIn ha q6
  have mv1:∀ad:Int,(l.modify j fun x=>{ x with ch:=c',heard:=now,addr:=ad })=(l.modify j fun x=>{ x with ch:=c',heard:=now,addr:=ad }):=fun _=>rfl
  have fin1:∀ad,(ad=addr∨ad=l[j].addr)→∀s∈l.modify j (fun s=>qcr s c' now ad SN' SL'),SeD a s:=fun ad had'=>qaW hS fun _=>hsd.heard hst q5 q2.1 (by rcases had' with rfl | rfl;exact had;exact hsd.addr)
  have E1:qax (l.modify j fun s=>qcr s c' now addr SN' SL')=qax (l.modify j fun x=>{ x with ch:=c',heard:=now,addr:=addr }):=mod_v (by intro s;rfl) l j
  have E2:qax (l.modify j fun s=>qcr s c' now l[j].addr SN' SL')=qax (l.modify j fun x=>{ x with ch:=c',heard:=now }):=by
   have:∀(l':List Se) (i:Nat) (h:i < l'.length),qax (l'.modify i fun s=>qcr s c' now l'[i].addr SN' SL')=qax (l'.modify i fun x=>{ x with ch:=c',heard:=now }):=by
    intro l'
    induction l' with
    | nil=>intro i h;simp at h
    | cons x l' ih =>
     intro i h
     cases i with
     | zero=>simp[qax];rfl
     | succ i =>
      have:=ih i (by simpa using h)
      simp only[qax] at this ⊢
      simpa using this
   exact this l j hj
  cases hk:qdl u with
  | none =>
   have e5:=hpk.2 hk
   cases b with
   | true =>
    refine .inr ⟨j,hj,e,s,u,c',SN',SL',body,addr,wr (drops+1),a,_,o,[],hst,hcid,q1,q2,q3,q4,q5,q6,.inl rfl,qaa trA ?_,.inl ⟨hk,rfl,rfl,rfl,rfl⟩⟩
    rw[E1]
    show o251.go _ _ _=_
    simp only[o251,qaG,TT,Nat.reduceEqDiff,↓reduceIte,TN,Nat.reduceAdd,Int.reduceLT,Int.reduceLE,Int.reduceToNat,Int.reduceToNat,v0,v1,e1,e2,e3,e4,e5,ixI,n1,n2,n3,qad,Int.toNat_natCast,qaq l j hj,Se.v,hst,set_ch,set_heard,set_addr,mod_mod,lm,ne_eq,not_true_eq_false]
   | false =>
    refine .inr ⟨j,hj,e,s,u,c',SN',SL',body,l[j].addr,wr (drops+1),a,_,o,[],hst,hcid,q1,q2,q3,q4,q5,q6,.inr rfl,qaa trA ?_,.inl ⟨hk,rfl,rfl,rfl,rfl⟩⟩
    rw[E2]
    show o251.go _ _ _=_
    simp only[o251,qaG,TT,Nat.reduceEqDiff,↓reduceIte,TN,Nat.reduceAdd,Int.reduceLT,Int.reduceLE,Int.reduceToNat,Int.reduceToNat,v0,v1,e1,e2,e3,e4,e5,ixI,n1,n2,n3,qad,Int.toNat_natCast,qaq l j hj,Se.v,hst,set_ch,set_heard,set_addr,mod_mod,lm,ne_eq,not_true_eq_false]
  | some k =>
   obtain⟨e5,hok⟩:=hpk.1 k hk
   cases b with
   | true =>
    obtain⟨d,a',l',o',m,e6,hf⟩:=f_fwd ha (by rw[List.length_modify];exact hl3) (fin1 addr (.inl rfl)) hp hw ho name next drops N.num.1 k hl
    rw[E1] at e6
    refine .inr ⟨j,hj,e,s,u,c',SN',SL',body,addr,d,a',l',o',m,hst,hcid,q1,q2,q3,q4,q5,q6,.inl rfl,qaa trA ?_,.inr ⟨k,hk,hok,hf⟩⟩
    show o251.go _ _ _=_
    simp only[o251,qaG,TT,Nat.reduceEqDiff,↓reduceIte,TN,Nat.reduceAdd,Int.reduceLT,Int.reduceLE,Int.reduceToNat,Int.reduceToNat,v0,v1,e1,e2,e3,e4,e5,e6,ixI,n1,n2,n3,qad,Int.toNat_natCast,qaq l j hj,Se.v,hst,set_ch,set_heard,set_addr,mod_mod,lm,ne_eq,not_true_eq_false]
   | false =>
    obtain⟨d,a',l',o',m,e6,hf⟩:=f_fwd ha (by rw[List.length_modify];exact hl3) (fin1 l[j].addr (.inr rfl)) hp hw ho name next drops N.num.1 k hl
    rw[E2] at e6
    refine .inr ⟨j,hj,e,s,u,c',SN',SL',body,l[j].addr,d,a',l',o',m,hst,hcid,q1,q2,q3,q4,q5,q6,.inr rfl,qaa trA ?_,.inr ⟨k,hk,hok,hf⟩⟩
    show o251.go _ _ _=_
    simp only[o251,qaG,TT,Nat.reduceEqDiff,↓reduceIte,TN,Nat.reduceAdd,Int.reduceLT,Int.reduceLE,Int.reduceToNat,Int.reduceToNat,v0,v1,e1,e2,e3,e4,e5,e6,ixI,n1,n2,n3,qad,Int.toNat_natCast,qaq l j hj,Se.v,hst,set_ch,set_heard,set_addr,mod_mod,lm,ne_eq,not_true_eq_false]
structure Gt where
 name:Int
 next:Int
 drops:Int
 l:List Se
 p:List Le
 w:List Way
 o:List Ou
structure GtD (a:Ar) (g:Gt):Prop where
 name:0≤g.name∧g.name≤9
 next:1≤g.next∧g.next≤9998
 few:g.l.length≤3
 sess:∀s∈g.l,SeD a s
 cids:g.l.Pairwise fun s t=>s.cid≠t.cid
 below:∀s∈g.l,s.cid < g.next
 pool:PoolR g.p
 opened:∀e∈g.p,∃s∈g.l,s.state=2∧s.cid=e.cid
 leased:∀s∈g.l,s.state=2→∃e∈g.p,e.cid=s.cid
 ways:g.w.length≤8
 outs:g.o.length≤50
theorem cid_inj {l:List Se} (h:l.Pairwise fun s t=>s.cid≠t.cid) {s t:Se} (hs:s∈l) (ht:t∈l) (e:s.cid=t.cid):s=t:=by
 induction l with
 | nil=>cases hs
 | cons x l ih =>
  rw[List.pairwise_cons] at h
  rcases List.mem_cons.1 hs with h1 | h1<;>rcases List.mem_cons.1 ht with h2 | h2
  ·rw[h1,h2]
  ·rw[h1] at e;exact absurd e (h.1 _ h2)
  ·rw[h2] at e;exact absurd e.symm (h.1 _ h1)
  ·exact ih h.2 h1 h2
theorem GtD.half {a:Ar} {g:Gt} (h:GtD a g):∀s∈g.l,s.state=1→¬∃e∈g.p,e.cid=s.cid:=fun s hs h1 ⟨e,he,hc⟩=>by
 obtain⟨t,ht,h2,h3⟩:=h.opened e he
 have:=cid_inj h.cids ht hs (h3.trans hc)
 subst this
 omega
inductive GH (a:Ar) (g:Gt) (addr:Int) (T:Tm') (draw now:Int):Ar→Gt→Rw→Int→Int→Prop where
 | none:GH a g addr T draw now a g [] (-1) 1
 | again {n:Int} {ps:List Tm'} (l:qaN T=some (n,ps)) (kind:n=71∨n=74) {j:Nat} (hj:j < g.l.length) (ad:g.l[j].addr=addr):GH a g addr T draw now a { g with l:=g.l.modify j fun s=>{ s with heard:=now } } [[I addr,I g.l[j].last]] (-1) 0
 | retry {Hl C:Tm'} {h:Hi} {a':Ar} {t:Int} (l:qaN T=some (71,[Hl,C])) (hi:qds Hl=some h) (no:C≠qdu 9000 addr Hl) (x:Ext a a' 65) (d:Den a' t (qav 72 [qdu 9000 addr Hl])):GH a g addr T draw now a' g [[I addr,I t]] (-1) 0
 | new {Hl C Y:Tm'} {h:Hi} {a':Ar} {hello said hand t:Int} (l:qaN T=some (71,[Hl,C])) (hi:qds Hl=some h) (pub:h.pub=.pub Y) (yes:C=qdu 9000 addr Hl) (few:g.l.length < 3) (x:Ext a a' 65) (d0:Den a hello Hl)
   (d1:Den a' said (.pair (bothG draw Hl) (qeQ g.name draw h.mode h.name Y Hl))) (d2:Den a' hand (handG g.name draw h.mode h.name Y Hl)) (d3:Den a' t (qav 73 [qfx draw,qeQ g.name draw h.mode h.name Y Hl])) :
   GH a g addr T draw now a' { g with next:=g.next+1,l:=g.l++[⟨g.next,addr,1,h.name,h.mode,hello,said,0,hand,t,Ch.zero,now,⟨Hl,.pair (bothG draw Hl) (qeQ g.name draw h.mode h.name Y Hl),handG g.name draw h.mode h.name Y Hl,qav 73 [qfx draw,qeQ g.name draw h.mode h.name Y Hl],Hl,Hl,fun _=>False,fun _=>False⟩⟩] } [[I addr,I t]] (-1) 0
 | opened {P:Tm'} {part said t app:Int} {a':Ar} {j:Nat} (l:qaN T=some (74,[P])) (hj:j < g.l.length) (ad:g.l[j].addr=addr) (st:g.l[j].state=1) (d0:Den a part P) (right:qeU 1 g.l[j].g.hand g.l[j].mode g.l[j].name g.l[j].g.said P=true) (x:Ext a a' 65) (free:(qan g.l[j].cid g.p).2≠0)
   (d1:Den a' said (.pair g.l[j].g.said P)) (d2:Den a' t (qav 75 [ackT g.l[j].g.hand (qan g.l[j].cid g.p).2 (.pair g.l[j].g.said P)])) (d3:Den a' app (appT g.l[j].g.hand (.pair g.l[j].g.said P))) :
   GH a g addr T draw now a' { g with l:=g.l.modify j fun s=>opened s part said t app now (qan g.l[j].cid g.p).2 P,p:=(qan g.l[j].cid g.p).1 } [[I addr,I t]] (-1) 0
 | record {N R u:Tm'} {j:Nat} (hj:j < g.l.length) {e s:Nat} {c':Ch} {SN' SL':Nat→Prop} {body ad d:Int} {a':Ar} {l':List Se} {o':List Ou} {m:Rw} (l:qaN T=some (76,[N,R])) (st:g.l[j].state=2) (c:g.l[j].cid=N.num.1) (hd:qdq R=some ((e:Int),(s:Int))) (le:e≤8∧s≤9999)
   (op:qbw ((g.l[j].g.app.turn e).key (3 - g.l[j].ch.side)) R=some u) (new:¬Held g.l[j].ch g.l[j].g.SN g.l[j].g.SL e s) (hr:Heard g.l[j].ch g.l[j].g.SN g.l[j].g.SL e s c' SN' SL') (db:Den a body u) (had:ad=addr∨ad=g.l[j].addr)
   (fw:(qdl u=Option.none∧a'=a∧l'=g.l.modify j (fun s=>qcr s c' now ad SN' SL')∧o'=g.o∧m=[])∨∃k,qdl u=some k∧qaX k.src k.dst k.hops k.val=true∧Fwd a (g.l.modify j fun s=>qcr s c' now ad SN' SL') g.p g.o N.num.1 k a' l' o' m) :
   GH a g addr T draw now a' { g with drops:=d,l:=l',o:=o' } m body 0
theorem f_gheard {a:Ar} (ha:AOk a) {g:Gt} (hg:GtD a g) {addr k draw now:Int} {T:Tm'} (hk:Den a k T) (had:0≤addr∧addr≤49) (hd:1000≤draw∧draw≤900000) (hl:a.length+65≤3000) :
  (∃a',fin trA 2954 [I g.name,I g.next,I g.drops,I addr,I k,I draw,I now] [qag a,qax g.l,qaI g.p,qaR g.w,qbb g.o]=some (0,[I g.next,I g.drops,I (-1),I 1],[qag a',qax g.l,qaI g.p,qbb g.o,[]])∧Ext a a' 65) ∨
  ∃a' g' m body,fin trA 2954 [I g.name,I g.next,I g.drops,I addr,I k,I draw,I now] [qag a,qax g.l,qaI g.p,qaR g.w,qbb g.o]=some (0,[I g'.next,I g'.drops,I body,I 0],[qag a',qax g'.l,qaI g'.p,qbb g'.o,m])∧GH a g addr T draw now a' g' m body 0:=by
 have v0:wr (1+0)=1:=by rw[qaj (by omega) (by omega)];rfl
 have x0:Ext a a 65:=(Ext.refl ha).le (by omega)
 have few:=hg.few
 have ways:=hg.ways
 rcases qbG ha hk with ⟨hT,e0⟩ | ⟨n,u,x,y,hn,hT,e0,d1⟩ | ⟨n,u,v,x,y,z,hn,hT,e0,d1,d2⟩
 ·refine .inl ⟨a,qaa trA ?_,x0⟩
  show o246.go _ _ _=_
  simp only[o246,qac,TT,Nat.reduceEqDiff,↓reduceIte,e0]
 ·rcases hn with rfl | rfl | rfl
  ·refine .inl ⟨a,qaa trA ?_,x0⟩
   show o246.go _ _ _=_
   simp only[o246,qac,TT,Nat.reduceEqDiff,↓reduceIte,e0,Int.reduceEq]
  ·rcases f_gclient ha (show g.l.length≤100 by omega) hg.sess hg.pool (r3:=qaR g.w) (r4:=qbb g.o) (name:=g.name) (next:=g.next) (drops:=g.drops) (now:=now) (addr:=addr) (tm:=k) hg.half d1 hl with ⟨a',e1,x1⟩ | ⟨j,hj,q1,q2,e1⟩ | ⟨j,hj,a',said,t,app,q1,q2,q3,e1,x1,h0,f1,f2,f3⟩
   ·refine .inl ⟨a',qaa trA ?_,x1⟩
    show o246.go _ _ _=_
    simp only[o246,qac,TT,Nat.reduceEqDiff,↓reduceIte,TN,Nat.reduceAdd,Int.reduceLT,Int.reduceLE,Int.reduceToNat,Int.reduceToNat,e0,v0,e1,Int.reduceEq]
   ·refine .inr ⟨a,_,_,-1,qaa trA ?_,.again hT (.inr rfl) hj q1⟩
    show o246.go _ _ _=_
    simp only[o246,qac,TT,Nat.reduceEqDiff,↓reduceIte,TN,Nat.reduceAdd,Int.reduceLT,Int.reduceLE,Int.reduceToNat,Int.reduceToNat,e0,v0,e1,Int.reduceEq]
   ·refine .inr ⟨a',_,_,-1,qaa trA ?_,.opened hT hj q1 q2 d1 q3 x1 h0 f1 f2 f3⟩
    show o246.go _ _ _=_
    simp only[o246,qac,TT,Nat.reduceEqDiff,↓reduceIte,TN,Nat.reduceAdd,Int.reduceLT,Int.reduceLE,Int.reduceToNat,Int.reduceToNat,e0,v0,e1,Int.reduceEq]
  ·refine .inl ⟨a,qaa trA ?_,x0⟩
   show o246.go _ _ _=_
   simp only[o246,qac,TT,Nat.reduceEqDiff,↓reduceIte,e0,Int.reduceEq]
 ·rcases hn with rfl | rfl | rfl
  ·rcases f_ghello ha (l:=g.l) (r2:=qaI g.p) (r3:=qaR g.w) (r4:=qbb g.o) (name:=g.name) (next:=g.next) (drops:=g.drops) (addr:=addr) (tm:=k) (x:=x) (draw:=draw) (now:=now) hg.name hg.next ⟨had.1,by omega⟩ d1 d2 hd hl (by omega) with ⟨a',e1,x1⟩ | ⟨j,hj,q1,q2,q3,e1⟩ | ⟨a',t,⟨h,hh⟩,q1,e1,x1,f1⟩ | ⟨h,Y,a',said,hand,t,hh,q1,q2,q3,e1,x1,f1,f2,f3⟩
   ·refine .inl ⟨a',qaa trA ?_,x1⟩
    show o246.go _ _ _=_
    simp only[o246,qac,TT,Nat.reduceEqDiff,↓reduceIte,TN,Nat.reduceAdd,Int.reduceLT,Int.reduceLE,Int.reduceToNat,Int.reduceToNat,e0,v0,e1,Int.reduceEq]
   ·refine .inr ⟨a,_,_,-1,qaa trA ?_,.again hT (.inl rfl) hj q1⟩
    show o246.go _ _ _=_
    simp only[o246,qac,TT,Nat.reduceEqDiff,↓reduceIte,TN,Nat.reduceAdd,Int.reduceLT,Int.reduceLE,Int.reduceToNat,Int.reduceToNat,e0,v0,e1,Int.reduceEq]
   ·refine .inr ⟨a',_,_,-1,qaa trA ?_,.retry hT hh q1 x1 f1⟩
    show o246.go _ _ _=_
    simp only[o246,qac,TT,Nat.reduceEqDiff,↓reduceIte,TN,Nat.reduceAdd,Int.reduceLT,Int.reduceLE,Int.reduceToNat,Int.reduceToNat,e0,v0,e1,Int.reduceEq]
   ·refine .inr ⟨a',_,_,-1,qaa trA ?_,.new hT hh q1 q2 q3 x1 d1 f1 f2 f3⟩
    show o246.go _ _ _=_
    simp only[o246,qac,TT,Nat.reduceEqDiff,↓reduceIte,TN,Nat.reduceAdd,Int.reduceLT,Int.reduceLE,Int.reduceToNat,Int.reduceToNat,e0,v0,e1,Int.reduceEq]
  ·refine .inl ⟨a,qaa trA ?_,x0⟩
   show o246.go _ _ _=_
   simp only[o246,qac,TT,Nat.reduceEqDiff,↓reduceIte,e0,Int.reduceEq]
  ·rcases f_grecord ha (l:=g.l) (by omega) hg.sess (p:=g.p) (by have:=hg.pool.few;omega) (w:=g.w) (by omega) hg.outs (name:=g.name) (next:=g.next) (drops:=g.drops) (addr:=addr) (tm:=k) (x:=x) (now:=now) had d1 d2 (by omega) with e1 | ⟨j,hj,e,s,w,c',SN',SL',body,ad,d,a',l',o',m,q1,q2,q3,q4,q5,q6,q7,q8,q9,e1,q10⟩
   ·refine .inl ⟨a,qaa trA ?_,x0⟩
    show o246.go _ _ _=_
    simp only[o246,qac,TT,Nat.reduceEqDiff,↓reduceIte,TN,Nat.reduceAdd,Int.reduceLT,Int.reduceLE,Int.reduceToNat,Int.reduceToNat,e0,v0,e1,Int.reduceEq]
   ·refine .inr ⟨a',_,_,body,qaa trA ?_,.record (d:=d) hj hT q1 q2 q3 q4 q5 q6 q7 q8 q9 q10⟩
    show o246.go _ _ _=_
    simp only[o246,qac,TT,Nat.reduceEqDiff,↓reduceIte,TN,Nat.reduceAdd,Int.reduceLT,Int.reduceLE,Int.reduceToNat,Int.reduceToNat,e0,v0,e1,Int.reduceEq]
theorem f_gHear {a:Ar} (ha:AOk a) {g:Gt} (hg:GtD a g) {addr k draw now:Int} {T:Tm'} (hk:Den a k T) (had:0≤addr∧addr≤49) (hd:1000≤draw∧draw≤900000) (hl:a.length+65≤3000) :
  ∃a' g' m body code,fin trA 2810 [I g.name,I g.next,I g.drops,I addr,I k,I draw,I now] [qag a,qax g.l,qaI g.p,qaR g.w,qbb g.o]=some (0,[I g'.next,I g'.drops,I body,I code],[qag a',qax g'.l,qaI g'.p,qbb g'.o,m])∧GH a g addr T draw now a' g' m body code:=by
 rcases f_gheard (now:=now) ha hg hk had hd hl with ⟨a',e1,x1⟩ | ⟨a',g',m,body,e1,h⟩
 ·have e2:=qgn x1.pre x1.ok
  refine⟨a,g,[],-1,1,qaa trA ?_,.none⟩
  show o234.go _ _ _=_
  simp only[o234,TT,Nat.reduceEqDiff,↓reduceIte,e1,encA_len,e2,ne_eq,show ¬(1:Int)=0 by omega,not_false_eq_true]
 ·refine⟨a',g',m,body,0,qaa trA ?_,h⟩
  show o234.go _ _ _=_
  simp only[o234,TT,Nat.reduceEqDiff,↓reduceIte,e1,ne_eq,not_true_eq_false]
theorem GH.ext {a a':Ar} {g g':Gt} {addr draw now body code:Int} {T:Tm'} {m:Rw} (ha:AOk a) (h:GH a g addr T draw now a' g' m body code):Ext a a' 65:=by
 have x0:Ext a a 65:=(Ext.refl ha).le (by omega)
 cases h with
 | none=>exact x0
 | again=>exact x0
 | retry _ _ _ x=>exact x
 | new _ _ _ _ _ x=>exact x
 | opened _ _ _ _ _ _ x=>exact x
 | record hj l st c hd le op new hr db had fw =>
  rcases fw with ⟨_,rfl,_⟩ | ⟨k,_,_,fw⟩
  ·exact x0
  ·cases fw with
   | drop=>exact x0
   | to _ _ _ _ _ _ x=>exact x.le (by omega)
   | out=>exact x0
theorem qcp {α β:Type} (f:α→β) {g:α→α} (h:∀x,f (g x)=f x):∀(l:List α) (i:Nat),(l.modify i g).map f=l.map f
 | [],_=>by simp
 | x :: l,0=>by simp[h]
 | x :: l,i+1=>by simp[qcp f h l i]
theorem cids_map {l l':List Se} (h:l.map Se.cid=l'.map Se.cid) (hp:l'.Pairwise fun s t=>s.cid≠t.cid):l.Pairwise fun s t=>s.cid≠t.cid:=by
 have:∀m:List Se,(m.Pairwise fun s t=>s.cid≠t.cid)↔(m.map Se.cid).Pairwise (·≠·):=fun m=>by rw[List.pairwise_map]
 rw[this] at hp ⊢
 rw[h];exact hp
theorem GtD.keep {a a':Ar} {g:Gt} (hg:GtD a g) {l':List Se} {o':List Ou} {d:Int} (hs:∀s∈l',SeD a' s) (hl:l'.length=g.l.length) (hm:l'.map Se.cid=g.l.map Se.cid) (hst:l'.map (fun s=>(s.cid,s.state))=g.l.map fun s=>(s.cid,s.state)) (ho:o'.length≤50):GtD a' { g with drops:=d,l:=l',o:=o' } where
 name:=hg.name
 next:=hg.next
 few:=by show l'.length≤3;rw[hl];exact hg.few
 sess:=hs
 cids:=cids_map hm hg.cids
 below:=fun s hs'=>by
  have:s.cid∈g.l.map Se.cid:=by rw[←hm];exact List.mem_map_of_mem hs'
  obtain⟨t,ht,e⟩:=List.mem_map.1 this
  rw[←e];exact hg.below t ht
 pool:=hg.pool
 opened:=fun e he=>by
  obtain⟨s,h1,h2,h3⟩:=hg.opened e he
  have:(s.cid,s.state)∈l'.map fun s=>(s.cid,s.state):=by rw[hst];exact List.mem_map_of_mem (f:=fun s:Se=>(s.cid,s.state)) h1
  obtain⟨t,ht,e'⟩:=List.mem_map.1 this
  simp only[Prod.mk.injEq] at e'
  exact⟨t,ht,by rw[e'.2];exact h2,by rw[e'.1];exact h3⟩
 leased:=fun s hs' h2=>by
  have:(s.cid,s.state)∈g.l.map fun s=>(s.cid,s.state):=by rw[←hst];exact List.mem_map_of_mem (f:=fun s:Se=>(s.cid,s.state)) hs'
  obtain⟨t,ht,e'⟩:=List.mem_map.1 this
  simp only[Prod.mk.injEq] at e'
  obtain⟨e,he,hc⟩:=hg.leased t ht (by rw[e'.2];exact h2)
  exact⟨e,he,by rw[hc,e'.1]⟩
 ways:=hg.ways
 outs:=ho
theorem GtD.mono {a a':Ar} {g:Gt} (h:GtD a g) (x:a <+: a'):GtD a' g:={ h with sess:=fun s hs=>(h.sess s hs).mono x }
theorem SeD.say {a:Ar} {s:Se} (h:SeD a s) (h2:s.state=2) (hq:s.ch.seq+1≤9999):SeD a { s with ch:={ s.ch with seq:=s.ch.seq+1 } } :=
 { h with ch:=fun _=>{ (h.ch h2) with seq:=hq } }
theorem SeD.opened {a:Ar} {s:Se} (h:SeD a s) {part said t app now place:Int} {P:Tm'} (d0:Den a part P) (d1:Den a said (.pair s.g.said P)) (d2:Den a t (qav 75 [ackT s.g.hand place (.pair s.g.said P)])) (d3:Den a app (appT s.g.hand (.pair s.g.said P))):SeD a (Rs.opened s part said t app now place P) :=
 { h with state:=.inr rfl,said:=d1,last:=d2,part:=fun _=>d0,ch:=fun _=>CR_new d3 (.inr rfl),side:=fun _=>rfl }
theorem qbQ {α:Type} (f:α→α) (l:List α) (i:Nat):(l.modify i f).length=l.length:=List.length_modify ..
theorem Fwd.sess {a a':Ar} {l l':List Se} {p:List Le} {o o':List Ou} {cid:Int} {k:Pk} {m:Rw} {q:Nat} (ha:AOk a) (hs:∀s∈l,SeD a s) (hq:∀s∈l,s.ch.seq≤q) (hq':q≤9998) (ho:o.length≤50) (h:Fwd a l p o cid k a' l' o' m) :
  (∀s∈l',SeD a' s)∧(∀s∈l',s.ch.seq≤q+1)∧l'.length=l.length∧l'.map Se.cid=l.map Se.cid∧(l'.map fun s=>(s.cid,s.state))=(l.map fun s=>(s.cid,s.state))∧o'.length≤50∧(∀s∈l',s.addr≤49):=by
 cases h with
 | drop=>exact⟨hs,fun s h=>by have:=hq s h;omega,rfl,rfl,rfl,ho,fun s h=>(hs s h).addr.2⟩
 | @to j hj a' t ok hops src st c x d =>
  have hS:∀s∈l.modify j (fun s=>{ s with ch:={ s.ch with seq:=s.ch.seq+1 } }),SeD a s:=qaW hs fun hj'=>(hs _ (List.getElem_mem hj')).say st (by have:=hq _ (List.getElem_mem hj');omega)
  refine⟨fun s h=>(hS s h).mono x.pre,qaW (fun s h=>by have:=hq s h;omega) (fun hj'=>?_),qbQ _ _ _,by apply qcp;intro x;rfl,by apply qcp;intro x;rfl,ho,fun s h=>(hS s h).addr.2⟩
  have:=hq _ (List.getElem_mem hj')
  show l[j].ch.seq+1≤q+1
  omega
 | out to ok hops src few=>exact⟨hs,fun s h=>by have:=hq s h;omega,rfl,rfl,rfl,by simp;omega,fun s h=>(hs s h).addr.2⟩
theorem GH.ok {a a':Ar} {g g':Gt} {addr draw now body code:Int} {T:Tm'} {m:Rw} {q:Nat} (ha:AOk a) (hg:GtD a g) (had:0≤addr∧addr≤49) (hn:g.next≤9997) (hq:∀s∈g.l,s.ch.seq≤q) (hq':q≤9998) (h:GH a g addr T draw now a' g' m body code) :
  GtD a' g'∧g'.next≤g.next+1∧(∀s∈g'.l,s.ch.seq≤q+1)∧g'.name=g.name∧g'.w=g.w:=by
 have hx:=h.ext ha
 have hm:=hg.mono hx.pre
 have hq1:∀s∈g.l,s.ch.seq≤q+1:=fun s hs=>by have:=hq s hs;omega
 cases h with
 | none=>exact⟨hg,by omega,hq1,rfl,rfl⟩
 | @again n ps l kind j hj ad =>
  refine⟨hg.keep (qaW hg.sess fun hj'=>{ (hg.sess _ (List.getElem_mem hj')) with }) (qbQ _ _ _) (by apply qcp;intro x;rfl) (by apply qcp;intro x;rfl) hg.outs,by show g.next≤_;omega,qaW hq1 fun hj'=>(by have:=hq1 g.l[j] (List.getElem_mem hj');exact this),rfl,rfl⟩
 | retry=>exact⟨hm,by omega,hq1,rfl,rfl⟩
 | @new Hl C Y h a' hello said hand t l hi pub yes few x d0 d1 d2 d3 =>
  obtain⟨_,_,hmo,hna⟩:=helloR_ok hi
  refine⟨?_,by show g.next+1≤_;omega,fun s hs=>?_,rfl,rfl⟩
  ·have hnew:SeD a' ⟨g.next,addr,1,h.name,h.mode,hello,said,0,hand,t,Ch.zero,now,⟨Hl,.pair (bothG draw Hl) (qeQ g.name draw h.mode h.name Y Hl),handG g.name draw h.mode h.name Y Hl,qav 73 [qfx draw,qeQ g.name draw h.mode h.name Y Hl],Hl,Hl,fun _=>False,fun _=>False⟩⟩ :=
    { cid:=⟨hg.next.1,by show g.next≤9998;omega⟩,addr:=had,state:=.inl rfl,name:=hna,mode:=hmo,hello:=d0.mono x.pre,said:=d1,hand:=d2,last:=d3,part:=(fun h=>by cases h),ch:=(fun h=>by cases h),side:=(fun h=>by cases h) }
   exact {
    name:=hg.name
    next:=⟨by show 1≤g.next+1;have:=hg.next.1;omega,by show g.next+1≤9998;omega⟩
    few:=by show(g.l++[_]).length≤3;simp;omega
    sess:=fun s hs=>by
     rcases List.mem_append.1 hs with hs | hs
     ·exact hm.sess s hs
     ·have:s=_:=List.mem_singleton.1 hs
      rw[this];exact hnew
    cids:=by
     show(g.l++[_]).Pairwise _
     rw[List.pairwise_append]
     refine⟨hg.cids,List.pairwise_singleton _ _,fun s hs t ht=>?_⟩
     have:t=_:=List.mem_singleton.1 ht
     rw[this]
     have:=hg.below s hs
     show s.cid≠g.next
     omega
    below:=fun s hs=>by
     show s.cid < g.next+1
     rcases List.mem_append.1 hs with hs | hs
     ·have:=hg.below s hs;omega
     ·have:s=_:=List.mem_singleton.1 hs
      rw[this];show g.next < g.next+1;omega
    pool:=hg.pool
    opened:=fun e he=>by
     obtain⟨s,h1,h2⟩:=hg.opened e he
     exact⟨s,List.mem_append.2 (.inl h1),h2⟩
    leased:=fun s hs h2=>by
     rcases List.mem_append.1 hs with hs | hs
     ·exact hg.leased s hs h2
     ·have:s=_:=List.mem_singleton.1 hs
      rw[this] at h2;cases h2
    ways:=hg.ways
    outs:=hg.outs }
  ·rcases List.mem_append.1 hs with hs | hs
   ·exact hq1 s hs
   ·have:s=_:=List.mem_singleton.1 hs
    rw[this];exact Nat.zero_le _
 | @opened P part said t app a' j l hj ad st d0 right x free d1 d2 d3 =>
  have hc:¬∃e∈g.p,e.cid=g.l[j].cid:=hg.half _ (List.getElem_mem hj) st
  obtain⟨pr,_,pm,_⟩:=(qhg hg.pool hc).2 free
  refine⟨?_,by show g.next≤_;omega,qaW hq1 fun hj'=>Nat.zero_le _,rfl,rfl⟩
  have hcm:=qcp Se.cid (g:=fun s=>Rs.opened s part said t app now (qan g.l[j].cid g.p).2 P) (fun _=>rfl) g.l j
  exact {
   name:=hg.name
   next:=hg.next
   few:=by show(g.l.modify j _).length≤3;rw[qbQ];exact hg.few
   sess:=qaW hm.sess fun hj'=>(hm.sess _ (List.getElem_mem hj')).opened (d0.mono x.pre) d1 d2 d3
   cids:=cids_map hcm hg.cids
   below:=qaW hg.below fun hj'=>(by have:=hg.below g.l[j] (List.getElem_mem hj');exact this)
   pool:=pr
   opened:=fun e he=>by
    rcases (pm e).1 he with he | rfl
    ·obtain⟨s,h1,h2,h3⟩:=hg.opened e he
     have hne:s.cid≠g.l[j].cid:=fun hh=>hc ⟨e,he,by rw[←h3,hh]⟩
     have:s.cid∈(g.l.modify j fun s=>Rs.opened s part said t app now (qan g.l[j].cid g.p).2 P).map Se.cid:=by rw[hcm];exact List.mem_map_of_mem h1
     obtain⟨s',h4,h5⟩:=List.mem_map.1 this
     refine⟨s',h4,?_,by rw[h5];exact h3⟩
     rcases qey h4 with h6 | ⟨hj',h6⟩
     ·have:=cid_inj hg.cids h6 h1 h5
      rw[this];exact h2
     ·rw[h6];rfl
    ·refine⟨Rs.opened g.l[j] part said t app now (qan g.l[j].cid g.p).2 P,?_,rfl,rfl⟩
     have:(g.l.modify j fun s=>Rs.opened s part said t app now (qan g.l[j].cid g.p).2 P)[j]'(by rw[qbQ];exact hj)=Rs.opened g.l[j] part said t app now (qan g.l[j].cid g.p).2 P:=List.getElem_modify_eq ..
     rw[←this]
     exact List.getElem_mem _
   leased:=fun s hs h2=>by
    rcases qey hs with h6 | ⟨hj',h6⟩
    ·obtain⟨e,he,hce⟩:=hg.leased s h6 h2
     exact⟨e,(pm e).2 (.inl he),hce⟩
    ·exact⟨_,(pm _).2 (.inr rfl),by rw[h6];rfl⟩
   ways:=hg.ways
   outs:=hg.outs }
 | @record N R u j hj e s c' SN' SL' body ad d a' l' o' m l st c hd le op new hr db had' fw =>
  have hS:∀s∈g.l.modify j (fun s=>qcr s c' now ad SN' SL'),SeD a s:=qaW hg.sess fun hj'=>(hg.sess _ (List.getElem_mem hj')).heard st hr le.1 (by rcases had' with rfl | rfl;exact had;exact(hg.sess _ (List.getElem_mem hj')).addr)
  have hqS:∀s∈g.l.modify j (fun s=>qcr s c' now ad SN' SL'),s.ch.seq≤q:=qaW hq fun hj'=>by
   show c'.seq≤q
   rw[hr.seq];exact hq _ (List.getElem_mem hj')
  have m1:=qcp Se.cid (g:=fun s=>qcr s c' now ad SN' SL') (fun _=>rfl) g.l j
  have m2:=qcp (fun s:Se=>(s.cid,s.state)) (g:=fun s=>qcr s c' now ad SN' SL') (fun _=>rfl) g.l j
  rcases fw with ⟨_,rfl,rfl,rfl,rfl⟩ | ⟨k,_,_,fw⟩
  ·exact⟨hg.keep hS (qbQ _ _ _) m1 m2 hg.outs,by show g.next≤_;omega,fun s hs=>by have:=hqS s hs;omega,rfl,rfl⟩
  ·obtain⟨f1,f2,f3,f4,f5,f6,_⟩:=fw.sess ha hS hqS hq' hg.outs
   exact⟨hg.keep f1 (f3.trans (qbQ _ _ _)) (f4.trans m1) (f5.trans m2) f6,by show g.next≤_;omega,f2,rfl,rfl⟩
def qdX (cid:Int) (l:List Le):List Le:=l.filter fun e=>decide (e.cid≠cid)
theorem f_given0 {l:List Le} (hl:l.length≤100) (cid:Int) (x:Rw):∀(n i:Nat) (out:List Le),i+n=l.length→out.length+n≤1000→fin trA 2330 [I cid,I i] [qaI l,x,qaI out]=some (0,[],[qaI (out++qdX cid (l.drop i))])
 | 0,i,out,hi,ho=>by
  refine qaa trA ?_
  show o194_0.go _ _ _=_
  have g:¬(i:Int) < (l.length:Int):=by omega
  rw[List.drop_eq_nil_of_le (by omega)]
  simp only[o194_0,TT,Nat.reduceEqDiff,↓reduceIte,qai,g,qdX,List.filter_nil]
 | n+1,i,out,hi,ho=>by
  have hlt:i < l.length:=by omega
  have g:(i:Int) < (l.length:Int):=by omega
  have g0:(0:Int)≤(i:Int):=by omega
  have w:=qaB (i:=i) (n:=100) (by omega) (by omega)
  refine qaa trA ?_
  show o194_0.go _ _ _=_
  rw[List.drop_eq_getElem_cons hlt]
  by_cases h1:l[i].cid=cid
  ·have ih:=f_given0 hl cid x n (i+1) out (by omega) (by omega)
   simp only[o194_0,TT,Nat.reduceEqDiff,↓reduceIte,qai,Int.toNat_natCast,qap l i hlt,Le.v,g,g0,h1,w,ih,qdX,List.filter_cons,ne_eq,not_true_eq_false]
  ·have ih:=f_given0 hl cid x n (i+1) (out++[l[i]]) (by omega) (by simp;omega)
   have q:qaI out++[[Value.int .i64 l[i].place,Value.int .i64 l[i].cid]]=qaI (out++[l[i]]):=by simp[qaI,Le.v]
   have g2:((out++[l[i]]).length:Int)≤100000000:=by simp;omega
   simp only[o194_0,TT,Nat.reduceEqDiff,↓reduceIte,qai,Int.toNat_natCast,qap l i hlt,Le.v,g,g0,h1,w,q,g2,ih,qdX,List.filter_cons,ne_eq,not_false_eq_true,List.append_assoc]
theorem f_given {l:List Le} (hl:l.length≤100) (cid:Int):fin trA 2331 [I cid] [qaI l]=some (0,[],[qaI (qdX cid l)]):=by
 have e:=f_given0 hl cid [] l.length 0 [] (by omega) (by simp;omega)
 rw[show((0:Nat):Int)=0 from rfl,List.drop_zero,List.nil_append] at e
 have e':fin trA 2330 [I cid,I 0] [qaI l,[],[]]=some (0,[],[qaI (qdX cid l)]):=e
 refine qaa trA ?_
 show o194.go _ _ _=_
 simp only[o194,TT,Nat.reduceEqDiff,↓reduceIte,e']
theorem f_gcopy (x y z:Int) {r1 r2 r3 r4:Rw} (h1:r1.length≤1000) (h2:r2.length≤1000) (h3:r3.length≤1000) (h4:r4.length≤1000):fin trA 1718 [I x,I y,I z] [r1,r2,r3,r4]=some (0,[I x,I y,I z],[r1,r2,r3,r4]):=by
 refine qaa trA ?_
 show o143.go _ _ _=_
 have g1:(r1.length:Int)≤100000000:=by omega
 have g2:(r2.length:Int)≤100000000:=by omega
 have g3:(r3.length:Int)≤100000000:=by omega
 have g4:(r4.length:Int)≤100000000:=by omega
 simp only[o143,TT,Nat.reduceEqDiff,↓reduceIte,g1,g2,g3,g4]
def idleL (now:Int) (l:List Se):List Se:=l.filter fun s=>decide (¬s.heard < now - 20)
def qeg (now:Int):List Se→List Le→List Le
 | [],p=>p
 | s :: l,p=>qeg now l (if s.heard < now - 20 then qdX s.cid p else p)
theorem f_idle0 {l:List Se} (hl:l.length≤100) {now:Int} (hw:0≤now∧now≤99999) (x1 x2 x3 x4 x5 x6 x7 x8 x9:Int) (r1 r2 r3 y1 y2 y3 y4:Rw) (r10 r11:Rw):∀(n i:Nat) (out:List Se) (p:List Le),i+n=l.length→out.length+n≤1000→p.length≤100 →
  fin trA 1790 [I now,I x1,I x2,I x3,I x4,I x5,I x6,I x7,I x8,I x9,I i] [qax l,r1,r2,r3,y1,y2,y3,y4,qax out,qaI p,r10,r11]=some (0,[],[qax (out++idleL now (l.drop i)),qaI (qeg now (l.drop i) p)])
 | 0,i,out,p,hi,ho,hp=>by
  refine qaa trA ?_
  show o149_0.go _ _ _=_
  have g:¬(i:Int) < (l.length:Int):=by omega
  rw[List.drop_eq_nil_of_le (by omega)]
  simp only[o149_0,TT,Nat.reduceEqDiff,↓reduceIte,qad,g,idleL,List.filter_nil,qeg]
 | n+1,i,out,p,hi,ho,hp=>by
  have hlt:i < l.length:=by omega
  have g:(i:Int) < (l.length:Int):=by omega
  have g0:(0:Int)≤(i:Int):=by omega
  have w:=qaB (i:=i) (n:=100) (by omega) (by omega)
  have w2:wr (now - 20)=now - 20:=qaj (by omega) (by omega)
  have w3:now - 20 < now:=by omega
  refine qaa trA ?_
  show o149_0.go _ _ _=_
  rw[List.drop_eq_getElem_cons hlt]
  by_cases h1:l[i].heard < now - 20
  ·have e1:=f_given hp l[i].cid
   have hp':(qdX l[i].cid p).length≤p.length:=List.length_filter_le _ _
   have ih:=f_idle0 hl hw x1 x2 x3 x4 x5 x6 x7 x8 x9 r1 r2 r3 y1 y2 y3 y4 r10 r11 n (i+1) out (qdX l[i].cid p) (by omega) (by omega) (by omega)
   simp only[o149_0,TT,Nat.reduceEqDiff,↓reduceIte,qad,Int.toNat_natCast,qaq l i hlt,Se.v,g,g0,w2,w3,h1,e1,w,ih,idleL,List.filter_cons,not_true_eq_false,qeg]
  ·have ih:=f_idle0 hl hw x1 x2 x3 x4 x5 x6 x7 x8 x9 r1 r2 r3 y1 y2 y3 y4 r10 r11 n (i+1) (out++[l[i]]) p (by omega) (by simp;omega) hp
   have q:qax out++[l[i].v]=qax (out++[l[i]]):=by simp[qax]
   simp only[Se.v] at q
   have g2:((out++[l[i]]).length:Int)≤100000000:=by simp;omega
   simp only[o149_0,TT,Nat.reduceEqDiff,↓reduceIte,qad,Int.toNat_natCast,qaq l i hlt,Se.v,g,g0,w2,w3,h1,w,q,g2,ih,idleL,List.filter_cons,not_false_eq_true,qeg,List.append_assoc]
theorem f_idle {a:Ar} {g:Gt} (hg:GtD a g) {now:Int} (hw:0≤now∧now≤99999):fin trA 1791 [I g.name,I g.next,I g.drops,I now] [qax g.l,qaI g.p,qaR g.w,qbb g.o]=some (0,[I g.name,I g.next,I g.drops],[qax (idleL now g.l),qaI (qeg now g.l g.p),qaR g.w,qbb g.o]):=by
 have few:=hg.few;have ways:=hg.ways;have outs:=hg.outs;have pf:=hg.pool.few
 have e1:=f_gcopy g.name g.next g.drops (r1:=qax g.l) (r2:=qaI g.p) (r3:=qaR g.w) (r4:=qbb g.o) (by rw[qad];omega) (by rw[qai];omega) (by rw[qar];omega) (by rw[qaK];omega)
 have e2:=f_idle0 (l:=g.l) (by omega) hw g.name g.next g.drops 0 0 0 g.name g.next g.drops (qaI g.p) (qaR g.w) (qbb g.o) [] [] [] [] (qaR g.w) (qbb g.o) g.l.length 0 [] g.p (by omega) (by simp;omega) (by omega)
 rw[show((0:Nat):Int)=0 from rfl,List.drop_zero,List.nil_append] at e2
 have e3:∀r,fin trA 1790 [I now,I g.name,I g.next,I g.drops,I 0,I 0,I 0,I g.name,I g.next,I g.drops,I 0] [qax g.l,qaI g.p,qaR g.w,qbb g.o,[],[],[],[],qax [],qaI g.p,qaR g.w,qbb g.o]=r→fin trA 1790 [I now,I g.name,I g.next,I g.drops,I 0,I 0,I 0,I g.name,I g.next,I g.drops,I 0] [qax g.l,qaI g.p,qaR g.w,qbb g.o,[],[],[],[],[],qaI g.p,qaR g.w,qbb g.o]=r:=fun r h=>h
 have e4:=e3 _ e2
 refine qaa trA ?_
 show o149.go _ _ _=_
 simp only[o149,TT,Nat.reduceEqDiff,↓reduceIte,e1,e4]
theorem idleP_mem {now:Int}:∀{l:List Se} {p:List Le} {e:Le},e∈qeg now l p↔e∈p∧∀s∈l,s.heard < now - 20→e.cid≠s.cid
 | [],p,e=>by simp[qeg]
 | s :: l,p,e=>by
  rw[qeg,idleP_mem (l:=l)]
  by_cases h:s.heard < now - 20
  ·rw[if_pos h]
   simp only[qdX,List.mem_filter,decide_eq_true_eq,List.mem_cons,forall_eq_or_imp,h,true_implies]
   constructor
   ·rintro ⟨⟨h1,h2⟩,h3⟩;exact⟨h1,h2,h3⟩
   ·rintro ⟨h1,h2,h3⟩;exact⟨⟨h1,h2⟩,h3⟩
  ·rw[if_neg h]
   simp only[List.mem_cons,forall_eq_or_imp,h,false_implies,true_and]
theorem idleP_sub {now:Int}:∀{l:List Se} {p:List Le},(qeg now l p).Sublist p
 | [],p=>List.Sublist.refl _
 | s :: l,p=>by
  rw[qeg]
  split
  ·exact idleP_sub.trans List.filter_sublist
  ·exact idleP_sub
theorem GtD.idle {a:Ar} {g:Gt} (hg:GtD a g) (now:Int):GtD a { g with l:=idleL now g.l,p:=qeg now g.l g.p }:=by
 have hsub:∀s∈idleL now g.l,s∈g.l∧¬s.heard < now - 20:=fun s hs=>by
  have:=List.mem_filter.1 hs
  exact⟨this.1,by simpa using this.2⟩
 have hps:(qeg now g.l g.p).Sublist g.p:=idleP_sub
 exact {
  name:=hg.name
  next:=hg.next
  few:=Nat.le_trans (List.length_filter_le _ _) hg.few
  sess:=fun s hs=>hg.sess s (hsub s hs).1
  cids:=hg.cids.sublist List.filter_sublist
  below:=fun s hs=>hg.below s (hsub s hs).1
  pool:=⟨fun e he=>hg.pool.place e (hps.subset he),hg.pool.up.sublist hps,hg.pool.unlike.sublist hps,Nat.le_trans hps.length_le hg.pool.few⟩
  opened:=fun e he=>by
   obtain⟨h1,h2⟩:=idleP_mem.1 he
   obtain⟨s,h3,h4,h5⟩:=hg.opened e h1
   refine⟨s,List.mem_filter.2 ⟨h3,?_⟩,h4,h5⟩
   simp only[decide_eq_true_eq]
   exact fun h=>h2 s h3 h h5.symm
  leased:=fun s hs h2=>by
   obtain⟨h3,h4⟩:=hsub s hs
   obtain⟨e,he,hc⟩:=hg.leased s h3 h2
   refine⟨e,idleP_mem.2 ⟨he,fun t ht hh hce=>?_⟩,hc⟩
   have:t=s:=cid_inj hg.cids ht h3 (by rw[←hce,hc])
   rw[this] at hh
   exact h4 hh
  ways:=hg.ways
  outs:=hg.outs }
def Turned (c c':Ch):Prop:=c'=c∨(c.ep≤c.heard∧c.ep≤7∧c'={ c with ep:=c.ep+1,seq:=0 })
theorem f_turn (c:Ch) (he:c.ep≤8):∃c' b,fin trA 2414 c.v []=some (0,c'.v++[B b],[])∧Turned c c':=by
 by_cases h:c.heard < c.ep
 ·exact⟨c,false,f_turn_no h he,.inl rfl⟩
 ·by_cases h8:c.ep≤7
  ·exact⟨_,true,f_turn_yes (by omega) h8,.inr ⟨by omega,h8,rfl⟩⟩
  ·refine⟨c,false,qaa trA ?_,.inl rfl⟩
   have g1:inB (c.ep:Int) 0 7=false:=by simp[inB];omega
   show o201.go _ _ _=_
   simp only[Ch.v,o201,TT,Nat.reduceEqDiff,↓reduceIte,f_in,g1]
theorem Turned.cr {a:Ar} {c c':Ch} {t:Tm'} {SN SL:Nat→Prop} (h:CR a c t SN SL) (k:Turned c c'):CR a c' t SN SL:=by
 rcases k with rfl | ⟨_,h7,rfl⟩
 ·exact h
 ·exact { h with ep:=by show c.ep+1≤8;omega,seq:=Nat.zero_le _ }
theorem Turned.seq {c c':Ch} (k:Turned c c'):c'.seq≤c.seq:=by
 rcases k with rfl | ⟨_,_,rfl⟩
 ·exact Nat.le_refl _
 ·exact Nat.zero_le _
theorem Turned.side {c c':Ch} (k:Turned c c'):c'.side=c.side:=by
 rcases k with rfl | ⟨_,_,rfl⟩<;>rfl
theorem f_turnG {a:Ar} {g:Gt} (hg:GtD a g) (cid:Int):(∃b,fin trA 2402 [I g.name,I g.next,I g.drops,I cid] [qax g.l,qaI g.p,qaR g.w,qbb g.o]=some (0,[I g.name,I g.next,I g.drops,B b],[qax g.l,qaI g.p,qaR g.w,qbb g.o])) ∨
  ∃(j:Nat) (hj:j < g.l.length) (c':Ch) (b:Bool),g.l[j].cid=cid∧g.l[j].state=2∧Turned g.l[j].ch c'∧fin trA 2402 [I g.name,I g.next,I g.drops,I cid] [qax g.l,qaI g.p,qaR g.w,qbb g.o]=some (0,[I g.name,I g.next,I g.drops,B b],[qax (g.l.modify j fun s=>{ s with ch:=c' }),qaI g.p,qaR g.w,qbb g.o]):=by
 have few:=hg.few;have ways:=hg.ways;have outs:=hg.outs;have pf:=hg.pool.few
 have e1:=f_gcopy g.name g.next g.drops (r1:=qax g.l) (r2:=qaI g.p) (r3:=qaR g.w) (r4:=qbb g.o) (by rw[qad];omega) (by rw[qai];omega) (by rw[qar];omega) (by rw[qaK];omega)
 have e2:=qdD (l:=g.l) (by omega) cid g.name g.next g.drops (qaI g.p) (qaR g.w) (qbb g.o)
 cases hs:qbU g.l cid with
 | none =>
  rw[hs] at e2
  refine .inl ⟨false,qaa trA ?_⟩
  show o200.go _ _ _=_
  simp only[o200,TT,Nat.reduceEqDiff,↓reduceIte,e1,e2,ixI,show(-1:Int) < 0 by omega]
 | some j =>
  obtain⟨hj,hcid⟩:=qcD hs
  rw[hs] at e2
  have n1:¬(j:Int) < 0:=by omega
  have n2:(0:Int)≤(j:Int):=by omega
  have n3:(j:Int) < (g.l.length:Int):=by omega
  by_cases hst':¬g.l[j].state=2
  ·refine .inl ⟨false,qaa trA ?_⟩
   show o200.go _ _ _=_
   simp only[o200,TT,Nat.reduceEqDiff,↓reduceIte,e1,e2,ixI,n1,n2,n3,qad,Int.toNat_natCast,qaq g.l j hj,Se.v,hst',ne_eq,not_false_eq_true]
  have hst:=Classical.not_not.1 hst'
  obtain⟨c',b,e3,hc⟩:=f_turn g.l[j].ch ((hg.sess _ (List.getElem_mem hj)).ch hst).ep
  simp only[Ch.v,List.cons_append,List.nil_append] at e3
  refine .inr ⟨j,hj,c',b,hcid,hst,hc,qaa trA ?_⟩
  show o200.go _ _ _=_
  simp only[o200,TT,Nat.reduceEqDiff,↓reduceIte,e1,e2,e3,ixI,n1,n2,n3,qad,Int.toNat_natCast,qaq g.l j hj,Se.v,hst,set_ch,ne_eq,not_true_eq_false]
theorem GtD.turn {a:Ar} {g:Gt} (hg:GtD a g) {j:Nat} (hj:j < g.l.length) {c':Ch} (hst:g.l[j].state=2) (hc:Turned g.l[j].ch c'):GtD a { g with l:=g.l.modify j fun s=>{ s with ch:=c' } } :=
 hg.keep (d:=g.drops) (qaW hg.sess fun hj'=>(by
  have h:=hg.sess g.l[j] (List.getElem_mem hj')
  exact { h with ch:=fun _=>hc.cr (h.ch hst),side:=fun _=>hc.side.trans (h.side hst) })) (qbQ _ _ _) (by apply qcp;intro x;rfl) (by apply qcp;intro x;rfl) hg.outs
structure Nt where
 name:Int
 peer:Int
 app:Int
 epoch:Int
 seq:Int
 body:Int
 safe:Bool
def Nt.v (n:Nt):List Value:=[I n.name,I n.peer,I n.app,I n.epoch,I n.seq,I n.body,B n.safe]
def qas (l:List Nt):Rw:=l.map Nt.v
theorem encN_len (l:List Nt):(qas l).length=l.length:=List.length_map ..
theorem qah (l:List Nt) (i:Nat) (h:i < l.length):(qas l).getD i []=(l[i]).v:=by
 simp[qas,List.getD_eq_getElem?_getD,List.getElem?_eq_getElem h]
structure Mail_ where
 src:Int
 to:Int
 term:Int
def Mail_.v (n:Mail_):List Value:=[I n.src,I n.to,I n.term]
def qbs (l:List Mail_):Rw:=l.map Mail_.v
theorem encM_len (l:List Mail_):(qbs l).length=l.length:=List.length_map ..
theorem encM_get (l:List Mail_) (i:Nat) (h:i < l.length):(qbs l).getD i []=(l[i]).v:=by
 simp[qbs,List.getD_eq_getElem?_getD,List.getElem?_eq_getElem h]
def qcS (name app:Int):List Nt→Int × Bool
 | []=>(0,false)
 | n :: l=>if n.name=name∧n.app=app then (n.peer,n.safe) else qcS name app l
theorem f_safe0 {l:List Nt} (hl:l.length≤1000) (x0 x1 x2 x3 x4 x7:Int) (b:Bool) (name app:Int) (r0 r1 r2 r3 r4 r5 r6 r7 r8 r9 r10 r12 r13 r14:Rw):∀(n i:Nat),i+n=l.length →
  fin trA 2738 [I x0,I x1,I x2,I x3,I x4,I name,I app,I x7,B b,I i] [r0,r1,r2,r3,r4,r5,r6,r7,r8,r9,r10,qas l,r12,r13,r14]=some (if ∃e∈l.drop i,e.name=name∧e.app=app then (1,[I (qcS name app (l.drop i)).1,B (qcS name app (l.drop i)).2],[]) else (0,[],[]))
 | 0,i,hi=>by
  refine qaa trA ?_
  show o228_0.go _ _ _=_
  have g:¬(i:Int) < (l.length:Int):=by omega
  rw[List.drop_eq_nil_of_le (by omega),if_neg (by simp)]
  simp only[o228_0,TT,Nat.reduceEqDiff,↓reduceIte,encN_len,g]
 | n+1,i,hi=>by
  have ih:=f_safe0 hl x0 x1 x2 x3 x4 x7 b name app r0 r1 r2 r3 r4 r5 r6 r7 r8 r9 r10 r12 r13 r14 n (i+1) (by omega)
  have hlt:i < l.length:=by omega
  have g:(i:Int) < (l.length:Int):=by omega
  have g0:(0:Int)≤(i:Int):=by omega
  have w:=qaB (i:=i) (n:=1000) (by omega) (by omega)
  refine qaa trA ?_
  show o228_0.go _ _ _=_
  rw[List.drop_eq_getElem_cons hlt]
  by_cases h1:l[i].name=name∧l[i].app=app
  ·rw[if_pos ⟨l[i],List.mem_cons_self ..,h1⟩]
   simp only[o228_0,qac,TT,Nat.reduceEqDiff,↓reduceIte,encN_len,Int.toNat_natCast,qah l i hlt,Nt.v,g,g0,h1.1,h1.2,qcS,and_self]
  ·have hs:qcS name app (l[i] :: l.drop (i+1))=qcS name app (l.drop (i+1)):=by rw[qcS,if_neg h1]
   have he:(∃e∈l[i] :: l.drop (i+1),e.name=name∧e.app=app)↔∃e∈l.drop (i+1),e.name=name∧e.app=app:=by
    constructor
    ·rintro ⟨e,he,hc⟩
     rcases List.mem_cons.1 he with rfl | he
     ·exact absurd hc h1
     ·exact⟨e,he,hc⟩
    ·rintro ⟨e,he,hc⟩;exact⟨e,List.mem_cons_of_mem _ he,hc⟩
   rw[hs]
   by_cases h2:∃e∈l.drop (i+1),e.name=name∧e.app=app
   ·rw[if_pos h2] at ih
    rw[if_pos (he.2 h2)]
    by_cases hn:l[i].name=name
    ·have ha:¬l[i].app=app:=fun h=>h1 ⟨hn,h⟩
     simp only[o228_0,qac,TT,Nat.reduceEqDiff,↓reduceIte,encN_len,Int.toNat_natCast,qah l i hlt,Nt.v,g,g0,hn,ha,w,ih]
    ·simp only[o228_0,qac,TT,Nat.reduceEqDiff,↓reduceIte,encN_len,Int.toNat_natCast,qah l i hlt,Nt.v,g,g0,hn,w,ih]
   ·rw[if_neg h2] at ih
    rw[if_neg (fun h=>h2 (he.1 h))]
    by_cases hn:l[i].name=name
    ·have ha:¬l[i].app=app:=fun h=>h1 ⟨hn,h⟩
     simp only[o228_0,qac,TT,Nat.reduceEqDiff,↓reduceIte,encN_len,Int.toNat_natCast,qah l i hlt,Nt.v,g,g0,hn,ha,w,ih]
    ·simp only[o228_0,qac,TT,Nat.reduceEqDiff,↓reduceIte,encN_len,Int.toNat_natCast,qah l i hlt,Nt.v,g,g0,hn,w,ih]
theorem safeOf_no {name app:Int}:∀{l:List Nt},(¬∃e∈l,e.name=name∧e.app=app)→qcS name app l=(0,false)
 | [],_=>rfl
 | e :: l,h=>by
  rw[qcS,if_neg (fun hc=>h ⟨e,List.mem_cons_self ..,hc⟩)]
  exact safeOf_no fun ⟨e',he,hc⟩=>h ⟨e',List.mem_cons_of_mem _ he,hc⟩
theorem f_safe {l:List Nt} (hl:l.length≤1000) (x0 x1 x2 x3 x4 name app:Int) (r0 r1 r2 r3 r4 r5 r6 r7 r8 r9 r10 r12 r13 r14:Rw) :
  fin trA 2739 [I x0,I x1,I x2,I x3,I x4,I name,I app] [r0,r1,r2,r3,r4,r5,r6,r7,r8,r9,r10,qas l,r12,r13,r14]=some (0,[I (qcS name app l).1,B (qcS name app l).2],[]):=by
 have e:=f_safe0 hl x0 x1 x2 x3 x4 0 false name app r0 r1 r2 r3 r4 r5 r6 r7 r8 r9 r10 r12 r13 r14 l.length 0 (by omega)
 rw[show((0:Nat):Int)=0 from rfl,List.drop_zero] at e
 refine qaa trA ?_
 show o228.go _ _ _=_
 by_cases h:∃e∈l,e.name=name∧e.app=app
 ·rw[if_pos h] at e
  simp only[o228,qac,TT,Nat.reduceEqDiff,↓reduceIte,e]
 ·rw[if_neg h] at e
  simp only[o228,qac,TT,Nat.reduceEqDiff,↓reduceIte,e,safeOf_no h]
def noteR (l:List Nt) (name app body:Int) (R:Tm'):Nt:=⟨name,(qcS name app l).1,app,((qdq R).getD (0,0)).1,((qdq R).getD (0,0)).2,body,(qcS name app l).2⟩
theorem qfE {a:Ar} (ha:AOk a) {l:List Nt} (hl:l.length≤1000) (x0 x1 x2 x3 x4 name app body:Int) {k:Int} {R:Tm'} (hk:Den a k R) (r1 r2 r3 r4 r5 r6 r7 r8 r9 r10 r12 r13 r14:Rw) :
  fin trA 2390 [I x0,I x1,I x2,I x3,I x4,I name,I app,I k,I body] [qag a,r1,r2,r3,r4,r5,r6,r7,r8,r9,r10,qas l,r12,r13,r14]=some (0,(noteR l name app body R).v,[]):=by
 obtain⟨h1,h2⟩:=f_head ha hk
 have e2:=f_safe hl x0 x1 x2 x3 x4 name app (qag a) r1 r2 r3 r4 r5 r6 r7 r8 r9 r10 r12 r13 r14
 refine qaa trA ?_
 show o199.go _ _ _=_
 cases hh:qdq R with
 | none =>
  have e1:=h2 hh
  simp only[o199,TT,Nat.reduceEqDiff,↓reduceIte,e1,e2,noteR,Nt.v,hh,Option.getD_none]
 | some es =>
  have e1:=h1 es.1 es.2 hh
  simp only[o199,TT,Nat.reduceEqDiff,↓reduceIte,e1,e2,noteR,Nt.v,hh,Option.getD_some]
theorem qhc (x0 x1 x2 x3 x4 src to t:Int) (ht:t < 0) (r0 r1 r2 r3 r4 r5 r6 r7 r8 r9 r10 r11 r12 r13 r14:Rw) :
  fin trA 1754 [I x0,I x1,I x2,I x3,I x4,I src,I to,I t] [r0,r1,r2,r3,r4,r5,r6,r7,r8,r9,r10,r11,r12,r13,r14]=some (0,[],[r7,r8]):=by
 refine qaa trA ?_
 show o146.go _ _ _=_
 simp only[o146,TT,Nat.reduceEqDiff,↓reduceIte,ht]
def qby (net:List Mail_) (m:Mail_):List Mail_:=if net.length < 12 then net++[m] else net
theorem qfi (net:List Mail_) (m:Mail_) (h:net.length≤12):(qby net m).length≤12:=by
 unfold qby
 split
 ·simp;omega
 ·exact h
theorem qfs {net:List Mail_} {known:List Int} (hn:net.length≤1000) (hk:known.length≤10000) (x0 x1 x2 x3 x4 src to t:Int) (ht:0≤t) (r0 r1 r2 r3 r4 r5 r6 r9 r10 r11 r12 r13 r14:Rw) :
  fin trA 1754 [I x0,I x1,I x2,I x3,I x4,I src,I to,I t] [r0,r1,r2,r3,r4,r5,r6,qbs net,qak known,r9,r10,r11,r12,r13,r14]=some (0,[],[qbs (qby net ⟨src,to,t⟩),qak (known++[t])]):=by
 have n1:¬t < 0:=by omega
 have q1:qak known++[[Value.int .i64 t]]=qak (known++[t]):=by simp[qak]
 have q2:qbs net++[[Value.int .i64 src,Value.int .i64 to,Value.int .i64 t]]=qbs (net++[⟨src,to,t⟩]):=by simp[qbs,Mail_.v]
 have g1:((known++[t]).length:Int)≤100000000:=by simp;omega
 have g2:((net++[(⟨src,to,t⟩:Mail_)]).length:Int)≤100000000:=by simp;omega
 refine qaa trA ?_
 show o146.go _ _ _=_
 unfold qby
 by_cases h:net.length < 12
 ·have h':(net.length:Int) < 12:=by omega
  rw[if_pos h]
  simp only[o146,TT,Nat.reduceEqDiff,↓reduceIte,n1,q1,q2,encI_len,encM_len,g1,g2,h']
 ·have h':¬(net.length:Int) < 12:=by omega
  rw[if_neg h]
  simp only[o146,TT,Nat.reduceEqDiff,↓reduceIte,n1,q1,q2,encI_len,encM_len,g1,g2,h']
def qdB (R:Tm'):Option Tm':=match qbe 3 R with
 | some [_,_,.bin c _ b]=>if c=5 then (qbe 3 b).bind fun l=>l[2]? else none
 | _=>none
theorem f_sealed {a:Ar} (ha:AOk a) {k:Int} {R:Tm'} (hk:Den a k R) :
  (qdB R=none∧fin trA 2966 [I k] [qag a]=some (0,[I (-1)],[]))∨∃u v,qdB R=some u∧fin trA 2966 [I k] [qag a]=some (0,[I v],[])∧Den a v u:=by
 rcases qch ha hk with ⟨u,v,w,x,y,z,p0,e1,d1,d2,d3⟩ | ⟨p0,e1⟩
 ·have e2:=qcH ha d3 5
  by_cases h5:w.kind=5
  ·obtain⟨c,b,rfl⟩:=qdF d3 h5 (by omega)
   obtain⟨q,hq,i,j,rfl,hnd,d4,d5⟩:=qdc ha d3
   have g0:(0:Int)≤(q:Int):=by omega
   have g1:(q:Int) < (a.length:Int):=by omega
   rcases qch ha d5 with ⟨u',v',w',x',y',z',p1,e3,d6,d7,d8⟩ | ⟨p1,e3⟩
   ·refine .inr ⟨w',z',by simp[qdB,p0,p1],qaa trA ?_,d8⟩
    show o247.go _ _ _=_
    simp only[o247,TT,Nat.reduceEqDiff,↓reduceIte,TN,Nat.reduceAdd,Int.reduceLT,Int.reduceLE,Int.reduceToNat,Int.reduceToNat,e1,e2,h5,encA_len,Int.toNat_natCast,qal a q hq,hnd,Nd.enc,g0,g1,e3]
   ·refine .inl ⟨by simp[qdB,p0,p1],qaa trA ?_⟩
    show o247.go _ _ _=_
    simp only[o247,TT,Nat.reduceEqDiff,↓reduceIte,TN,Nat.reduceAdd,Int.reduceLT,Int.reduceLE,Int.reduceToNat,Int.reduceToNat,e1,e2,h5,encA_len,Int.toNat_natCast,qal a q hq,hnd,Nd.enc,g0,g1,e3]
  ·refine .inl ⟨?_,qaa trA ?_⟩
   ·unfold qdB
    rw[p0]
    cases w with
    | bin c s b =>
     have:¬c=5:=h5
     simp[this]
    | atom n=>rfl
    | un c t=>rfl
   ·show o247.go _ _ _=_
    simp only[o247,TT,Nat.reduceEqDiff,↓reduceIte,TN,Nat.reduceAdd,Int.reduceLT,Int.reduceLE,Int.reduceToNat,Int.reduceToNat,e1,e2,h5]
 ·refine .inl ⟨by simp[qdB,p0],qaa trA ?_⟩
  show o247.go _ _ _=_
  simp only[o247,TT,Nat.reduceEqDiff,↓reduceIte,e1]
theorem f_cid0 {l:List Se} (hl:l.length≤100) (x0 x1 x2 x3 x4 x6 app:Int) (r0 r1 r2 r4 r5 r6 r7 r8 r9 r10 r11 r12 r13 r14:Rw):∀(n i:Nat),i+n=l.length →
  (fin trA 2366 [I x0,I x1,I x2,I x3,I x4,I app,I x6,I i] [r0,r1,r2,qax l,r4,r5,r6,r7,r8,r9,r10,r11,r12,r13,r14]=some (0,[],[])) ∨
  ∃(j:Nat) (hj:j < l.length),l[j].state=2∧l[j].ch.app=app∧fin trA 2366 [I x0,I x1,I x2,I x3,I x4,I app,I x6,I i] [r0,r1,r2,qax l,r4,r5,r6,r7,r8,r9,r10,r11,r12,r13,r14]=some (1,[I l[j].cid],[])
 | 0,i,hi=>by
  refine .inl (qaa trA ?_)
  show o197_0.go _ _ _=_
  have g:¬(i:Int) < (l.length:Int):=by omega
  simp only[o197_0,TT,Nat.reduceEqDiff,↓reduceIte,qad,g]
 | n+1,i,hi=>by
  have ih:=f_cid0 hl x0 x1 x2 x3 x4 x6 app r0 r1 r2 r4 r5 r6 r7 r8 r9 r10 r11 r12 r13 r14 n (i+1) (by omega)
  have hlt:i < l.length:=by omega
  have g:(i:Int) < (l.length:Int):=by omega
  have g0:(0:Int)≤(i:Int):=by omega
  have w:=qaB (i:=i) (n:=100) (by omega) (by omega)
  by_cases h1:l[i].state=2
  ·by_cases h2:l[i].ch.app=app
   ·refine .inr ⟨i,hlt,h1,h2,qaa trA ?_⟩
    show o197_0.go _ _ _=_
    simp only[o197_0,qac,TT,Nat.reduceEqDiff,↓reduceIte,qad,Int.toNat_natCast,qaq l i hlt,Se.v,g,g0,h1,h2]
   ·rcases ih with ih | ⟨j,hj,q1,q2,ih⟩
    ·refine .inl (qaa trA ?_)
     show o197_0.go _ _ _=_
     simp only[o197_0,qac,TT,Nat.reduceEqDiff,↓reduceIte,qad,Int.toNat_natCast,qaq l i hlt,Se.v,g,g0,h1,h2,w,ih]
    ·refine .inr ⟨j,hj,q1,q2,qaa trA ?_⟩
     show o197_0.go _ _ _=_
     simp only[o197_0,qac,TT,Nat.reduceEqDiff,↓reduceIte,qad,Int.toNat_natCast,qaq l i hlt,Se.v,g,g0,h1,h2,w,ih]
  ·rcases ih with ih | ⟨j,hj,q1,q2,ih⟩
   ·refine .inl (qaa trA ?_)
    show o197_0.go _ _ _=_
    simp only[o197_0,qac,TT,Nat.reduceEqDiff,↓reduceIte,qad,Int.toNat_natCast,qaq l i hlt,Se.v,g,g0,h1,w,ih]
   ·refine .inr ⟨j,hj,q1,q2,qaa trA ?_⟩
    show o197_0.go _ _ _=_
    simp only[o197_0,qac,TT,Nat.reduceEqDiff,↓reduceIte,qad,Int.toNat_natCast,qaq l i hlt,Se.v,g,g0,h1,w,ih]
theorem f_cid18 {l:List Se} (hl:l.length≤100) (x0 x1 x2 x3 x4 app:Int) (r0 r1 r2 r4 r5 r6 r7 r8 r9 r10 r11 r12 r13 r14:Rw) :
  ∃r,fin trA 2367 [I x0,I x1,I x2,I x3,I x4,I app] [r0,r1,r2,qax l,r4,r5,r6,r7,r8,r9,r10,r11,r12,r13,r14]=some (0,[I r],[])∧(r=0∨∃s∈l,s.state=2∧s.ch.app=app∧s.cid=r):=by
 rcases f_cid0 hl x0 x1 x2 x3 x4 0 app r0 r1 r2 r4 r5 r6 r7 r8 r9 r10 r11 r12 r13 r14 l.length 0 (by omega) with h | ⟨j,hj,q1,q2,h⟩
 ·rw[show((0:Nat):Int)=0 from rfl] at h
  refine⟨0,qaa trA ?_,.inl rfl⟩
  show o197.go _ _ _=_
  simp only[o197,qac,TT,Nat.reduceEqDiff,↓reduceIte,h]
 ·rw[show((0:Nat):Int)=0 from rfl] at h
  refine⟨l[j].cid,qaa trA ?_,.inr ⟨l[j],List.getElem_mem hj,q1,q2,rfl⟩⟩
  show o197.go _ _ _=_
  simp only[o197,qac,TT,Nat.reduceEqDiff,↓reduceIte,h]
theorem f_taken0 {l:List Int} (hl:l.length≤1000) (x0 x1 x2 x3 x4 name:Int) (b:Bool) (r0 r1 r2 r3 r4 r5 r6 r7 r8 r10 r11 r12 r13 r14:Rw):∀(n i:Nat),i+n=l.length →
  fin trA 2450 [I x0,I x1,I x2,I x3,I x4,I name,B b,I i] [r0,r1,r2,r3,r4,r5,r6,r7,r8,qak l,r10,r11,r12,r13,r14]=some (if name∈l.drop i then (1,[B true],[]) else (0,[],[]))
 | 0,i,hi=>by
  refine qaa trA ?_
  show o204_0.go _ _ _=_
  have g:¬(i:Int) < (l.length:Int):=by omega
  rw[List.drop_eq_nil_of_le (by omega),if_neg (by simp)]
  simp only[o204_0,TT,Nat.reduceEqDiff,↓reduceIte,encI_len,g]
 | n+1,i,hi=>by
  have ih:=f_taken0 hl x0 x1 x2 x3 x4 name b r0 r1 r2 r3 r4 r5 r6 r7 r8 r10 r11 r12 r13 r14 n (i+1) (by omega)
  have hlt:i < l.length:=by omega
  have g:(i:Int) < (l.length:Int):=by omega
  have g0:(0:Int)≤(i:Int):=by omega
  have w:=qaB (i:=i) (n:=1000) (by omega) (by omega)
  refine qaa trA ?_
  show o204_0.go _ _ _=_
  rw[List.drop_eq_getElem_cons hlt]
  by_cases h1:l[i]=name
  ·rw[if_pos (by rw[h1];exact List.mem_cons_self ..)]
   simp only[o204_0,qac,TT,Nat.reduceEqDiff,↓reduceIte,encI_len,Int.toNat_natCast,qam l i hlt,g,g0,h1]
  ·have he:name∈l[i] :: l.drop (i+1)↔name∈l.drop (i+1):=by
    rw[List.mem_cons]
    exact⟨fun h=>h.resolve_left (fun h=>h1 h.symm),.inr⟩
   by_cases h2:name∈l.drop (i+1)
   ·rw[if_pos h2] at ih
    rw[if_pos (he.2 h2)]
    simp only[o204_0,qac,TT,Nat.reduceEqDiff,↓reduceIte,encI_len,Int.toNat_natCast,qam l i hlt,g,g0,h1,w,ih]
   ·rw[if_neg h2] at ih
    rw[if_neg (fun h=>h2 (he.1 h))]
    simp only[o204_0,qac,TT,Nat.reduceEqDiff,↓reduceIte,encI_len,Int.toNat_natCast,qam l i hlt,g,g0,h1,w,ih]
theorem qgf {l:List Int} (hl:l.length≤1000) (x0 x1 x2 x3 x4 name:Int) (r0 r1 r2 r3 r4 r5 r6 r7 r8 r10 r11 r12 r13 r14:Rw) :
  fin trA 2451 [I x0,I x1,I x2,I x3,I x4,I name] [r0,r1,r2,r3,r4,r5,r6,r7,r8,qak l,r10,r11,r12,r13,r14]=some (0,[B (decide (name∈l))],[]):=by
 have e:=f_taken0 hl x0 x1 x2 x3 x4 name false r0 r1 r2 r3 r4 r5 r6 r7 r8 r10 r11 r12 r13 r14 l.length 0 (by omega)
 rw[show((0:Nat):Int)=0 from rfl,List.drop_zero] at e
 refine qaa trA ?_
 show o204.go _ _ _=_
 by_cases h:name∈l
 ·rw[if_pos h] at e
  simp only[o204,qac,TT,Nat.reduceEqDiff,↓reduceIte,e,h]
 ·rw[if_neg h] at e
  simp only[o204,qac,TT,Nat.reduceEqDiff,↓reduceIte,e,h]
def HasD (name app cid:Int) (l:List Nt):Prop:=∃e∈l,e.name=name∧e.app=app∧e.epoch=cid
instance (name app cid:Int) (l:List Nt):Decidable (HasD name app cid l):=inferInstanceAs (Decidable (∃e∈l,e.name=name∧e.app=app∧e.epoch=cid))
theorem HasD.cons {name app cid:Int} {e:Nt} {l:List Nt}:HasD name app cid (e :: l)↔(e.name=name∧e.app=app∧e.epoch=cid)∨HasD name app cid l:=by
 constructor
 ·rintro ⟨f,hf,h⟩
  rcases List.mem_cons.1 hf with rfl | hf
  ·exact .inl h
  ·exact .inr ⟨f,hf,h⟩
 ·rintro (h | ⟨f,hf,h⟩)
  ·exact⟨e,List.mem_cons_self ..,h⟩
  ·exact⟨f,List.mem_cons_of_mem _ hf,h⟩
theorem f_opened2 {l:List Nt} (hl:l.length≤1000) (s:Se) (name x1 x2 x3 x4 x5:Int) (r0 r1 r2 r3 r4 r5 r6 r7 r8 r9 r10 r12 r13 r14:Rw):∀(n i:Nat) (b:Bool),i+n=l.length →
  fin trA 2822 ([I name,I x1,I x2,I x3,I x4,I x5]++s.v++[B b,I i]) [r0,r1,r2,r3,r4,r5,r6,r7,r8,r9,r10,qas l,r12,r13,r14]=some (0,[B (b||decide (HasD name s.ch.app s.cid (l.drop i)))],[])
 | 0,i,b,hi=>by
  refine qaa trA ?_
  show o235_2.go _ _ _=_
  have g:¬(i:Int) < (l.length:Int):=by omega
  have h0:¬HasD name s.ch.app s.cid (l.drop i):=by rw[List.drop_eq_nil_of_le (by omega)];rintro ⟨e,he,_⟩;cases he
  simp only[o235_2,TT,Nat.reduceEqDiff,↓reduceIte,Se.v,encN_len,g,h0,Bool.or_false]
 | n+1,i,b,hi=>by
  have ih:=fun b=>f_opened2 hl s name x1 x2 x3 x4 x5 r0 r1 r2 r3 r4 r5 r6 r7 r8 r9 r10 r12 r13 r14 n (i+1) b (by omega)
  simp only[Se.v,List.cons_append,List.nil_append] at ih
  have hlt:i < l.length:=by omega
  have g:(i:Int) < (l.length:Int):=by omega
  have g0:(0:Int)≤(i:Int):=by omega
  have w:=qaB (i:=i) (n:=1000) (by omega) (by omega)
  refine qaa trA ?_
  show o235_2.go _ _ _=_
  have hd:decide (HasD name s.ch.app s.cid (l.drop i))=(decide (l[i].name=name)&&(decide (l[i].app=s.ch.app)&&decide (l[i].epoch=s.cid))||decide (HasD name s.ch.app s.cid (l.drop (i+1)))):=by
   rw[List.drop_eq_getElem_cons hlt]
   simp only[HasD.cons,Bool.decide_or,Bool.decide_and]
  rw[hd]
  cases b with
  | true=>simp only[o235_2,qac,TT,Nat.reduceEqDiff,↓reduceIte,Se.v,encN_len,g,w,ih,Bool.true_or]
  | false =>
   by_cases h1:l[i].name=name
   ·by_cases h2:l[i].app=s.ch.app
    ·simp only[o235_2,qac,TT,Nat.reduceEqDiff,↓reduceIte,Se.v,encN_len,Int.toNat_natCast,qah l i hlt,Nt.v,g,g0,h1,h2,w,ih,Bool.false_or,Bool.true_and]
    ·simp only[o235_2,qac,TT,Nat.reduceEqDiff,↓reduceIte,Se.v,encN_len,Int.toNat_natCast,qah l i hlt,Nt.v,g,g0,h1,h2,w,ih,Bool.false_or,Bool.false_and,Bool.and_false]
   ·simp only[o235_2,qac,TT,Nat.reduceEqDiff,↓reduceIte,Se.v,encN_len,Int.toNat_natCast,qah l i hlt,Nt.v,g,g0,h1,w,ih,Bool.false_or,Bool.false_and]
def qcZ (name:Int) (tk:List Int) (d:List Nt) (s:Se):List Nt :=
 if s.state=2∧¬HasD name s.ch.app s.cid d then d++[⟨name,s.name,s.ch.app,s.cid,0,s.said,!decide (name∈tk)&&!decide (s.name∈tk)⟩] else d
theorem openN_len (name:Int) (tk:List Int) (d:List Nt) (s:Se):(qcZ name tk d s).length≤d.length+1:=by
 unfold qcZ
 split
 ·simp
 ·omega
theorem f_opened0 {l:List Se} {tk:List Int} (hl:l.length≤100) (ht:tk.length≤1000) (name x1 x2 x3 x4:Int) (r0 r1 r2 r4 r5 r6 r7 r8 r10 r12 r13 r14:Rw):∀(n i:Nat) (d:List Nt),i+n=l.length→d.length+n≤1000 →
  fin trA 2823 [I name,I x1,I x2,I x3,I x4,I i] [r0,r1,r2,qax l,r4,r5,r6,r7,r8,qak tk,r10,qas d,r12,r13,r14]=some (0,[],[qas ((l.drop i).foldl (qcZ name tk) d)])
 | 0,i,d,hi,hd=>by
  refine qaa trA ?_
  show o235_0.go _ _ _=_
  have g:¬(i:Int) < (l.length:Int):=by omega
  rw[List.drop_eq_nil_of_le (by omega)]
  simp only[o235_0,TT,Nat.reduceEqDiff,↓reduceIte,qad,g,List.foldl_nil]
 | n+1,i,d,hi,hd=>by
  have hlt:i < l.length:=by omega
  have ih:=f_opened0 hl ht name x1 x2 x3 x4 r0 r1 r2 r4 r5 r6 r7 r8 r10 r12 r13 r14 n (i+1) (qcZ name tk d l[i]) (by omega) (by have:=openN_len name tk d l[i];omega)
  have g:(i:Int) < (l.length:Int):=by omega
  have g0:(0:Int)≤(i:Int):=by omega
  have w:=qaB (i:=i) (n:=100) (by omega) (by omega)
  refine qaa trA ?_
  show o235_0.go _ _ _=_
  rw[List.drop_eq_getElem_cons hlt,List.foldl_cons]
  by_cases h1:l[i].state=2
  ·have e2:=f_opened2 (show d.length≤1000 by omega) l[i] name x1 x2 x3 x4 i r0 r1 r2 (qax l) r4 r5 r6 r7 r8 (qak tk) r10 r12 r13 r14 d.length 0 false (by omega)
   rw[show((0:Nat):Int)=0 from rfl,List.drop_zero,Bool.false_or] at e2
   simp only[Se.v,List.cons_append,List.nil_append,h1] at e2
   by_cases h2:HasD name l[i].ch.app l[i].cid d
   ·rw[show qcZ name tk d l[i]=d by unfold qcZ;rw[if_neg (fun h=>h.2 h2)]] at ih ⊢
    rw[decide_eq_true h2] at e2
    simp only[o235_0,TT,Nat.reduceEqDiff,↓reduceIte,qad,Int.toNat_natCast,qaq l i hlt,Se.v,g,g0,h1,ne_eq,not_true_eq_false,e2,w,ih]
   ·have hN:qcZ name tk d l[i]=d++[⟨name,l[i].name,l[i].ch.app,l[i].cid,0,l[i].said,!decide (name∈tk)&&!decide (l[i].name∈tk)⟩]:=by unfold qcZ;rw[if_pos ⟨h1,h2⟩]
    rw[hN] at ih ⊢
    rw[decide_eq_false h2] at e2
    have e3:=fun nm=>qgf ht name x1 x2 x3 x4 nm r0 r1 r2 (qax l) r4 r5 r6 r7 r8 r10 (qas d) r12 r13 r14
    have q2:∀bb:Bool,qas d++[[Value.int .i64 name,Value.int .i64 l[i].name,Value.int .i64 l[i].ch.app,Value.int .i64 l[i].cid,Value.int .i64 0,Value.int .i64 l[i].said,Value.bool bb]]=qas (d++[⟨name,l[i].name,l[i].ch.app,l[i].cid,0,l[i].said,bb⟩]):=fun bb=>by simp[qas,Nt.v]
    have g2:∀bb:Bool,((d++[(⟨name,l[i].name,l[i].ch.app,l[i].cid,0,l[i].said,bb⟩:Nt)]).length:Int)≤100000000:=fun bb=>by simp;omega
    by_cases h3:name∈tk
    ·simp only[h3,decide_true,Bool.not_true,Bool.false_and] at ih ⊢
     simp only[o235_0,TT,Nat.reduceEqDiff,↓reduceIte,qad,encN_len,Int.toNat_natCast,qaq l i hlt,Se.v,g,g0,h1,ne_eq,not_true_eq_false,e2,e3,h3,w,q2,g2,ih]
    ·simp only[h3,decide_false,Bool.not_false,Bool.true_and] at ih ⊢
     simp only[o235_0,TT,Nat.reduceEqDiff,↓reduceIte,qad,encN_len,Int.toNat_natCast,qaq l i hlt,Se.v,g,g0,h1,ne_eq,not_true_eq_false,e2,e3,h3,w,q2,g2,ih]
  ·rw[show qcZ name tk d l[i]=d by unfold qcZ;rw[if_neg (fun h=>h1 h.1)]] at ih ⊢
   simp only[o235_0,TT,Nat.reduceEqDiff,↓reduceIte,qad,Int.toNat_natCast,qaq l i hlt,Se.v,g,g0,h1,ne_eq,not_false_eq_true,w,ih]
theorem f_opened {l:List Se} {tk:List Int} {d:List Nt} (hl:l.length≤100) (ht:tk.length≤1000) (hd:d.length≤900) (name x1 x2 x3 x4:Int) (r0 r1 r2 r4 r5 r6 r7 r8 r10 r12 r13 r14:Rw) :
  fin trA 2824 [I name,I x1,I x2,I x3,I x4] [r0,r1,r2,qax l,r4,r5,r6,r7,r8,qak tk,r10,qas d,r12,r13,r14]=some (0,[],[qas (l.foldl (qcZ name tk) d)]):=by
 have e:=f_opened0 hl ht name x1 x2 x3 x4 r0 r1 r2 r4 r5 r6 r7 r8 r10 r12 r13 r14 l.length 0 d (by omega) (by omega)
 rw[show((0:Nat):Int)=0 from rfl,List.drop_zero] at e
 refine qaa trA ?_
 show o235.go _ _ _=_
 simp only[o235,TT,Nat.reduceEqDiff,↓reduceIte,e]
inductive SentM (a:Ar) (l:List Se) (dn:List Nt) (name:Int) (T:Tm') (sent:List Nt):List Nt→Prop where
 | same (h:∀N R,qaN T=some (76,[N,R])→qbU l N.num.1=none):SentM a l dn name T sent sent
 | note {N R:Tm'} {k:Nat} {b:Int} (hl:qaN T=some (76,[N,R])) (hk:k < l.length) (hs:qbU l N.num.1=some k) (hb:(qdB R=none∧b=-1)∨∃u,qdB R=some u∧Den a b u):SentM a l dn name T sent (sent++[noteR dn name l[k].ch.app b R])
theorem noteR_app (dn:List Nt) (l:List Nt) (name app body:Int) (R:Tm'):qas l++[[Value.int .i64 (noteR dn name app body R).name,Value.int .i64 (noteR dn name app body R).peer,Value.int .i64 (noteR dn name app body R).app,Value.int .i64 (noteR dn name app body R).epoch,Value.int .i64 (noteR dn name app body R).seq,Value.int .i64 (noteR dn name app body R).body,Value.bool (noteR dn name app body R).safe]]=qas (l++[noteR dn name app body R]):=by
 simp[qas,Nt.v]
theorem f_mails1 (x0 x1 x2 x3 x4:Int) (r0 r1 r2 r3 r4 r5 r6 r7 r8 r9 r10 r11 r12 r13 r14:Rw) (m:Rw):fin trA 2834 [I x0,I x1,I x2,I x3,I x4,I (m.length:Int)] [r0,r1,r2,r3,r4,r5,r6,r7,r8,r9,r10,r11,r12,r13,r14,m]=some (0,[],[r7,r8,r12]):=by
 refine qaa trA ?_
 show o236_0.go _ _ _=_
 have g:¬(m.length:Int) < (m.length:Int):=by omega
 simp only[o236_0,TT,Nat.reduceEqDiff,↓reduceIte,g]
theorem f_mails_no (x0 x1 x2 x3 x4:Int) (r0 r1 r2 r3 r4 r5 r6 r7 r8 r9 r10 r11 r12 r13 r14:Rw):fin trA 2835 [I x0,I x1,I x2,I x3,I x4] [r0,r1,r2,r3,r4,r5,r6,r7,r8,r9,r10,r11,r12,r13,r14,[]]=some (0,[],[r7,r8,r12]):=by
 have e:=f_mails1 x0 x1 x2 x3 x4 r0 r1 r2 r3 r4 r5 r6 r7 r8 r9 r10 r11 r12 r13 r14 []
 rw[show((([]:Rw).length:Nat):Int)=0 from rfl] at e
 refine qaa trA ?_
 show o236.go _ _ _=_
 simp only[o236,TT,Nat.reduceEqDiff,↓reduceIte,e]
theorem f_mails_one {a:Ar} (ha:AOk a) {l:List Se} (hl3:l.length≤100) {dn net sent:List Nt} {nt:List Mail_} {known:List Int} (hdn:dn.length≤1000) (hnt:nt.length≤1000) (hkn:known.length≤10000) (hse:sent.length≤10000) (name x1 x2 x3 x4 ad t:Int) {T:Tm'} (hk:Den a t T) (r1 r2 r4 r5 r6 r9 r10 r13 r14:Rw) :
  ∃sent',fin trA 2835 [I name,I x1,I x2,I x3,I x4] [qag a,r1,r2,qax l,r4,r5,r6,qbs nt,qak known,r9,r10,qas dn,qas sent,r13,r14,[[I ad,I t]]]=some (0,[],[qbs (qby nt ⟨99,ad,t⟩),qak (known++[t]),qas sent'])∧SentM a l dn name T sent sent':=by
 have v0:wr (0+1)=1:=by rw[qaj (by omega) (by omega)];rfl
 have v1:wr (1+0)=1:=by rw[qaj (by omega) (by omega)];rfl
 have v2:wr (1+1)=2:=by rw[qaj (by omega) (by omega)];rfl
 have es:=fun q12=>qfs hnt hkn name x1 x2 x3 x4 99 ad t hk.nonneg (qag a) r1 r2 (qax l) r4 r5 r6 r9 r10 (qas dn) q12 r13 r14
 have en:=fun q12=>f_mails1 name x1 x2 x3 x4 (qag a) r1 r2 (qax l) r4 r5 r6 (qbs (qby nt ⟨99,ad,t⟩)) (qak (known++[t])) r9 r10 (qas dn) q12 r13 r14 [[I ad,I t]]
 rw[show((([[I ad,I t]]:Rw).length:Nat):Int)=1 from rfl] at en
 rcases qbG ha hk with ⟨hT,e0⟩ | ⟨n,u,x,y,hn,hT,e0,d1⟩ | ⟨n,u,v,x,y,z,hn,hT,e0,d1,d2⟩
 ·refine⟨sent,qaa trA ?_,.same fun N R h=>by rw[hT] at h;cases h⟩
  show o236.go _ _ _=_
  have e1:fin trA 2834 [I name,I x1,I x2,I x3,I x4,I 0] [qag a,r1,r2,qax l,r4,r5,r6,qbs nt,qak known,r9,r10,qas dn,qas sent,r13,r14,[[I ad,I t]]]=some (0,[],[qbs (qby nt ⟨99,ad,t⟩),qak (known++[t]),qas sent]):=by
   refine qaa trA ?_
   show o236_0.go _ _ _=_
   simp only[o236_0,qac,TT,Nat.reduceEqDiff,↓reduceIte,TN,Nat.reduceAdd,Int.reduceLT,Int.reduceLE,Int.reduceToNat,e0,es,v0,en]
  simp only[o236,TT,Nat.reduceEqDiff,↓reduceIte,e1]
 ·refine⟨sent,qaa trA ?_,.same fun N R h=>by rw[hT] at h;cases h⟩
  show o236.go _ _ _=_
  have hn':¬n=76:=by omega
  have e1:fin trA 2834 [I name,I x1,I x2,I x3,I x4,I 0] [qag a,r1,r2,qax l,r4,r5,r6,qbs nt,qak known,r9,r10,qas dn,qas sent,r13,r14,[[I ad,I t]]]=some (0,[],[qbs (qby nt ⟨99,ad,t⟩),qak (known++[t]),qas sent]):=by
   refine qaa trA ?_
   show o236_0.go _ _ _=_
   simp only[o236_0,qac,TT,Nat.reduceEqDiff,↓reduceIte,TN,Nat.reduceAdd,Int.reduceLT,Int.reduceLE,Int.reduceToNat,e0,es,v0,en,hn']
  simp only[o236,TT,Nat.reduceEqDiff,↓reduceIte,e1]
 ·by_cases h76:n=76
  ·subst h76
   have e2:=qes ha d1
   have e3:=fun cid=>qdD hl3 cid name x1 x2 r4 r5 r6
   cases hs:qbU l u.num.1 with
   | none =>
    refine⟨sent,qaa trA ?_,.same fun N R h=>by rw[hT] at h;cases h;exact hs⟩
    show o236.go _ _ _=_
    have e1:fin trA 2834 [I name,I x1,I x2,I x3,I x4,I 0] [qag a,r1,r2,qax l,r4,r5,r6,qbs nt,qak known,r9,r10,qas dn,qas sent,r13,r14,[[I ad,I t]]]=some (0,[],[qbs (qby nt ⟨99,ad,t⟩),qak (known++[t]),qas sent]):=by
     refine qaa trA ?_
     show o236_0.go _ _ _=_
     simp only[o236_0,qac,TT,Nat.reduceEqDiff,↓reduceIte,TN,Nat.reduceAdd,Int.reduceLT,Int.reduceLE,Int.reduceToNat,Int.reduceToNat,e0,v1,e2,e3,hs,ixI,Int.reduceNeg,Int.reduceLE,es,v0,en]
    simp only[o236,TT,Nat.reduceEqDiff,↓reduceIte,e1]
   | some k =>
    obtain⟨hk2,_⟩:=qcD hs
    have g0:(0:Int)≤(k:Int):=by omega
    have g1:(k:Int) < (l.length:Int):=by omega
    have en4:=fun b=>qfE ha hdn name x1 x2 x3 x4 name l[k].ch.app b d2 r1 r2 (qax l) r4 r5 r6 (qbs nt) (qak known) r9 r10 (qas sent) r13 r14
    have fin1:∀b:Int,fin trA 2966 [I z] [qag a]=some (0,[I b],[])→fin trA 2835 [I name,I x1,I x2,I x3,I x4] [qag a,r1,r2,qax l,r4,r5,r6,qbs nt,qak known,r9,r10,qas dn,qas sent,r13,r14,[[I ad,I t]]]=some (0,[],[qbs (qby nt ⟨99,ad,t⟩),qak (known++[t]),qas (sent++[noteR dn name l[k].ch.app b v])]):=by
     intro b eb
     have g2:((sent++[noteR dn name l[k].ch.app b v]).length:Int)≤100000000:=by simp;omega
     have e1:fin trA 2834 [I name,I x1,I x2,I x3,I x4,I 0] [qag a,r1,r2,qax l,r4,r5,r6,qbs nt,qak known,r9,r10,qas dn,qas sent,r13,r14,[[I ad,I t]]]=some (0,[],[qbs (qby nt ⟨99,ad,t⟩),qak (known++[t]),qas (sent++[noteR dn name l[k].ch.app b v])]):=by
      refine qaa trA ?_
      show o236_0.go _ _ _=_
      simp only[o236_0,qac,TT,Nat.reduceEqDiff,↓reduceIte,TN,Nat.reduceAdd,Int.reduceLT,Int.reduceLE,Int.reduceToNat,Int.reduceToNat,e0,v1,v2,e2,e3,hs,ixI,g0,g1,qad,Int.toNat_natCast,qaq l k hk2,Se.v,eb,en4,Nt.v,noteR_app,encN_len,g2,es,v0,en]
     refine qaa trA ?_
     show o236.go _ _ _=_
     simp only[o236,TT,Nat.reduceEqDiff,↓reduceIte,e1]
    rcases f_sealed ha d2 with ⟨hs0,eb⟩ | ⟨w,b,hs1,eb,db⟩
    ·exact⟨_,fin1 _ eb,.note hT hk2 hs (.inl ⟨hs0,rfl⟩)⟩
    ·exact⟨_,fin1 _ eb,.note hT hk2 hs (.inr ⟨w,hs1,db⟩)⟩
  ·refine⟨sent,qaa trA ?_,.same fun N R h=>by rw[hT] at h;cases h;exact absurd rfl h76⟩
   show o236.go _ _ _=_
   have e1:fin trA 2834 [I name,I x1,I x2,I x3,I x4,I 0] [qag a,r1,r2,qax l,r4,r5,r6,qbs nt,qak known,r9,r10,qas dn,qas sent,r13,r14,[[I ad,I t]]]=some (0,[],[qbs (qby nt ⟨99,ad,t⟩),qak (known++[t]),qas sent]):=by
    refine qaa trA ?_
    show o236_0.go _ _ _=_
    simp only[o236_0,qac,TT,Nat.reduceEqDiff,↓reduceIte,TN,Nat.reduceAdd,Int.reduceLT,Int.reduceLE,Int.reduceToNat,e0,es,v0,en,h76]
   simp only[o236,TT,Nat.reduceEqDiff,↓reduceIte,e1]
inductive MailsR (a:Ar) (l:List Se) (dn:List Nt) (name:Int) (nt:List Mail_) (known:List Int) (sent:List Nt):Rw→List Mail_→List Int→List Nt→Prop where
 | none:MailsR a l dn name nt known sent [] nt known sent
 | one {ad t:Int} {T:Tm'} {sent':List Nt} (d:Den a t T) (s:SentM a l dn name T sent sent'):MailsR a l dn name nt known sent [[I ad,I t]] (qby nt ⟨99,ad,t⟩) (known++[t]) sent'
theorem f_mails {a:Ar} (ha:AOk a) {l:List Se} (hl3:l.length≤100) {dn sent:List Nt} {nt:List Mail_} {known:List Int} (hdn:dn.length≤1000) (hnt:nt.length≤1000) (hkn:known.length≤10000) (hse:sent.length≤10000) (name x1 x2 x3 x4:Int) {m:Rw} (hm:m=[]∨∃ad t T,m=[[I ad,I t]]∧Den a t T) (r1 r2 r4 r5 r6 r9 r10 r13 r14:Rw) :
  ∃nt' known' sent',fin trA 2835 [I name,I x1,I x2,I x3,I x4] [qag a,r1,r2,qax l,r4,r5,r6,qbs nt,qak known,r9,r10,qas dn,qas sent,r13,r14,m]=some (0,[],[qbs nt',qak known',qas sent'])∧MailsR a l dn name nt known sent m nt' known' sent':=by
 rcases hm with rfl | ⟨ad,t,T,rfl,d⟩
 ·exact⟨_,_,_,f_mails_no ..,.none⟩
 ·obtain⟨s',e,h⟩:=f_mails_one ha hl3 (net:=sent) hdn hnt hkn hse name x1 x2 x3 x4 ad t d r1 r2 r4 r5 r6 r9 r10 r13 r14
  exact⟨_,_,_,e,.one d h⟩
theorem MailsR.len {a:Ar} {l:List Se} {dn:List Nt} {name:Int} {nt nt':List Mail_} {known known':List Int} {sent sent':List Nt} {m:Rw} (h:MailsR a l dn name nt known sent m nt' known' sent') (hn:nt.length≤12):nt'.length≤12∧known'.length≤known.length+1∧sent'.length≤sent.length+1:=by
 cases h with
 | none=>exact⟨hn,by omega,by omega⟩
 | one d s =>
  refine⟨qfi _ _ hn,by simp,?_⟩
  cases s with
  | same=>omega
  | note=>simp
def qbE (l:List (Cl × ClG)):Rw:=l.map fun c=>c.1.v
theorem encC_len (l:List (Cl × ClG)):(qbE l).length=l.length:=List.length_map ..
theorem qaY (l:List (Cl × ClG)) (i:Nat) (h:i < l.length):(qbE l).getD i []=(l[i]).1.v:=by
 simp[qbE,List.getD_eq_getElem?_getD,List.getElem?_eq_getElem h]
structure Wd where
 a:Ar
 g:Gt
 now:Int
 draw:Int
 cs:List (Cl × ClG)
 ad:List Int
 net:List Mail_
 known:List Int
 taken:List Int
 begun:List Nt
 dn:List Nt
 sent:List Nt
 got:List Nt
 codes:List Int
def Wd.vs (w:Wd):List Value:=[I w.g.name,I w.g.next,I w.g.drops,I w.now,I w.draw]
def Wd.rs (w:Wd):List Rw:=[qag w.a,qbE w.cs,qak w.ad,qax w.g.l,qaI w.g.p,qaR w.g.w,qbb w.g.o,qbs w.net,qak w.known,qak w.taken,qas w.begun,qas w.dn,qas w.sent,qas w.got,qak w.codes]
theorem GH.mail {a a':Ar} {g g':Gt} {addr draw now body code:Int} {T:Tm'} {m:Rw} (hg:GtD a g) (had:0≤addr∧addr≤49) (h:GH a g addr T draw now a' g' m body code):m=[]∨∃ad t U,m=[[I ad,I t]]∧Den a' t U∧0≤ad∧(ad=addr∨∃s∈g.l,ad=s.addr):=by
 cases h with
 | none=>exact .inl rfl
 | @again n ps l kind j hj ad=>exact .inr ⟨_,_,_,rfl,(hg.sess _ (List.getElem_mem hj)).last,had.1,.inl rfl⟩
 | retry _ _ _ x d=>exact .inr ⟨_,_,_,rfl,d,had.1,.inl rfl⟩
 | new l hi pub yes few x d0 d1 d2 d3=>exact .inr ⟨_,_,_,rfl,d3,had.1,.inl rfl⟩
 | opened l hj ad st d0 right x free d1 d2 d3=>exact .inr ⟨_,_,_,rfl,d2,had.1,.inl rfl⟩
 | @record N R u j hj e s c' SN' SL' body ad d a' l' o' m l st c hd le op new hr db hd2 fw =>
  rcases fw with ⟨_,_,_,_,rfl⟩ | ⟨k,_,_,fw⟩
  ·exact .inl rfl
  ·cases fw with
   | drop=>exact .inl rfl
   | @to i hi a' t ok hops src st c x dd =>
    refine .inr ⟨_,_,_,rfl,dd,?_⟩
    have hi':i < g.l.length:=by simpa using hi
    have hh:=(List.getElem_modify (f:=fun s=>qcr s c' now ad SN' SL') (i:=j) (l:=g.l) (j:=i) (h:=hi))
    rw[hh]
    by_cases hij:j=i
    ·rw[if_pos hij]
     show 0≤ad∧_
     rcases hd2 with rfl | rfl
     ·exact⟨had.1,.inl rfl⟩
     ·exact⟨(hg.sess _ (List.getElem_mem hj)).addr.1,.inr ⟨_,List.getElem_mem hj,rfl⟩⟩
    ·rw[if_neg hij]
     exact⟨(hg.sess _ (List.getElem_mem hi')).addr.1,.inr ⟨_,List.getElem_mem hi',rfl⟩⟩
   | out=>exact .inl rfl
inductive GotG (g:Gt) (dn:List Nt) (T:Tm') (body:Int) (got:List Nt):List Nt→Prop where
 | no (h:body=-1):GotG g dn T body got got
 | yes {N R:Tm'} {k:Nat} (hb:0≤body) (l:qaN T=some (76,[N,R])) (hk:k < g.l.length) (hs:qbU g.l N.num.1=some k):GotG g dn T body got (got++[noteR dn g.name g.l[k].ch.app body R])
structure GateR (w:Wd) (src:Int) (T:Tm') (a':Ar) (g':Gt) (m:Rw) (body code:Int) (dn' got':List Nt) (net':List Mail_) (known':List Int) (sent':List Nt):Prop where
 gh:GH w.a w.g src T w.draw w.now a' g' m body code
 dn:dn'=g'.l.foldl (qcZ g'.name w.taken) w.dn
 got:GotG g' dn' T body w.got got'
 mails:MailsR a' g'.l dn' g'.name w.net w.known w.sent m net' known' sent'
theorem qcE (name:Int) (tk:List Int):∀(l:List Se) (d:List Nt),(l.foldl (qcZ name tk) d).length≤d.length+l.length
 | [],d=>by simp
 | s :: l,d=>by
  have:=qcE name tk l (qcZ name tk d s)
  have:=openN_len name tk d s
  rw[List.foldl_cons,List.length_cons]
  omega
theorem GH.body {a a':Ar} {g g':Gt} {addr draw now body code:Int} {T:Tm'} {m:Rw} {q:Nat} (ha:AOk a) (hg:GtD a g) (had:0≤addr∧addr≤49) (hq:∀s∈g.l,s.ch.seq≤q) (hq':q≤9998) (h:GH a g addr T draw now a' g' m body code) :
  body=-1∨(code=0∧0≤body∧∃N R,qaN T=some (76,[N,R])∧∃s∈g'.l,s.cid=N.num.1):=by
 cases h with
 | none=>exact .inl rfl
 | again=>exact .inl rfl
 | retry=>exact .inl rfl
 | new=>exact .inl rfl
 | opened=>exact .inl rfl
 | @record N R u j hj e s c' SN' SL' body ad d a' l' o' m l st c hd le op new hr db hd2 fw =>
  refine .inr ⟨rfl,db.nonneg,N,R,l,?_⟩
  have hm:l'.map Se.cid=g.l.map Se.cid:=by
   have h0:=qcp Se.cid (g:=fun s=>qcr s c' now ad SN' SL') (fun _=>rfl) g.l j
   rcases fw with ⟨_,_,rfl,_,_⟩ | ⟨k,_,_,fw⟩
   ·exact h0
   ·cases fw with
    | drop=>exact h0
    | to=>exact(qcp Se.cid (g:=fun s=>{ s with ch:={ s.ch with seq:=s.ch.seq+1 } }) (fun _=>rfl) _ _).trans h0
    | out=>exact h0
  have:N.num.1∈l'.map Se.cid:=by rw[hm,←c];exact List.mem_map_of_mem (List.getElem_mem hj)
  obtain⟨s,hs,he⟩:=List.mem_map.1 this
  exact⟨s,hs,he⟩
theorem sessAt_ex {l:List Se} {cid:Int} (h:∃s∈l,s.cid=cid):∃k,qbU l cid=some k∧k < l.length:=by
 cases hs:qbU l cid with
 | none =>
  obtain⟨s,h1,h2⟩:=h
  exact absurd h2 (qeE hs s h1)
 | some k =>
  obtain⟨h1,_⟩:=qcD hs
  exact⟨k,rfl,h1⟩
theorem f_gate18 {w:Wd} (ha:AOk w.a) (hg:GtD w.a w.g) {src to t:Int} {T:Tm'} (hk:Den w.a t T) (had:0≤src∧src≤49) (hd:1000≤w.draw∧w.draw≤900000) (hl:w.a.length+65≤3000) {q:Nat} (hn:w.g.next≤9997) (hq:∀s∈w.g.l,s.ch.seq≤q) (hq':q≤9998)
  (b1:w.dn.length≤800) (b2:w.net.length≤1000) (b3:w.known.length≤10000) (b4:w.sent.length≤10000) (b5:w.got.length≤10000) (b6:w.taken.length≤1000) :
  ∃a' g' m body code dn' got' net' known' sent',fin trA 2630 (w.vs++[I src,I to,I t]) w.rs=some (0,[I g'.next,I g'.drops,I code],[qag a',qax g'.l,qaI g'.p,qbb g'.o,qbs net',qak known',qas dn',qas sent',qas got'])∧GateR w src T a' g' m body code dn' got' net' known' sent':=by
 obtain⟨a',g',m,body,code,e1,h⟩:=f_gHear (now:=w.now) ha hg hk had hd hl
 obtain⟨hg',_,hq2,hnm,hw'⟩:=h.ok ha hg had hn hq hq'
 have ha':=(h.ext ha).ok
 have few:=hg'.few
 have hlen:=qcE g'.name w.taken g'.l w.dn
 have e2:=f_opened (l:=g'.l) (tk:=w.taken) (d:=w.dn) (by omega) b6 (by omega) w.g.name g'.next g'.drops w.now w.draw (qag a') (qbE w.cs) (qak w.ad) (qaI g'.p) (qaR w.g.w) (qbb g'.o) (qbs w.net) (qak w.known) (qas w.begun) (qas w.sent) (qas w.got) (qak w.codes)
 rw[←hnm] at e1 e2
 have hm:m=[]∨∃ad t T,m=[[I ad,I t]]∧Den a' t T:=by
  rcases h.mail hg had with h | ⟨ad,t,U,h1,h2,_⟩
  ·exact .inl h
  ·exact .inr ⟨ad,t,U,h1,h2⟩
 obtain⟨nt',kn',se',e3,hM⟩:=f_mails ha' (l:=g'.l) (by omega) (dn:=g'.l.foldl (qcZ g'.name w.taken) w.dn) (sent:=w.sent) (nt:=w.net) (known:=w.known) (by omega) b2 b3 b4 g'.name g'.next g'.drops w.now w.draw hm (qbE w.cs) (qak w.ad) (qaI g'.p) (qaR w.g.w) (qbb g'.o) (qak w.taken) (qas w.begun) (qas w.got) (qak w.codes)
 rcases h.body ha hg had hq hq' with hb | ⟨rfl,hb,N,R,hT,hs⟩
 ·refine⟨a',g',m,body,code,_,w.got,nt',kn',se',qaa trA ?_,h,rfl,.no hb,hM⟩
  have nb:¬(0:Int)≤-1:=by omega
  rw[hb] at e1
  rcases qbG ha hk with ⟨hT,e0⟩ | ⟨n,u,x,y,hn,hT,e0,d1⟩ | ⟨n,u,v,x,y,z,hn,hT,e0,d1,d2⟩ <;>
  ·by_cases hc:code=0
   ·rw[hc] at e1 ⊢
    show o219.go _ _ _=_
    simp only[Wd.vs,Wd.rs,o219,qac,TT,Nat.reduceEqDiff,↓reduceIte,e0,e1,←hnm,e2,e3,nb]
   ·show o219.go _ _ _=_
    simp only[Wd.vs,Wd.rs,o219,qac,TT,Nat.reduceEqDiff,↓reduceIte,e0,e1,hc,←hnm,e2,e3]
 ·rcases qbG ha hk with ⟨hT',e0⟩ | ⟨n,u,x,y,hn,hT',e0,d1⟩ | ⟨n,u,v,x,y,z,hn,hT',e0,d1,d2⟩
  ·rw[hT] at hT';cases hT'
  ·rw[hT] at hT';cases hT'
  ·rw[hT] at hT'
   cases hT'
   obtain⟨k,hk1,hk2⟩:=sessAt_ex hs
   have v0:wr (1+0)=1:=by rw[qaj (by omega) (by omega)];rfl
   have v1:wr (1+1)=2:=by rw[qaj (by omega) (by omega)];rfl
   have hx:=(h.ext ha).pre
   have e4:=qes ha' (d1.mono hx)
   have e5:=qdD (l:=g'.l) (by omega) N.num.1 g'.name g'.next g'.drops (qaI g'.p) (qaR w.g.w) (qbb g'.o)
   rw[hk1] at e5
   have g0:(0:Int)≤(k:Int):=by omega
   have g1:(k:Int) < (g'.l.length:Int):=by omega
   have e6:=qfE ha' (l:=g'.l.foldl (qcZ g'.name w.taken) w.dn) (by omega) g'.name g'.next g'.drops w.now w.draw g'.name g'.l[k].ch.app body (d2.mono hx) (qbE w.cs) (qak w.ad) (qax g'.l) (qaI g'.p) (qaR w.g.w) (qbb g'.o) (qbs w.net) (qak w.known) (qak w.taken) (qas w.begun) (qas w.sent) (qas w.got) (qak w.codes)
   have g2:((w.got++[noteR (g'.l.foldl (qcZ g'.name w.taken) w.dn) g'.name g'.l[k].ch.app body R]).length:Int)≤100000000:=by simp;omega
   obtain⟨nt',kn',se',e3,hM⟩:=f_mails ha' (l:=g'.l) (by omega) (dn:=g'.l.foldl (qcZ g'.name w.taken) w.dn) (sent:=w.sent) (nt:=w.net) (known:=w.known) (by omega) b2 b3 b4 g'.name g'.next g'.drops w.now w.draw hm (qbE w.cs) (qak w.ad) (qaI g'.p) (qaR w.g.w) (qbb g'.o) (qak w.taken) (qas w.begun) (qas (w.got++[noteR (g'.l.foldl (qcZ g'.name w.taken) w.dn) g'.name g'.l[k].ch.app body R])) (qak w.codes)
   refine⟨a',g',m,body,0,_,_,nt',kn',se',qaa trA ?_,h,rfl,.yes hb hT hk2 hk1,hM⟩
   show o219.go _ _ _=_
   simp only[Wd.vs,Wd.rs,o219,qac,TT,Nat.reduceEqDiff,↓reduceIte,TN,Nat.reduceAdd,Int.reduceLT,Int.reduceLE,Int.reduceToNat,Int.reduceToNat,e0,e1,←hnm,e2,hb,v0,v1,e4,e5,ixI,g0,g1,qad,Int.toNat_natCast,qaq g'.l k hk2,Se.v,e6,Nt.v,noteR_app,encN_len,g2,e3]
end Go.Proofs.YtipomcnbjlfekaaGreat.Rs
