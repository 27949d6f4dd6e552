import Derived.Test.YtipomcnbjlfekaaGreatWb
/- Parts of the proof, merged by a program. -/
namespace Go.Proofs.YtipomcnbjlfekaaGreat.Rs
set_option maxRecDepth 100000
set_option linter.all false
open Go.RowKit
def gbOf (s:Sum) (m:Mt) (c:Nat):Option (Nat × Nat):=bif Nat.blt c s.bl.length then m.b.get c else some (m.H.next+(c - s.bl.length),0)
def notSy (s:Sum) (c:Nat):Bool:=!(qgS (s.bl[c]?))
def iC (s:Sum) (m:Mt):AC→Option AC
 | .v x=>some (.v x)
 | .t k te=>some (.t k (sT (qfa s m) (qeF s m) te))
 | .p c o=>match gbOf s m c with
  | some (b,p)=>bif notSy s c then some (.p b (p+o)) else some (.p b o)
  | none=>none
 | .pe c i j=>match gbOf s m c with
  | some (b,_)=>bif !(qcb (s.bl[c]?)) then some (.pe b (sT (qfa s m) (qeF s m) i) j) else none
  | none=>none
 | .sl c i n=>match gbOf s m c with
  | some (b,_)=>bif !(qcb (s.bl[c]?)) then some (.sl b i n) else none
  | none=>none
 | .sr c=>match gbOf s m c with
  | some (b,_)=>bif !(qcb (s.bl[c]?)) then some (.sr b) else none
  | none=>none
 | .ss c i n=>match gbOf s m c with
  | some (b,_)=>bif !(qcb (s.bl[c]?)) then some (.ss b (sT (qfa s m) (qeF s m) i) (sT (qfa s m) (qeF s m) n)) else none
  | none=>none
 | .em=>some .em
def iL (s:Sum) (m:Mt):List AC→Option (List AC)
 | []=>some []
 | x :: xs=>match iC s m x,iL s m xs with
  | some y,some ys=>some (y :: ys)
  | _,_=>none
def iTr (s:Sum) (m:Mt):Tr (List AC)→Option (Tr (List AC))
 | .e=>some .e
 | .n v l r=>match (match v with | none=>some none | some xs=>(iL s m xs).map some),iTr s m l,iTr s m r with
  | some v',some l',some r'=>some (.n v' l' r')
  | _,_,_=>none
def iB (s:Sum) (m:Mt):Bl→Option Bl
 | .rows t z n es=>(iTr s m es).map fun es=>.rows t z n es
 | .sy true t ks rt=>some (.sy true t ks (sR (qfa s m) (qeF s m) rt))
 | .sy false _ _ _=>none
def iV (s:Sum) (m:Mt):AV→Option AV
 | .c x=>(iC s m x).map .c
 | .ag xs=>(iL s m xs).map .ag
def iVs (s:Sum) (m:Mt):List AV→Option (List AV)
 | []=>some []
 | x :: xs=>match iV s m x,iVs s m xs with
  | some y,some ys=>some (y :: ys)
  | _,_=>none
def iS (s:Sum) (m:Mt):SV→Option SV
 | .o x=>(iV s m x).map .o
 | .tu xs=>(iVs s m xs).map .tu
def iSs (s:Sum) (m:Mt):List SV→Option (List SV)
 | []=>some []
 | x :: xs=>match iS s m x,iSs s m xs with
  | some y,some ys=>some (y :: ys)
  | _,_=>none
def old1 (s:Sum) (al:Alt) (m:Mt) (bs:Tr Bl) (c:Nat):Option (Tr Bl) :=
 match s.bl[c]?,m.b.get c,al.bl[c]? with
 | some (.rows _ z _ _),some (b,o),some (some (.rows _ z' 1 es1)) =>
  match bs.get b,es1.get 0 with
  | some (.rows tb zb 1 es),some ps =>
   match es.get 0,iL s m ps with
   | some xs,some ys=>bif Nat.beq z z'&&Nat.beq ys.length z&&Nat.ble (o+z) zb&&Nat.beq xs.length zb then some (bs.put b (some (.rows tb zb 1 (es.put 0 (some (xs.take o++(ys++xs.drop (o+z)))))))) else none
   | _,_=>none
  | _,_=>none
 | some (.sy true _ _ _),some (b,_),some none=>some (bs.put b none)
 | some (.sy true t0 _ _),some (b,_),some (some (.sy true t ks rt))=>bif Nat.beq t0 t then some (bs.put b (some (.sy true t ks (sR (qfa s m) (qeF s m) rt)))) else none
 | some (.sy false _ _ _),_,_=>some bs
 | _,_,_=>none
def olds (s:Sum) (al:Alt) (m:Mt):Nat→Nat→Tr Bl→Option (Tr Bl)
 | 0,_,bs=>some bs
 | n+1,c,bs=>match old1 s al m bs c with
  | some bs'=>olds s al m n (c+1) bs'
  | none=>none
def news (s:Sum) (m:Mt):List (Option Bl)→Nat→Tr Bl→Option (Tr Bl)
 | [],_,bs=>some bs
 | none :: xs,i,bs=>news s m xs (i+1) (bs.put i none)
 | some x :: xs,i,bs=>match iB s m x with
  | some y=>news s m xs (i+1) (bs.put i (some y))
  | none=>none
def after (s:Sum) (al:Alt) (m:Mt):Option Hp :=
 bif Nat.ble s.bl.length al.bl.length then
  match olds s al m s.bl.length 0 m.H.bs with
  | some bs=>match news s m (al.bl.drop s.bl.length) m.H.next bs with
   | some bs'=>some ⟨m.H.next+(al.bl.length - s.bl.length),bs',m.H.n+al.mv,m.H.m+al.mr⟩
   | none=>none
  | none=>none
 else none
def newV (q:Qn) (nv mv:Nat):List Value:=(List.range mv).map fun i=>q.S.v (nv+i)
def newR (q:Qn) (nr mr:Nat):List Rw:=(List.range mr).map fun i=>q.S.r (nr+i)
theorem qew (q:Qn) (nv mv:Nat):(newV q nv mv).length=mv:=by simp[newV]
theorem qet (q:Qn) (nr mr:Nat):(newR q nr mr).length=mr:=by simp[newR]
theorem newV_get (q:Qn) (nv mv i:Nat) (h:i < mv):(newV q nv mv).getD i undef=q.S.v (nv+i):=by simp[newV,h]
theorem newR_get (q:Qn) (nr mr i:Nat) (h:i < mr):(newR q nr mr).getD i []=q.S.r (nr+i):=by simp[newR,h]
def e2Of (s:Sum) (al:Alt) (m:Mt) (E E1:Env):Env :=
 ⟨fun b=>if b < m.H.next then E b else if b < m.H.next+(al.bl.length - s.bl.length) then E1 (b - m.H.next+s.bl.length) else none,E.q.ext (newV E1.q s.nv al.mv) (newR E1.q s.nr al.mr)⟩
section
variable {C:Cfg} {fr:Fr} {E E1:Env} {w0:Ws} {w w':World} {s:Sum} {al:Alt} {m:Mt} {as:List SV}
structure Back (fr:Fr) (w0:Ws) (w w':World) (s:Sum) (al:Alt) (m:Mt) (E E1:Env) (as:List SV):Prop where
 fits:Fits s as m
 hH:RelH fr w0 E m.H w
 le:(qcF s m E).le E1
 nq:E1.q.n=s.nv+al.mv∧E1.q.m=s.nr+al.mr
 h1:RelH (frOf fr s m E w) (wsOf w0 s m E w) E1 (s.H1 al) w'
theorem Back.has (h:Back fr w0 w w' s al m E E1 as) {S:Sy} (hS:(e2Of s al m E E1).q.has S):E1.q.has (syOf (qfa s m) (qeF s m) S):=by
 have hE:E.q.has S:=(Qn.le_ext E.q _ _).sub hS
 refine⟨fun i hi=>?_,fun j hj=>?_⟩
 ·by_cases hn:i < s.nv
  ·show(qfa s m i).ev S=_
   rw[e0_v h.fits h.hH hn hE]
   exact(h.le.2.2.2.1 i hn).symm
  ·have e:qfa s m i=.s (i - s.nv+m.H.n):=by
    unfold qfa
    rw[show Nat.blt i s.nv=false by cases hb:Nat.blt i s.nv with | false=>rfl | true=>exact absurd (by simpa using hb) hn]
    rfl
   show(qfa s m i).ev S=_
   rw[e]
   have hlt:i - s.nv < al.mv:=by have:=h.nq.1;omega
   have:=hS.1 (i - s.nv+m.H.n) (by show _ < E.q.n+(newV E1.q s.nv al.mv).length;rw[qew,h.hH.cnt.1];omega)
   simp only[Te.ev]
   rw[this]
   show(if _ < E.q.n then _ else _)=_
   rw[if_neg (by rw[h.hH.cnt.1];omega),show i - s.nv+m.H.n - E.q.n=i - s.nv by rw[h.hH.cnt.1];omega,newV_get _ _ _ _ hlt]
   congr 1
   omega
 ·by_cases hn:j < s.nr
  ·show(qeF s m j).ev S=_
   rw[e0_r h.fits h.hH hn hE]
   exact(h.le.2.2.2.2 j hn).symm
  ·have e:qeF s m j=.s (j - s.nr+m.H.m):=by
    unfold qeF
    rw[show Nat.blt j s.nr=false by cases hb:Nat.blt j s.nr with | false=>rfl | true=>exact absurd (by simpa using hb) hn]
    rfl
   show(qeF s m j).ev S=_
   rw[e]
   have hlt:j - s.nr < al.mr:=by have:=h.nq.2;omega
   have:=hS.2 (j - s.nr+m.H.m) (by show _ < E.q.m+(newR E1.q s.nr al.mr).length;rw[qet,h.hH.cnt.2];omega)
   simp only[RT.ev]
   rw[this]
   show(if _ < E.q.m then _ else _)=_
   rw[if_neg (by rw[h.hH.cnt.2];omega),show j - s.nr+m.H.m - E.q.m=j - s.nr by rw[h.hH.cnt.2];omega,newR_get _ _ _ _ hlt]
   congr 1
   omega
theorem Back.leE (h:Back fr w0 w w' s al m E E1 as):E.le (e2Of s al m E E1):=by
 refine⟨fun b r e=>?_,Qn.le_ext _ _ _⟩
 show(if b < m.H.next then E b else _)=some r
 by_cases hb:b < m.H.next
 ·rw[if_pos hb];exact e
 ·rw[h.hH.fresh b (by omega)] at e;cases e
theorem rg_def (hf:Fits s as m) (hH:RelH fr w0 E m.H w) {c:Nat} (hc:c < s.bl.length):∃r0,qcN s m E c=some r0:=by
 have hv:=hf.blks c hc
 unfold vB at hv
 split at hv
 ·rename_i z es0 b o hc' hb
  split at hv
  ·rename_i tb zb es ps hbs hps
   obtain⟨_,r,g,arr,hE,_⟩:=hH.blk _ _ hbs
   exact⟨⟨r.own,r.lo+o,1,z,r.t,false,undef⟩,by simp only[qcN,hc',hb,hE,Option.map_some]⟩
  ·cases hv
 ·rename_i own t ks j b o hc' hb
  split at hv
  ·rename_i own' t' ks' rt rt' hbs hr
   obtain⟨_,r,L,hE,_⟩:=hH.blk _ _ hbs
   exact⟨r,by simp only[qcN,hc',hb,hE]⟩
  ·cases hv
 ·cases hv
theorem Back.rg (h:Back fr w0 w w' s al m E E1 as) {c b p:Nat} (hg:gbOf s m c=some (b,p)) {r1:Rg} (he:E1 c=some r1) (hlt:c < al.bl.length) :
  (c < s.bl.length∧m.b.get c=some (b,p)∧qcN s m E c=some r1∧∃r,(e2Of s al m E E1) b=some r∧E b=some r∧((qcb (s.bl[c]?)=true∧r1.own=r.own∧r1.lo=r.lo+p∧r1.whole=false)∨(qgS (s.bl[c]?)=true∧r1=r))) ∨
  (s.bl.length≤c∧p=0∧b=m.H.next+(c - s.bl.length)∧(e2Of s al m E E1) b=some r1):=by
 unfold gbOf at hg
 cases hc:Nat.blt c s.bl.length with
 | true =>
  rw[hc,cond_true] at hg
  have hc:c < s.bl.length:=by simpa using hc
  obtain⟨r0,h0⟩:=rg_def h.fits h.hH hc
  have:=h.le.1 c r0 h0
  rw[he] at this;cases this
  obtain⟨b',o',r,bl,_,hb,hE,hbs,hor⟩:=qeu h.fits h0
  rw[hg] at hb;cases hb
  refine .inl ⟨hc,hg,h0,r,h.leE.1 _ _ hE,hE,?_⟩
  rcases hor with ⟨t,z,n,es,tb,zb,es',hs,_,_,rfl⟩ | ⟨_,_,_,_,_,_,_,_,hs,_,rfl⟩
  ·exact .inl ⟨by rw[hs];rfl,rfl,rfl,rfl⟩
  ·exact .inr ⟨by rw[hs];rfl,rfl⟩
 | false =>
  rw[hc,cond_false] at hg
  cases hg
  have hc:s.bl.length≤c:=by
   rcases Nat.lt_or_ge c s.bl.length with hh | hh
   ·rw[show Nat.blt c s.bl.length=true by simpa using hh] at hc;cases hc
   ·exact hh
  refine .inr ⟨hc,rfl,rfl,?_⟩
  show(if _ < m.H.next then _ else if _ then E1 _ else none)=_
  rw[if_neg (by omega),if_pos (by omega),←he]
  show E1.rg _=E1.rg _
  congr 1
  omega
theorem Back.lt (h:Back fr w0 w w' s al m E E1 as) {c:Nat} {r1:Rg} (he:E1 c=some r1):c < al.bl.length:=by
 rcases Nat.lt_or_ge c al.bl.length with hh | hh
 ·exact hh
 ·rw[h.h1.fresh c (by simpa [Sum.H1,hpOf] using hh)] at he;cases he
theorem not_rows {x:Option Bl} (h:qgS x=true):qcb x=false:=by
 obtain⟨_,_,_,_,rfl⟩:=qfS h
 rfl
theorem Back.cell (h:Back fr w0 w w' s al m E E1 as) {x y:AC} (hi:iC s m x=some y) {u:Value} (hu:RelC E1 x u):RelC (e2Of s al m E E1) y u:=by
 cases x with
 | v x=>cases hi;exact hu
 | t k te =>
  cases hi
  exact⟨hu.1,fun S hS=>by rw[qcm];exact hu.2 _ (h.has hS)⟩
 | p c o =>
  simp only[iC] at hi
  split at hi
  ·rename_i b p hg
   cases hn:notSy s c with
   | false =>
    rw[hn,cond_false] at hi
    cases hi
    obtain⟨r1,g,he,hown,rfl⟩:=hu
    have hs:qgS (s.bl[c]?)=true:=by simpa [notSy] using hn
    rcases h.rg hg he (h.lt he) with ⟨_,_,_,r,h2,_,⟨k4,_⟩ | ⟨_,rfl⟩⟩ | ⟨_,_,_,h2⟩
    ·rw[not_rows hs] at k4;cases k4
    ·exact⟨r1,g,h2,hown,rfl⟩
    ·exact⟨r1,g,h2,hown,rfl⟩
   | true =>
    rw[hn,cond_true] at hi
    cases hi
    obtain⟨r1,g,he,hown,rfl⟩:=hu
    rcases h.rg hg he (h.lt he) with ⟨_,_,_,r,h2,_,⟨_,k1,k2,_⟩ | ⟨k1,_⟩⟩ | ⟨_,rfl,_,h2⟩
    ·exact⟨r,g,h2,by rw[←k1];exact hown,by rw[k2,Nat.add_assoc]⟩
    ·unfold notSy at hn;rw[k1] at hn;cases hn
    ·exact⟨r1,g,h2,hown,by rw[Nat.zero_add]⟩
  ·cases hi
 | pe c i j =>
  simp only[iC] at hi
  split at hi
  ·rename_i b p hg
   cases hn:qcb (s.bl[c]?) with
   | true=>rw[hn] at hi;cases hi
   | false =>
    rw[hn] at hi
    cases hi
    obtain⟨r1,g,o,n,cc,k,he,k1,k2,k3,rfl⟩:=hu
    have hev:∀S,(e2Of s al m E E1).q.has S→qcy ((sT (qfa s m) (qeF s m) i).ev S)=k:=fun S hS=>by rw[qcm];exact k3 _ (h.has hS)
    rcases h.rg hg he (h.lt he) with ⟨_,_,_,r,h2,_,⟨k4,_⟩ | ⟨_,rfl⟩⟩ | ⟨_,_,_,h2⟩
    ·rw[hn] at k4;cases k4
    ·exact⟨r1,g,o,n,cc,k,h2,k1,k2,hev,rfl⟩
    ·exact⟨r1,g,o,n,cc,k,h2,k1,k2,hev,rfl⟩
  ·cases hi
 | sl c i n =>
  simp only[iC] at hi
  split at hi
  ·rename_i b p hg
   cases hn:qcb (s.bl[c]?) with
   | true=>rw[hn] at hi;cases hi
   | false =>
    rw[hn] at hi
    cases hi
    obtain⟨r1,g,he,k1,k2,k3,rfl⟩:=hu
    rcases h.rg hg he (h.lt he) with ⟨_,_,_,r,h2,_,⟨k4,_⟩ | ⟨_,rfl⟩⟩ | ⟨_,_,_,h2⟩
    ·rw[hn] at k4;cases k4
    ·exact⟨r1,g,h2,k1,k2,k3,rfl⟩
    ·exact⟨r1,g,h2,k1,k2,k3,rfl⟩
  ·cases hi
 | sr c =>
  simp only[iC] at hi
  split at hi
  ·rename_i b p hg
   cases hn:qcb (s.bl[c]?) with
   | true=>rw[hn] at hi;cases hi
   | false =>
    rw[hn] at hi
    cases hi
    obtain⟨r1,he,rfl,k1⟩:=hu
    rcases h.rg hg he (h.lt he) with ⟨_,_,_,r,h2,_,⟨k4,_⟩ | ⟨_,rfl⟩⟩ | ⟨_,_,_,h2⟩
    ·rw[hn] at k4;cases k4
    ·exact⟨r1,h2,rfl,k1⟩
    ·exact⟨r1,h2,rfl,k1⟩
  ·cases hi
 | ss c i n =>
  simp only[iC] at hi
  split at hi
  ·rename_i b p hg
   cases hn:qcb (s.bl[c]?) with
   | true=>rw[hn] at hi;cases hi
   | false =>
    rw[hn] at hi
    cases hi
    obtain⟨r1,a,N,cc,k,mm,he,k1,k2,k3,k4⟩:=hu
    have hev:∀S,(e2Of s al m E E1).q.has S→(sT (qfa s m) (qeF s m) i).ev S=.int .i64 (k:Int)∧(sT (qfa s m) (qeF s m) n).ev S=.int .i64 (mm:Int):=fun S hS=>by rw[qcm,qcm];exact k3 _ (h.has hS)
    rcases h.rg hg he (h.lt he) with ⟨_,_,_,r,h2,_,⟨k5,_⟩ | ⟨_,rfl⟩⟩ | ⟨_,_,_,h2⟩
    ·rw[hn] at k5;cases k5
    ·exact⟨r1,a,N,cc,k,mm,h2,k1,k2,hev,k4⟩
    ·exact⟨r1,a,N,cc,k,mm,h2,k1,k2,hev,k4⟩
  ·cases hi
 | em=>cases hi;exact hu
theorem Back.cells (h:Back fr w0 w w' s al m E E1 as):∀{xs ys:List AC} {us:List Value},iL s m xs=some ys→RelL E1 xs us→RelL (e2Of s al m E E1) ys us
 | [],ys,us,hi,hr=>by
  cases hi
  have:us=[]:=List.eq_nil_of_length_eq_zero (by rw[←hr.1];rfl)
  subst this
  exact RelL.nil
 | x :: xs,ys,us,hi,hr=>by
  simp only[iL] at hi
  split at hi
  ·rename_i y ys' hy hys
   cases hi
   cases us with
   | nil=>exact absurd hr.1 (by simp)
   | cons u us=>exact RelL.cons (h.cell hy (hr.2 0 x u rfl rfl)) (h.cells hys ⟨by simpa using hr.1,fun j z v hz hv=>hr.2 (j+1) z v (by simpa using hz) (by simpa using hv)⟩)
  ·cases hi
theorem iTr_get:∀{t t':Tr (List AC)} {i:Nat} {xs:List AC},iTr s m t=some t'→t.get i=some xs→∃ys,iL s m xs=some ys∧t'.get i=some ys
 | .e,_,i,xs,h,k=>by simp[Tr.get] at k
 | .n v l r,t',i,xs,h,k=>by
  simp only[iTr] at h
  split at h
  ·rename_i v' l' r' hv hl hr
   cases h
   simp only[Tr.get,qaz,qau] at k ⊢
   split at k
   ·rename_i h0
    rw[if_pos h0]
    subst k
    simp only[Option.map_eq_some_iff] at hv
    obtain⟨ys,h1,h2⟩:=hv
    exact⟨ys,h1,h2.symm⟩
   ·rename_i h0
    rw[if_neg h0]
    split at k
    ·rename_i h1
     rw[if_pos h1]
     exact iTr_get hl k
    ·rename_i h1
     rw[if_neg h1]
     exact iTr_get hr k
  ·cases h
theorem Back.val (h:Back fr w0 w w' s al m E E1 as) {x y:AV} (hi:iV s m x=some y) {u:Value} (hu:RelV E1 x u):RelV (e2Of s al m E E1) y u:=by
 cases x with
 | c x =>
  simp only[iV,Option.map_eq_some_iff] at hi
  obtain⟨z,hz,rfl⟩:=hi
  exact h.cell hz hu
 | ag xs =>
  simp only[iV,Option.map_eq_some_iff] at hi
  obtain⟨z,hz,rfl⟩:=hi
  obtain⟨arr,e,hr⟩:=hu
  exact⟨arr,e,h.cells hz hr⟩
theorem iVs_get:∀{xs ys:List AV},iVs s m xs=some ys→xs.length=ys.length∧∀(j:Nat) y,ys[j]?=some y→∃x,xs[j]?=some x∧iV s m x=some y
 | [],_,h=>by cases h;exact⟨rfl,fun j y h=>by simp at h⟩
 | x :: xs,ys,h=>by
  simp only[iVs] at h
  split at h
  ·rename_i y ys' hy hys
   cases h
   obtain⟨h1,h2⟩:=iVs_get hys
   refine⟨by simp[h1],fun j z hz=>?_⟩
   cases j with
   | zero=>simp at hz;subst hz;exact⟨x,rfl,hy⟩
   | succ j=>simpa using h2 j z (by simpa using hz)
  ·cases h
theorem Back.sval (h:Back fr w0 w w' s al m E E1 as) {x y:SV} (hi:iS s m x=some y) {u:Value} (hu:RelS E1 x u):RelS (e2Of s al m E E1) y u:=by
 cases x with
 | o x =>
  simp only[iS,Option.map_eq_some_iff] at hi
  obtain⟨z,hz,rfl⟩:=hi
  exact h.val hz hu
 | tu xs =>
  simp only[iS,Option.map_eq_some_iff] at hi
  obtain⟨z,hz,rfl⟩:=hi
  obtain⟨arr,e,hl,hr⟩:=hu
  obtain⟨k1,k2⟩:=iVs_get hz
  refine⟨arr,e,by rw[←k1];exact hl,fun j y v hy hv=>?_⟩
  obtain⟨x,hx,hi⟩:=k2 j y hy
  exact h.val hi (hr j x v hx hv)
end
def bndS (s:Sum) (m:Mt) (c b:Nat):Prop:=∃t ks rt o,s.bl[c]?=some (.sy true t ks rt)∧m.b.get c=some (b,o)
def segS (s:Sum) (m:Mt) (c b p:Nat):Prop:=∃t z n es o,s.bl[c]?=some (.rows t z n es)∧m.b.get c=some (b,o)∧o≤p∧p < o+z
section
variable {C:Cfg} {fr:Fr} {E E1:Env} {w0:Ws} {w w':World} {s:Sum} {al:Alt} {m:Mt} {as:List SV}
def JB (fr:Fr) (s:Sum) (m:Mt) (E E2:Env) (w':World) (k b:Nat):Bl→Prop
 | .rows t z n es=>∃r g arr,E b=some r∧r.own=some g∧r.z=z∧w'.heap[g]?=some (.cells arr r.t (0,0))∧(r.whole=true→r.lo=0∧arr.size=r.cap*z)∧r.lo+r.cap*z≤arr.size∧(r.whole=true∨0 < r.cap*z)∧n≤r.cap∧r.cap≤maxLen∧(∀t',t=some t'→r.whole=true∧r.t=t') ∧
   ∀i,i < n→∃xs,es.get i=some xs∧xs.length=z∧∀p x u,xs[p]?=some x→((arr.toList.drop (r.lo+i*z)).take z)[p]?=some u→(i=0∧∃c,k≤c∧segS s m c b p)∨RelC E2 x u
 | .sy own t ks rt=>(∃c,k≤c∧bndS s m c b)∨RelB fr E2 w' b (.sy own t ks rt)
def JH (fr:Fr) (s:Sum) (al:Alt) (m:Mt) (E E2:Env) (w':World) (k:Nat) (bs:Tr Bl):Prop:=∀b bl,bs.get b=some bl→(∃bl0,m.H.bs.get b=some bl0∧(Mk bl0→Mk bl))∧JB fr s m E E2 w' k b bl∧∀c,c < k→bndS s m c b→∃x,al.bl[c]?=some (some x)
theorem Back.inB (h:Back fr w0 w w' s al m E E1 as) {b:Nat} {bl:Bl} {r:Rg} (hb:m.H.bs.get b=some bl) (hE:E b=some r) {g o:Nat} (ho:r.has g o):frOf fr s m E w g o∨∃c r0 p,qcN s m E c=some r0∧r0.has g o∧m.b.get c=some (b,p):=by
 by_cases hx:∃c r0,qcN s m E c=some r0∧r0.has g o
 ·obtain⟨c,r0,hc,h0⟩:=hx
  obtain⟨b',p,q,bb,hb',hE',hbs',hq⟩:=qeN h.fits h.hH hc h0
  have:=h.hH.apart b b' bl bb r q g o hb hbs' hE hE' ho hq
  subst this
  exact .inr ⟨c,r0,p,hc,h0,hb'⟩
 ·obtain⟨r',hE',hlt⟩:=(h.hH.blk b bl hb).2.lt
  rw[hE] at hE';cases hE'
  exact .inl (.inr ⟨hlt g ho.1,hx⟩)
theorem Back.shape (h:Back fr w0 w w' s al m E E1 as) {b:Nat} {t:Option Nat} {z n:Nat} {es:Tr (List AC)} (hb:m.H.bs.get b=some (.rows t z n es)) {r:Rg} {g:Nat} {arr:Array Value} (hE:E b=some r) (hg:r.own=some g) (hheap:w.heap[g]?=some (.cells arr r.t (0,0)))
  (hne:r.has g r.lo):∃arr',w'.heap[g]?=some (.cells arr' r.t (0,0))∧arr'.size=arr.size∧∀o,frOf fr s m E w g o→arr'[o]?=arr[o]?:=by
 refine h.h1.keep.blk g ⟨arr.size,.inr ⟨(Array.getElem?_eq_some_iff.1 hheap).1,?_⟩⟩ arr _ _ hheap
 rintro ⟨c,r0,hc,h0⟩
 obtain⟨b',p,q,bl,hlt,hb',hE',hbs',hor⟩:=qeu h.fits hc
 rcases hor with ⟨t',z',n',es',tb,zb,es2,hs,rfl,hz,rfl⟩ | ⟨own,t',ks,rt,own',t2,ks2,rt2,hs,rfl,rfl⟩
 ·obtain⟨_,q',g',arr',hE2,hg',hrz,hheap',_,q2,_,hn,_⟩:=h.hH.blk _ _ hbs'
  rw[hE'] at hE2;cases hE2
  obtain⟨k1,k2 | ⟨_,k2⟩⟩:=h0
  ·cases k2
  ·rw[hg'] at k1
   cases k1
   rw[hheap] at hheap'
   injection Option.some.inj hheap' with e1 _ _
   subst e1
   have:1*zb≤q.cap*zb:=Nat.mul_le_mul_right _ hn
   simp only[Nat.one_mul] at k2 this
   omega
 ·have hq:r0.has g r.lo:=by
   obtain⟨k1,k2 | ⟨k2,k3⟩⟩:=h0
   ·exact⟨k1,.inl k2⟩
   ·obtain⟨_,q',L,hE2,_,_,_,k4⟩:=h.hH.blk _ _ hbs'
    rw[hE'] at hE2;cases hE2
    cases own' with
    | true =>
     rcases k4 with ⟨k5,_⟩ | ⟨_,_,_,k5,_⟩
     ·rw[k5] at k1;cases k1
     ·exact⟨k1,.inl k5⟩
    | false=>rw[k4.1] at k1;cases k1
  have:=h.hH.apart b b' _ _ r r0 g r.lo hb hbs' hE hE' hne hq
  subst this
  rw[hb] at hbs'
  cases hbs'
theorem JH_start (h:Back fr w0 w w' s al m E E1 as):JH fr s al m E (e2Of s al m E E1) w' 0 m.H.bs:=by
 intro b bl hb
 refine⟨⟨bl,hb,fun h=>h⟩,?_,fun c hc=>absurd hc (Nat.not_lt_zero _)⟩
 have hB:=(h.hH.blk b bl hb).2
 cases bl with
 | rows t z n es =>
  obtain⟨r,g,arr,hE,hg,hz,hheap,q1,q2,q3,q4,q5,q6,hes⟩:=hB
  have hne:r.has g r.lo:=⟨hg,by rcases q3 with q3 | q3;exact .inl q3;exact .inr ⟨Nat.le_refl _,by rw[hz];omega⟩⟩
  obtain⟨arr',e1,s1,c1⟩:=h.shape hb hE hg hheap hne
  refine⟨r,g,arr',hE,hg,hz,e1,fun hw=>by rw[s1];exact q1 hw,by rw[s1];exact q2,q3,q4,q5,q6,fun i hi=>?_⟩
  obtain⟨xs,hx,hrel⟩:=hes i hi
  have hiz:i*z+z≤r.cap*z:=by have:=Nat.mul_le_mul_right z (show i+1≤r.cap by omega);rw[Nat.succ_mul] at this;exact this
  have hxl:xs.length=z:=by rw[hrel.1,List.length_take,List.length_drop,Array.length_toList];omega
  refine⟨xs,hx,hxl,fun p x u hpx hpu=>?_⟩
  have hp:p < z:=by rw[←hxl];exact(List.getElem?_eq_some_iff.1 hpx).1
  rw[qbA,if_pos hp] at hpu
  have hhas:r.has g (r.lo+i*z+p):=⟨hg,.inr ⟨by omega,by rw[hz];omega⟩⟩
  rcases h.inB hb hE hhas with hf | ⟨c,r0,o,hc,h0,hbc⟩
  ·right
   refine(hrel.2 p x u hpx ?_).mono h.leE
   rw[qbA,if_pos hp]
   have:=c1 _ hf
   rw[←Array.getElem?_toList,←Array.getElem?_toList] at this
   rw[←this]
   exact hpu
  ·left
   obtain⟨b',o',q,bl,hlt,hb',hE',hbs',hor⟩:=qeu h.fits hc
   rw[hbc] at hb';cases hb'
   rw[hb] at hbs';cases hbs'
   rw[hE] at hE';cases hE'
   rcases hor with ⟨t',z',n',es',tb,zb,es2,hs,heq,hzz,rfl⟩ | ⟨_,_,_,_,_,_,_,_,_,heq,_⟩
   ·cases heq
    obtain rfl:i=0:=by omega
    refine⟨rfl,c,Nat.zero_le _,t',z',n',es',o,hs,hbc,?_⟩
    obtain⟨_,k2 | ⟨k2,k3⟩⟩:=h0
    ·cases k2
    ·simp only[Nat.one_mul,Nat.zero_mul,Nat.add_zero] at k2 k3
     omega
   ·cases heq
 | sy own t ks rt =>
  by_cases hx:∃c,0≤c∧bndS s m c b
  ·exact .inl hx
  ·right
   refine RelB.mono h.leE (RelB.same h.h1.keep (fun r g o hE ho=>?_) (fr_sub h.fits h.hH) (fun _ _ k=>k) hB)
   rcases h.inB hb hE ho with hf | ⟨c,r0,p,hc,h0,hbc⟩
   ·exact hf
   ·exfalso
    obtain⟨b',o',q,bl,hlt,hb',hE',hbs',hor⟩:=qeu h.fits hc
    rw[hbc] at hb';cases hb'
    rw[hb] at hbs';cases hbs'
    rw[hE] at hE';cases hE'
    rcases hor with ⟨_,_,_,_,_,_,_,_,heq,_⟩ | ⟨own1,t1,ks1,rt1,own2,t2,ks2,rt2,hs,heq,_⟩
    ·cases heq
    ·cases heq
     have hv:=h.fits.blks c hlt
     unfold vB at hv
     rw[hs,hbc] at hv
     split at hv
     ·rename_i heq1 heq2;cases heq1
     ·rename_i own3 t3 ks3 j b3 o3 heq1 heq2
      cases heq1
      cases heq2
      rw[hb] at hv
      split at hv
      ·rename_i heq3 heq4
       cases heq3
       simp only[Bool.and_eq_true,beq_iff_eq] at hv
       obtain⟨⟨⟨⟨ho1,_⟩,_⟩,_⟩,_⟩:=hv
       subst ho1
       cases own1 with
       | true=>exact hx ⟨c,Nat.zero_le _,_,_,_,_,hs,hbc⟩
       | false =>
        obtain⟨r',L,hE2,_,_,_,k4⟩:=hB
        rw[hE] at hE2;cases hE2
        have:=ho.1
        rw[k4.1] at this
        cases this
      ·cases hv
     ·cases hv
theorem JB.up {E2:Env} {k k' b:Nat} (hk:∀c,k≤c→(∃p,segS s m c b p)∨bndS s m c b→k'≤c):∀{bl:Bl},JB fr s m E E2 w' k b bl→JB fr s m E E2 w' k' b bl
 | .rows t z n es,⟨r,g,arr,a1,a2,a3,a4,a5,a6,a7,a8,a9,a10,hes⟩=>⟨r,g,arr,a1,a2,a3,a4,a5,a6,a7,a8,a9,a10,fun i hi=>by
  obtain⟨xs,h1,h2,h3⟩:=hes i hi
  refine⟨xs,h1,h2,fun p x u hx hu=>?_⟩
  rcases h3 p x u hx hu with ⟨h4,c,h5,h6⟩ | h4
  ·exact .inl ⟨h4,c,hk c h5 (.inl ⟨p,h6⟩),h6⟩
  ·exact .inr h4⟩
 | .sy own t ks rt,h=>by
  rcases h with ⟨c,h5,h6⟩ | h
  ·exact .inl ⟨c,hk c h5 (.inr h6),h6⟩
  ·exact .inr h
theorem qdV (c:Nat) (bl:Bl):(s.H1 al).bs.get c=some bl↔al.bl[c]?=some (some bl):=by
 simp only[Sum.H1,qcd]
 cases al.bl[c]? with
 | none=>simp
 | some x=>cases x<;>simp
theorem two_bnd (hf:Fits s as m) {c c' b:Nat} (h:bndS s m c b) (h':bndS s m c' b):c=c':=by
 have key:∀c c',bndS s m c b→bndS s m c' b→c' < c→False:=by
  rintro c c' ⟨t,ks,rt,o,h1,h2⟩ ⟨t',ks',rt',o',h3,h4⟩ hlt
  have hv:=hf.dist c (List.getElem?_eq_some_iff.1 h1).1 c' hlt
  unfold vD at hv
  rw[h1,h2,h3,h4] at hv
  simp at hv
 rcases Nat.lt_trichotomy c c' with h1 | h1 | h1
 ·exact(key c' c h' h h1).elim
 ·exact h1
 ·exact(key c c' h h' h1).elim
theorem old1_ok (h:Back fr w0 w w' s al m E E1 as) {bs bs':Tr Bl} {c:Nat} (ho:old1 s al m bs c=some bs') (hJ:JH fr s al m E (e2Of s al m E E1) w' c bs):JH fr s al m E (e2Of s al m E E1) w' (c+1) bs':=by
 unfold old1 at ho
 split at ho
 ·rename_i t z n es0 b o t2 z' es1 hs hb ha
  split at ho
  ·rename_i tb zb es ps hbs hps
   split at ho
   ·rename_i xs ys hx hy
    cases hc:(Nat.beq z z'&&Nat.beq ys.length z&&Nat.ble (o+z) zb&&Nat.beq xs.length zb) with
    | false=>rw[hc] at ho;cases ho
    | true =>
     rw[hc,cond_true] at ho
     cases ho
     simp only[Bool.and_eq_true,qaz,decide_eq_true_eq,Nat.ble_eq] at hc
     obtain⟨⟨⟨rfl,hyl⟩,hoz⟩,hxl⟩:=hc
     intro b2 bl2 hb2
     rw[Tr.get_put] at hb2
     by_cases hbb:b2=b
     ·rw[if_pos hbb] at hb2
      cases hb2
      subst hbb
      obtain⟨⟨bl0,k0,k0m⟩,⟨r,g,arr,a1,a2,a3,a4,a5,a6,a7,a8,a9,a10,hes⟩,k2⟩:=hJ _ _ hbs
      refine⟨⟨bl0,k0,fun h=>(k0m h).rows.elim⟩,⟨r,g,arr,a1,a2,a3,a4,a5,a6,a7,a8,a9,a10,fun i hi=>?_⟩,fun c' hc' hbn=>by
       rcases Nat.eq_or_lt_of_le (Nat.le_of_lt_succ hc') with h7 | h7
       ·subst h7;obtain⟨_,_,_,_,f1,_⟩:=hbn;rw[hs] at f1;cases f1
       ·exact k2 c' h7 hbn⟩
      obtain rfl:i=0:=by omega
      obtain⟨xs0,h1,h2,h3⟩:=hes 0 (by omega)
      rw[hx] at h1;cases h1
      refine⟨_,by rw[Tr.get_put];rfl,by simp only[List.length_append,List.length_take,List.length_drop];omega,fun p x u hpx hpu=>?_⟩
      obtain⟨_,r1,g1,arr1,d1,d2,d3,d4,d5,d6,d7,d8,d9,d10,hes1⟩:=h.h1.blk c _ ((qdV c _).2 ha)
      obtain⟨ps0,e1,e2⟩:=hes1 0 (by omega)
      rw[hps] at e1;cases e1
      obtain⟨r0,hr0⟩:=rg_def h.fits h.hH (c:=c) (List.getElem?_eq_some_iff.1 hs).1
      have hr1:=h.le.1 c r0 hr0
      rw[d1] at hr1;cases hr1
      have hr0':r1=⟨r.own,r.lo+o,1,z,r.t,false,undef⟩:=by
       have:qcN s m E c=some ⟨r.own,r.lo+o,1,z,r.t,false,undef⟩:=by simp only[qcN,hs,hb,a1,Option.map_some]
       rw[hr0] at this
       exact Option.some.inj this
      have hgg:g1=g:=by rw[hr0'] at d2;simp only at d2;rw[a2] at d2;exact(Option.some.inj d2).symm
      subst hgg
      rw[a4] at d4
      have hrt:r1.t=r.t:=by rw[hr0']
      rw[hrt] at d4
      cases d4
      have hrel:=h.cells hy e2
      have hlo:r1.lo=r.lo+o:=by rw[hr0']
      rw[hlo] at hrel
      simp only[Nat.zero_mul,Nat.add_zero] at hrel hpu h3
      have hp:p < zb:=by
       have:=(List.getElem?_eq_some_iff.1 hpx).1
       simp only[List.length_append,List.length_take,List.length_drop] at this
       omega
      rw[←hyl,qbN xs ys o (by omega)] at hpx
      split at hpx
      ·rcases h3 p x u hpx hpu with ⟨_,c',h5,h6⟩ | h4
       ·refine .inl ⟨rfl,c',?_,h6⟩
        rcases Nat.eq_or_lt_of_le h5 with h7 | h7
        ·subst h7
         obtain⟨_,_,_,_,_,f1,f2,f3,f4⟩:=h6
         rw[hs] at f1;cases f1
         rw[hb] at f2;cases f2
         omega
        ·omega
       ·exact .inr h4
      ·split at hpx
       ·right
        refine hrel.2 (p - o) x u hpx ?_
        rw[qbA,if_pos hp] at hpu
        rw[qbA,if_pos (by omega),←hpu]
        congr 1
        omega
       ·rcases h3 p x u hpx hpu with ⟨_,c',h5,h6⟩ | h4
        ·refine .inl ⟨rfl,c',?_,h6⟩
         rcases Nat.eq_or_lt_of_le h5 with h7 | h7
         ·subst h7
          obtain⟨_,_,_,_,_,f1,f2,f3,f4⟩:=h6
          rw[hs] at f1;cases f1
          rw[hb] at f2;cases f2
          omega
         ·omega
        ·exact .inr h4
     ·rw[if_neg hbb] at hb2
      obtain⟨k0,k1,k2⟩:=hJ b2 bl2 hb2
      refine⟨k0,k1.up fun c' hc' hor=>?_,fun c' hc' hbn=>by
       rcases Nat.eq_or_lt_of_le (Nat.le_of_lt_succ hc') with h7 | h7
       ·subst h7;obtain⟨_,_,_,_,f1,_⟩:=hbn;rw[hs] at f1;cases f1
       ·exact k2 c' h7 hbn⟩
      rcases Nat.eq_or_lt_of_le hc' with h7 | h7
      ·subst h7
       rcases hor with ⟨p,_,_,_,_,_,f1,f2,_⟩ | ⟨_,_,_,_,f1,_⟩
       ·rw[hb] at f2;cases f2;exact absurd rfl hbb
       ·rw[hs] at f1;cases f1
      ·omega
   ·cases ho
  ·cases ho
 ·rename_i t0 ks0 rt0 b o hs hb ha
  cases ho
  intro b2 bl2 hb2
  rw[Tr.get_put] at hb2
  by_cases hbb:b2=b
  ·rw[if_pos hbb] at hb2;cases hb2
  ·rw[if_neg hbb] at hb2
   obtain⟨k0,k1,k2⟩:=hJ b2 bl2 hb2
   refine⟨k0,k1.up fun c' hc' hor=>?_,fun c' hc' hbn=>by
    rcases Nat.eq_or_lt_of_le (Nat.le_of_lt_succ hc') with h7 | h7
    ·subst h7;obtain⟨_,_,_,_,_,f2⟩:=hbn;rw[hb] at f2;cases f2;exact absurd rfl hbb
    ·exact k2 c' h7 hbn⟩
   rcases Nat.eq_or_lt_of_le hc' with h7 | h7
   ·subst h7
    rcases hor with ⟨p,_,_,_,_,_,f1,_⟩ | ⟨_,_,_,_,f1,f2⟩
    ·rw[hs] at f1;cases f1
    ·rw[hb] at f2;cases f2;exact absurd rfl hbb
   ·omega
 ·rename_i t0 ks0 rt0 b o t ks rt hs hb ha
  have htt:t0=t:=by
   cases hc:Nat.beq t0 t with
   | true=>exact Nat.eq_of_beq_eq_true hc
   | false=>rw[hc] at ho;cases ho
  rw[show Nat.beq t0 t=true by rw[htt];simp,cond_true] at ho
  cases ho
  intro b2 bl2 hb2
  rw[Tr.get_put] at hb2
  by_cases hbb:b2=b
  ·rw[if_pos hbb] at hb2
   cases hb2
   subst hbb
   have hlt:c < s.bl.length:=(List.getElem?_eq_some_iff.1 hs).1
   obtain⟨r0,hr0⟩:=rg_def h.fits h.hH hlt
   obtain⟨b',o',q,bl,_,hb',hE',hbs',hor⟩:=qeu h.fits hr0
   rw[hb] at hb';cases hb'
   have hmk:Mk bl→Mk (.sy true t ks (sR (qfa s m) (qeF s m) rt)):=by
    rintro ⟨t1,ks1,rt1,rfl,h1⟩
    have hv:=h.fits.blks c hlt
    unfold vB at hv
    rw[hs,hb] at hv
    split at hv
    ·rename_i heq1 heq2;cases heq1
    ·rename_i own3 t3 ks3 j b3 o3 heq1 heq2
     cases heq1;cases heq2
     rw[hbs'] at hv
     split at hv
     ·rename_i heq3 heq4
      cases heq3
      simp only[Bool.and_eq_true,beq_iff_eq,qaz,decide_eq_true_eq] at hv
      obtain⟨⟨⟨⟨_,h2⟩,_⟩,_⟩,_⟩:=hv
      exact⟨_,_,_,rfl,by omega⟩
     ·cases hv
    ·cases hv
   refine⟨⟨bl,hbs',hmk⟩,.inr ?_,fun c' hc' hbn=>by
    obtain rfl:=two_bnd h.fits (⟨_,_,_,_,hs,hb⟩:bndS s m c b2) hbn
    exact⟨_,ha⟩⟩
   rcases hor with ⟨_,_,_,_,_,_,_,hs2,_⟩ | ⟨_,_,_,_,_,_,_,_,hs2,_,rfl⟩
   ·rw[hs] at hs2;cases hs2
   ·obtain⟨_,r1,L,d1,d2,d3,d4,d5⟩:=h.h1.blk c _ ((qdV c _).2 ha)
    have hr1:=h.le.1 c r0 hr0
    rw[d1] at hr1;cases hr1
    exact⟨_,L,h.leE.1 _ _ hE',d2,fun S hS=>by rw[qgK];exact d3 _ (h.has hS),d4,d5⟩
  ·rw[if_neg hbb] at hb2
   obtain⟨k0,k1,k2⟩:=hJ b2 bl2 hb2
   refine⟨k0,k1.up fun c' hc' hor=>?_,fun c' hc' hbn=>by
    rcases Nat.eq_or_lt_of_le (Nat.le_of_lt_succ hc') with h7 | h7
    ·subst h7;obtain⟨_,_,_,_,_,f2⟩:=hbn;rw[hb] at f2;cases f2;exact absurd rfl hbb
    ·exact k2 c' h7 hbn⟩
   rcases Nat.eq_or_lt_of_le hc' with h7 | h7
   ·subst h7
    rcases hor with ⟨p,_,_,_,_,_,f1,_⟩ | ⟨_,_,_,_,f1,f2⟩
    ·rw[hs] at f1;cases f1
    ·rw[hb] at f2;cases f2;exact absurd rfl hbb
   ·omega
 ·rename_i t0 ks0 rt0 hs
  cases ho
  intro b2 bl2 hb2
  obtain⟨k0,k1,k2⟩:=hJ b2 bl2 hb2
  refine⟨k0,k1.up fun c' hc' hor=>?_,fun c' hc' hbn=>by
   rcases Nat.eq_or_lt_of_le (Nat.le_of_lt_succ hc') with h7 | h7
   ·subst h7;obtain⟨_,_,_,_,f1,_⟩:=hbn;rw[hs] at f1;cases f1
   ·exact k2 c' h7 hbn⟩
  rcases Nat.eq_or_lt_of_le hc' with h7 | h7
  ·subst h7
   rcases hor with ⟨p,_,_,_,_,_,f1,_⟩ | ⟨_,_,_,_,f1,_⟩
   ·rw[hs] at f1;cases f1
   ·rw[hs] at f1;cases f1
  ·omega
 ·cases ho
theorem olds_ok (h:Back fr w0 w w' s al m E E1 as):∀(n c:Nat) {bs bs':Tr Bl},olds s al m n c bs=some bs'→JH fr s al m E (e2Of s al m E E1) w' c bs→JH fr s al m E (e2Of s al m E E1) w' (c+n) bs'
 | 0,c,bs,bs',ho,hJ=>by cases ho;exact hJ
 | n+1,c,bs,bs',ho,hJ=>by
  simp only[olds] at ho
  split at ho
  ·rename_i bs1 h1
   have:=olds_ok h n (c+1) ho (old1_ok h h1 hJ)
   rw[show c+(n+1)=c+1+n by omega]
   exact this
  ·cases ho
theorem news_get:∀{l:List (Option Bl)} {i:Nat} {bs bs':Tr Bl},news s m l i bs=some bs'→(∀b,b < i∨i+l.length≤b→bs'.get b=bs.get b)∧∀(j:Nat) x,l[j]?=some x→bs'.get (i+j)=x.bind (iB s m)∧∀y,x=some y→∃z,iB s m y=some z
 | [],i,bs,bs',h=>by cases h;exact⟨fun _ _=>rfl,fun j x h=>by simp at h⟩
 | none :: xs,i,bs,bs',h=>by
  simp only[news] at h
  obtain⟨h1,h2⟩:=news_get h
  refine⟨fun b hb=>?_,fun j x hj=>?_⟩
  ·rw[h1 b (by simp only[List.length_cons] at hb;omega),Tr.get_put,if_neg (by simp only[List.length_cons] at hb;omega)]
  ·cases j with
   | zero =>
    simp at hj
    subst hj
    refine⟨?_,fun y hy=>by cases hy⟩
    rw[Nat.add_zero,h1 i (by omega),Tr.get_put,if_pos rfl]
    rfl
   | succ j=>rw[show i+(j+1)=i+1+j by omega];exact h2 j x (by simpa using hj)
 | some x0 :: xs,i,bs,bs',h=>by
  simp only[news] at h
  split at h
  ·rename_i y0 hy0
   obtain⟨h1,h2⟩:=news_get h
   refine⟨fun b hb=>?_,fun j x hj=>?_⟩
   ·rw[h1 b (by simp only[List.length_cons] at hb;omega),Tr.get_put,if_neg (by simp only[List.length_cons] at hb;omega)]
   ·cases j with
    | zero =>
     simp at hj
     subst hj
     refine⟨?_,fun y hy=>by cases hy;exact⟨y0,hy0⟩⟩
     rw[Nat.add_zero,h1 i (by omega),Tr.get_put,if_pos rfl]
     exact hy0.symm
    | succ j=>rw[show i+(j+1)=i+1+j by omega];exact h2 j x (by simpa using hj)
  ·cases h
theorem JB.done {E2:Env} {k b:Nat} (hle:E.le E2) (hk:s.bl.length≤k):∀{bl:Bl},JB fr s m E E2 w' k b bl→RelB fr E2 w' b bl
 | .rows t z n es,⟨r,g,arr,a1,a2,a3,a4,a5,a6,a7,a8,a9,a10,hes⟩=>⟨r,g,arr,hle.1 _ _ a1,a2,a3,a4,a5,a6,a7,a8,a9,a10,fun i hi=>by
  obtain⟨xs,h1,h2,h3⟩:=hes i hi
  have hiz:i*z+z≤r.cap*z:=by have:=Nat.mul_le_mul_right z (show i+1≤r.cap by omega);rw[Nat.succ_mul] at this;exact this
  refine⟨xs,h1,by rw[h2,List.length_take,List.length_drop,Array.length_toList];omega,fun p x u hx hu=>?_⟩
  rcases h3 p x u hx hu with ⟨_,c,h5,h6⟩ | h4
  ·obtain⟨_,_,_,_,_,f1,_⟩:=h6
   have:=(List.getElem?_eq_some_iff.1 f1).1
   omega
  ·exact h4⟩
 | .sy own t ks rt,h=>by
  rcases h with ⟨c,h5,h6⟩ | h
  ·obtain⟨_,_,_,_,f1,_⟩:=h6
   have:=(List.getElem?_eq_some_iff.1 f1).1
   omega
  ·exact h
theorem after_ok (h:Back fr w0 w w' s al m E E1 as) {H2:Hp} (ha:after s al m=some H2):RelH fr w0 (e2Of s al m E E1) H2 w':=by
 unfold after at ha
 cases hl:Nat.ble s.bl.length al.bl.length with
 | false=>rw[hl] at ha;cases ha
 | true =>
  rw[hl,cond_true] at ha
  simp only[Nat.ble_eq] at hl
  split at ha
  ·rename_i bs ho
   split at ha
   ·rename_i bs' hn
    cases ha
    have hJ:=olds_ok h _ _ ho (JH_start h)
    rw[Nat.zero_add] at hJ
    obtain⟨n1,n2⟩:=news_get hn
    have hdl:(al.bl.drop s.bl.length).length=al.bl.length - s.bl.length:=by simp
    rw[hdl] at n1
    have hwhere:∀b bl,bs'.get b=some bl→(b < m.H.next∧bs.get b=some bl)∨∃c y,s.bl.length≤c∧b=m.H.next+(c - s.bl.length)∧al.bl[c]?=some (some y)∧iB s m y=some bl:=by
     intro b bl hb
     by_cases c1:b < m.H.next
     ·rw[n1 b (.inl c1)] at hb;exact .inl ⟨c1,hb⟩
     ·by_cases c2:b < m.H.next+(al.bl.length - s.bl.length)
      ·have hx:(al.bl.drop s.bl.length)[b - m.H.next]?=some (al.bl[b - m.H.next+s.bl.length]'(by omega)):=by
        rw[List.getElem?_drop,Nat.add_comm,List.getElem?_eq_getElem (by omega)]
       obtain⟨k1,k2⟩:=n2 _ _ hx
       rw[show m.H.next+(b - m.H.next)=b by omega,hb] at k1
       cases hy:al.bl[b - m.H.next+s.bl.length]'(by omega) with
       | none=>rw[hy] at k1;cases k1
       | some y =>
        rw[hy] at k1
        refine .inr ⟨b - m.H.next+s.bl.length,y,by omega,by omega,?_,k1.symm⟩
        rw[List.getElem?_eq_getElem (by omega),hy]
      ·rw[n1 b (.inr (by omega))] at hb
       obtain⟨⟨bl0,k0,_⟩,_⟩:=hJ b bl hb
       have:=(h.hH.blk b bl0 k0).1
       omega
    have hold:∀b,b < m.H.next→(e2Of s al m E E1) b=E b:=fun b hb=>by show(if b < m.H.next then _ else _)=_;rw[if_pos hb]
    have hnew:∀c,s.bl.length≤c→c < al.bl.length→(e2Of s al m E E1) (m.H.next+(c - s.bl.length))=E1 c:=fun c h1 h2=>by
     show(if _ then _ else if _ then E1 _ else none)=_
     rw[if_neg (by omega),if_pos (by omega)]
     show E1.rg _=E1.rg _
     congr 1
     omega
    have hlt:∀{c y},al.bl[c]?=some (some y)→c < al.bl.length:=fun h=>(List.getElem?_eq_some_iff.1 h).1
    have hon:∀b bl c y r r1 g o,bs.get b=some bl→s.bl.length≤c→al.bl[c]?=some (some y)→E b=some r→E1 c=some r1→r.has g o→r1.has g o→False:=by
     intro b bl c y r r1 g o hb hc hy hE hE1 h1 h2
     obtain⟨⟨bl0,k0,k0m⟩,_,k2⟩:=hJ b bl hb
     have hin:∃c0 r0 p,qcN s m E c0=some r0∧r0.has g o∧m.b.get c0=some (b,p):=by
      rcases h.inB k0 hE h1 with hf | hf
      ·obtain⟨_,_,c0,r0,q1,q2⟩:=h.h1.free c y r1 g o ((qdV c y).2 hy) hE1 h2 hf
       obtain⟨b',p,q,bb,hb',hE',hbs',hq⟩:=qeN h.fits h.hH q1 q2
       have:=h.hH.apart b b' bl0 bb r q g o k0 hbs' hE hE' h1 hq
       subst this
       exact⟨c0,r0,p,q1,q2,hb'⟩
      ·exact hf
     rcases hin with ⟨c0,r0,p,hc0,h0,hbc⟩
     ·obtain⟨b',o',q,bl',hlt',hb',hE',hbs',hor⟩:=qeu h.fits hc0
      have hx:∃x,al.bl[c0]?=some (some x):=by
       rcases hor with ⟨t,z,n,es,tb,zb,es',hs,_,_,_⟩ | ⟨own,t,ks,rt,own',t',ks',rt',hs,heq,hrr⟩
       ·obtain⟨z1,b1,o1,es1,hbad⟩:∃z1 t1 es1 n1,al.bl[c0]?=some (some (.rows t1 z1 n1 es1)):=by
         have:∀(n c:Nat) (bs bs':Tr Bl),olds s al m n c bs=some bs'→c≤c0→c0 < c+n→∃z1 t1 es1 n1,al.bl[c0]?=some (some (.rows t1 z1 n1 es1)):=by
          intro n
          induction n with
          | zero=>intro c bs bs' _ h1 h2;omega
          | succ n ih =>
           intro c bs bs' ho h1 h2
           simp only[olds] at ho
           split at ho
           ·rename_i bs1 hb1
            rcases Nat.eq_or_lt_of_le h1 with h3 | h3
            ·subst h3
             unfold old1 at hb1
             rw[hs] at hb1
             split at hb1
             ·rename_i ha3;exact⟨_,_,_,_,ha3⟩
             ·rename_i heq _ _;cases heq
             ·rename_i heq _ _;cases heq
             ·rename_i heq;cases heq
             ·cases hb1
            ·exact ih (c+1) bs1 bs' ho h3 (by omega)
           ·cases ho
         exact this _ _ _ _ ho (Nat.zero_le _) (by omega)
        exact⟨_,hbad⟩
       ·subst hrr
        cases own with
        | true=>exact k2 c0 hlt' ⟨_,_,_,_,hs,hbc⟩
        | false =>
         exfalso
         have hv:=h.fits.blks c0 hlt'
         unfold vB at hv
         rw[hs,hb'] at hv
         split at hv
         ·rename_i heq1 _;cases heq1
         ·rename_i own3 t3 ks3 j b3 o3 heq1 heq2
          cases heq1;cases heq2
          rw[hbs',heq] at hv
          split at hv
          ·rename_i heq3 heq4
           cases heq3
           simp only[Bool.and_eq_true,beq_iff_eq] at hv
           obtain⟨⟨⟨⟨ho1,_⟩,_⟩,_⟩,_⟩:=hv
           subst ho1
           rw[heq] at hbs'
           obtain⟨_,r',L,hE2,_,_,_,k4⟩:=h.hH.blk _ _ hbs'
           rw[hE'] at hE2;cases hE2
           have:=h0.1
           rw[k4.1] at this
           cases this
          ·cases hv
         ·cases hv
      obtain⟨x,hx⟩:=hx
      have:=h.h1.apart c0 c x y r0 r1 g o ((qdV c0 x).2 hx) ((qdV c y).2 hy) (h.le.1 _ _ hc0) hE1 h0 h2
      omega
    refine⟨fun b bl hb=>?_,fun b hb=>?_,fun b b' bl bl' r r' g o hb hb' e1 e2 h1 h2=>?_,fun b bl r g o hb e1 h1 hf=>?_,h.hH.frlt,h.hH.keep.trans (h.h1.keep.sub (fr_sub h.fits h.hH)),⟨by show E.q.n+(newV E1.q s.nv al.mv).length=_;rw[qew,h.hH.cnt.1],by show E.q.m+(newR E1.q s.nr al.mr).length=_;rw[qet,h.hH.cnt.2]⟩⟩
    ·rcases hwhere b bl hb with ⟨c1,c2⟩ | ⟨c,y,hc,rfl,hy,hi⟩
     ·exact⟨by simp only;omega,(hJ b bl c2).2.1.done h.leE (Nat.le_refl _)⟩
     ·have hcl:=hlt hy
      refine⟨by simp only;omega,?_⟩
      have hB:=(h.h1.blk c y ((qdV c y).2 hy)).2
      cases y with
      | rows t z n es =>
       simp only[iB,Option.map_eq_some_iff] at hi
       obtain⟨es',hes',rfl⟩:=hi
       obtain⟨r,g,arr,a1,a2,a3,a4,a5,a6,a7,a8,a9,a10,hes⟩:=hB
       refine⟨r,g,arr,by rw[hnew c hc hcl];exact a1,a2,a3,a4,a5,a6,a7,a8,a9,a10,fun i hi=>?_⟩
       obtain⟨xs,h1,h2⟩:=hes i hi
       obtain⟨ys,h3,h4⟩:=iTr_get hes' h1
       exact⟨ys,h4,h.cells h3 h2⟩
      | sy own t ks rt =>
       cases own with
       | false=>cases hi
       | true =>
        cases hi
        obtain⟨r,L,a1,a2,a3,a4,a5⟩:=hB
        exact⟨r,L,by rw[hnew c hc hcl];exact a1,a2,fun S hS=>by rw[qgK];exact a3 _ (h.has hS),a4,a5⟩
    ·show(if b < m.H.next then _ else if _ then _ else none)=none
     simp only at hb
     rw[if_neg (by omega),if_neg (by omega)]
    ·rcases hwhere b bl hb with ⟨c1,c2⟩ | ⟨c,y,hc,rfl,hy,hi⟩
     ·rw[hold b c1] at e1
      rcases hwhere b' bl' hb' with ⟨d1,d2⟩ | ⟨d,y',hd,rfl,hy',hi'⟩
      ·rw[hold b' d1] at e2
       obtain⟨⟨x1,k1,_⟩,_⟩:=hJ b bl c2
       obtain⟨⟨x2,k2,_⟩,_⟩:=hJ b' bl' d2
       exact h.hH.apart b b' x1 x2 r r' g o k1 k2 e1 e2 h1 h2
      ·rw[hnew d hd (hlt hy')] at e2
       exact(hon b bl d y' r r' g o c2 hd hy' e1 e2 h1 h2).elim
     ·rw[hnew c hc (hlt hy)] at e1
      rcases hwhere b' bl' hb' with ⟨d1,d2⟩ | ⟨d,y',hd,rfl,hy',hi'⟩
      ·rw[hold b' d1] at e2
       exact(hon b' bl' c y r' r g o d2 hc hy e2 e1 h2 h1).elim
      ·rw[hnew d hd (hlt hy')] at e2
       have:=h.h1.apart c d y y' r r' g o ((qdV c y).2 hy) ((qdV d y').2 hy') e1 e2 h1 h2
       rw[this]
    ·rcases hwhere b bl hb with ⟨c1,c2⟩ | ⟨c,y,hc,rfl,hy,hi⟩
     ·rw[hold b c1] at e1
      obtain⟨⟨x1,k1,k1m⟩,_⟩:=hJ b bl c2
      obtain⟨⟨u1,u2⟩,u3⟩:=h.hH.free b x1 r g o k1 e1 h1 hf
      exact⟨⟨k1m u1,u2⟩,u3⟩
     ·rw[hnew c hc (hlt hy)] at e1
      obtain⟨⟨⟨t1,ks1,rt1,rfl,ht1⟩,u2⟩,u3,_⟩:=h.h1.free c y r g o ((qdV c y).2 hy) e1 h1 (fr_sub h.fits h.hH g o hf)
      cases hi
      exact⟨⟨⟨_,_,_,rfl,ht1⟩,u2⟩,u3⟩
   ·cases ha
  ·cases ha
end
def tlF (f:Nat→Te):Nat→Nat→TL
 | _,0=>.nil
 | i,n+1=>.cons (f i) (tlF f (i+1) n)
def rlF (f:Nat→RT):Nat→Nat→RL
 | _,0=>.nil
 | i,n+1=>.cons (f i) (rlF f (i+1) n)
theorem qgH (f:Nat→Te) (S:Sy):∀(i n:Nat),(tlF f i n).ev S=(List.range n).map fun j=>(f (i+j)).ev S
 | i,0=>rfl
 | i,n+1=>by
  simp only[tlF,TL.ev,qgH f S (i+1) n,List.range_succ_eq_map,List.map_cons,List.map_map,Nat.add_zero]
  congr 1
  apply List.map_congr_left
  intro j _
  simp only[Function.comp,Nat.succ_eq_add_one]
  congr 2
  omega
theorem qgA (f:Nat→RT) (S:Sy):∀(i n:Nat),(rlF f i n).ev S=(List.range n).map fun j=>(f (i+j)).ev S
 | i,0=>rfl
 | i,n+1=>by
  simp only[rlF,RL.ev,qgA f S (i+1) n,List.range_succ_eq_map,List.map_cons,List.map_map,Nat.add_zero]
  congr 1
  apply List.map_congr_left
  intro j _
  simp only[Function.comp,Nat.succ_eq_add_one]
  congr 2
  omega
def qcI (q:Qn) (n:Nat):List Value:=(List.range n).map q.S.v
def qaL (q:Qn) (n:Nat):List Rw:=(List.range n).map q.S.r
def alt1 (s:Sum) (m:Mt) (k:Alt→List SV→Hp→Out) (al:Alt):Out :=
 .fresh al.mv al.mr al.id (tlF (qfa s m) 0 s.nv) (rlF (qeF s m) 0 s.nr) (match after s al m,iSs s m al.res with
  | some H2,some rs=>k al rs H2
  | _,_=>.fail)
def altsT (s:Sum) (m:Mt) (k:Alt→List SV→Hp→Out):List Alt→Out
 | []=>.fail
 | [al]=>alt1 s m k al
 | al :: rest=>.both (alt1 s m k al) (altsT s m k rest)
def callS (s:Sum) (as:List SV) (H:Hp) (k:Alt→List SV→Hp→Out):Option Out :=
 bif okM s (qbJ s as H).1 (qbJ s as H).2 then
  some (.pre s.pid (tlF (qfa s (qbJ s as H).2) 0 s.nv) (rlF (qeF s (qbJ s as H).2) 0 s.nr) (altsT s (qbJ s as H).2 k s.outs))
 else none
def callL (as:List SV) (H:Hp) (k:Alt→List SV→Hp→Out):List Sum→Out
 | []=>.fail
 | s :: rest =>
  match callS s as H k with
  | some o=>o
  | none=>callL as H k rest
section
variable {C:Cfg} {K0:Qn→Ex→Tm→Hp→Prop} {fr:Fr} {E:Env} {w0:Ws} {H:Hp} {w w':World}
def qbW (C:Cfg) (fr:Fr) (w0:Ws) (s:Sum) (E0:Env) (al:Alt) (E1:Env) (w':World):Prop :=
 E0.le E1∧(E1.q.n=s.nv+al.mv∧E1.q.m=s.nr+al.mr)∧C.fact al.id (qcI E0.q s.nv) (qaL E0.q s.nr) (newV E1.q s.nv al.mv) (newR E1.q s.nr al.mr)∧RelH fr w0 E1 (s.H1 al) w'
def qcA (C:Cfg) (f:FuncId) (s:Sum):Prop :=
 ∀fr w0 w (E0:Env) (vs:Array Value),E0.q.n=s.nv→E0.q.m=s.nr→RelH fr w0 E0 s.H0 w→s.as0.length=vs.size→(∀(j:Nat) x v,s.as0[j]?=some x→vs[j]?=some v→RelS E0 x v)→C.pre s.pid (qcI E0.q s.nv) (qaL E0.q s.nr) →
  Calls C.P f vs w fun e w'=>∃al∈s.outs,∃E1 v r,e=.returned v∧al.res=[r]∧RelS E1 r v∧qbW C fr w0 s E0 al E1 w'
theorem altsT_ok {q:Qn} {s:Sum} {m:Mt} {k:Alt→List SV→Hp→Out}:∀{l:List Alt},(altsT s m k l).Ok C K0 q→∀al∈l,(alt1 s m k al).Ok C K0 q
 | [al],h,a,ha=>by
  simp at ha
  subst ha
  exact h
 | al :: al2 :: rest,h,a,ha=>by
  rcases List.mem_cons.1 ha with rfl | ha
  ·exact h.1
  ·exact altsT_ok (l:=al2 :: rest) h.2 a ha
theorem qem {s:Sum} {as:List SV} {k:Alt→List SV→Hp→Out} {o:Out} (hc:callS s as H k=some o) (ho:o.Ok C K0 E.q) (hH:RelH fr w0 E H w) {vs:List Value} (hl:as.length=vs.length) (hr:∀(j:Nat) x v,as[j]?=some x→vs[j]?=some v→RelS E x v) :
  ∃E' m as',E.le E'∧E'.q=E.q∧Fits s as' m∧RelH fr w0 E' m.H w∧RelH (frOf fr s m E' w) (wsOf w0 s m E' w) (qcF s m E') s.H0 w∧s.as0.length=vs.length∧(∀(j:Nat) x v,s.as0[j]?=some x→vs[j]?=some v→RelS (qcF s m E') x v)∧C.pre s.pid (qcI (qcF s m E').q s.nv) (qaL (qcF s m E').q s.nr) ∧
   ∀al∈s.outs,(alt1 s m k al).Ok C K0 E'.q:=by
 unfold callS at hc
 cases hok:okM s (qbJ s as H).1 (qbJ s as H).2 with
 | false=>rw[hok] at hc;cases hc
 | true =>
  rw[hok,cond_true] at hc
  cases hc
  obtain⟨E',h1,h2,h3,h4,h5⟩:=bind1_ok (s:=s) hH hl hr
  have hf:=okM_fits hok
  obtain⟨k1,k2⟩:=vA_ok hf h3 hf.args h4 h5
  obtain⟨p1,p2⟩:=ho
  refine⟨E',_,_,h1,h2,hf,h3,callee hf h3,k1,k2,?_,fun al hal=>by rw[h2];exact altsT_ok p2 al hal⟩
  rw[qgH,qgA] at p1
  rw[←h2] at p1
  have e1:(List.range s.nv).map (fun j=>(qfa s (qbJ s as H).2 (0+j)).ev E'.q.S)=qcI (qcF s (qbJ s as H).2 E').q s.nv:=by
   apply List.map_congr_left
   intro j hj
   rw[Nat.zero_add]
   rfl
  have e2:(List.range s.nr).map (fun j=>(qeF s (qbJ s as H).2 (0+j)).ev E'.q.S)=qaL (qcF s (qbJ s as H).2 E').q s.nr:=by
   apply List.map_congr_left
   intro j hj
   rw[Nat.zero_add]
   rfl
  rw[e1,e2] at p1
  exact p1
theorem iSs_get {s:Sum} {m:Mt}:∀{xs ys:List SV},iSs s m xs=some ys→xs.length=ys.length∧∀(j:Nat) y,ys[j]?=some y→∃x,xs[j]?=some x∧iS s m x=some y
 | [],_,h=>by cases h;exact⟨rfl,fun j y h=>by simp at h⟩
 | x :: xs,ys,h=>by
  simp only[iSs] at h
  split at h
  ·rename_i y ys' hy hys
   cases h
   obtain⟨h1,h2⟩:=iSs_get hys
   refine⟨by simp[h1],fun j z hz=>?_⟩
   cases j with
   | zero=>simp at hz;subst hz;exact⟨x,rfl,hy⟩
   | succ j=>simpa using h2 j z (by simpa using hz)
  ·cases h
theorem qeP {s:Sum} {as':List SV} {m:Mt} {k:Alt→List SV→Hp→Out} {E':Env} (hf:Fits s as' m) (hH:RelH fr w0 E' m.H w) {al:Alt} (hk:(alt1 s m k al).Ok C K0 E'.q) {E1:Env} (ht:qbW C (frOf fr s m E' w) (wsOf w0 s m E' w) s (qcF s m E') al E1 w') :
  ∃E2 rs H2,E'.le E2∧RelH fr w0 E2 H2 w'∧(k al rs H2).Ok C K0 E2.q∧al.res.length=rs.length∧∀(j:Nat) y,rs[j]?=some y→∃x,al.res[j]?=some x∧∀u,RelS E1 x u→RelS E2 y u:=by
 obtain⟨t1,t2,t3,t4⟩:=ht
 have hb:Back fr w0 w w' s al m E' E1 as':=⟨hf,hH,t1,t2,t4⟩
 unfold alt1 at hk
 have:=hk (newV E1.q s.nv al.mv) (newR E1.q s.nr al.mr) (qew _ _ _) (qet _ _ _) (by
  rw[qgH,qgA]
  have e1:(List.range s.nv).map (fun j=>(qfa s m (0+j)).ev E'.q.S)=qcI (qcF s m E').q s.nv:=by
   apply List.map_congr_left
   intro j hj
   rw[Nat.zero_add]
   rfl
  have e2:(List.range s.nr).map (fun j=>(qeF s m (0+j)).ev E'.q.S)=qaL (qcF s m E').q s.nr:=by
   apply List.map_congr_left
   intro j hj
   rw[Nat.zero_add]
   rfl
  rw[e1,e2]
  exact t3)
 split at this
 ·rename_i H2 rs ha hi
  obtain⟨i1,i2⟩:=iSs_get hi
  refine⟨e2Of s al m E' E1,rs,H2,hb.leE,after_ok hb ha,this,i1,fun j y hy=>?_⟩
  obtain⟨x,hx,hxy⟩:=i2 j y hy
  exact⟨x,hx,fun u hu=>hb.sval hxy hu⟩
 ·exact this.elim
def one (k:SV→Hp→Out):Alt→List SV→Hp→Out:=fun al rs H =>
 match rs with
 | [r]=>k r H
 | _=>.fail
theorem callL_ok {f:FuncId} {as:List SV} {k:SV→Hp→Out} {vs:Array Value} (hH:RelH fr w0 E H w) (hl:as.length=vs.size) (hr:∀(j:Nat) x v,as[j]?=some x→vs[j]?=some v→RelS E x v):∀(l:List Sum),(∀s∈l,qcA C f s)→(callL as H (one k) l).Ok C K0 E.q →
  Calls C.P f vs w fun e w'=>∃E' v r H',e=.returned v∧E.le E'∧RelS E' r v∧RelH fr w0 E' H' w'∧(k r H').Ok C K0 E'.q
 | [],_,h=>h.elim
 | s :: rest,hs,h=>by
  simp only[callL] at h
  split at h
  ·rename_i o hc
   obtain⟨E',m,as',h1,h2,hf,h3,h4,h5,h6,h7,h8⟩:=qem hc h hH (vs:=vs.toList) (by rw[hl];simp) (fun j x v hx hv=>hr j x v hx (by simpa using hv))
   refine(hs s (by simp) (frOf fr s m E' w) (wsOf w0 s m E' w) w (qcF s m E') vs rfl rfl h4 (by rw[h5];simp) (fun j x v hx hv=>h6 j x v hx (by simpa using hv)) h7).mono ?_
   rintro e w' ⟨al,hal,E1,v,r,rfl,hres,hrv,ht⟩
   obtain⟨E2,rs,H2,g1,g2,g3,g4,g5⟩:=qeP hf h3 (h8 al hal) ht
   rw[hres] at g4 g5
   match rs,g4,g5,g3 with
   | [r'],_,g5,g3 =>
    obtain⟨x,hx,hxu⟩:=g5 0 r' rfl
    simp at hx
    subst hx
    exact⟨E2,v,r',H2,rfl,Env.le_trans h1 g1,hxu v hrv,g2,g3⟩
  ·exact callL_ok hH hl hr rest (fun s' hs'=>hs s' (List.mem_cons_of_mem _ hs')) h
end
def oldB:Nat→Tr (Nat × Nat)→Tr (Nat × Nat)
 | 0,t=>t
 | n+1,t=>(oldB n t).put n (some (n,0))
def bindE (s:Sum) (al:Alt) (xs:List SV) (H:Hp):List SV × Mt :=
 ((nA (s.H1 al) H al.res xs).1,bBs (s.H1 al) (s.H1 al).next 0 (bA ⟨.e,.e,oldB s.bl.length .e,(nA (s.H1 al) H al.res xs).2⟩ al.res (nA (s.H1 al) H al.res xs).1))
def lv (s:Sum) (m:Mt) (i:Nat):Te:=bif Nat.blt i s.nv then .s i else (m.v.get i).getD (.l undef)
def lr (s:Sum) (m:Mt) (j:Nat):RT:=bif Nat.blt j s.nr then .s j else (m.r.get j).getD .nil
def lb (s:Sum) (m:Mt) (c:Nat):Option Nat:=bif Nat.blt c s.bl.length then some c else (m.b.get c).map (·.1)
def isB (s:Sum) (al:Alt) (m:Mt) (c b:Nat):Bool :=
 match lb s m c with
 | some b'=>Nat.beq b' b&&Nat.blt c al.bl.length
 | none=>false
theorem isB_eq {s:Sum} {al:Alt} {m:Mt} {c b:Nat} (h:isB s al m c b=true):lb s m c=some b∧c < al.bl.length:=by
 unfold isB at h
 split at h
 ·rename_i b' hb
  simp only[Bool.and_eq_true,Nat.blt_eq] at h
  rw[hb,Nat.eq_of_beq_eq_true h.1]
  exact⟨rfl,h.2⟩
 ·cases h
def wC (s:Sum) (al:Alt) (m:Mt):AC→AC→Bool
 | .v x,.v y=>valEq x y
 | .t k pt,y =>
  match teO y with
  | some (k',te)=>qgU k k'&&qcQ (sT (lv s m) (lr s m) pt) te&&bT (s.nv+al.mv) (s.nr+al.mr) pt
  | none=>false
 | .p c o,.p b o'=>isB s al m c b&&Nat.beq o o'
 | .sr c,.sr b=>isB s al m c b
 | .em,.em=>true
 | .ss c pk pn,.ss b k n=>isB s al m c b&&(qcQ (sT (lv s m) (lr s m) pk) k&&bT (s.nv+al.mv) (s.nr+al.mr) pk)&&(qcQ (sT (lv s m) (lr s m) pn) n&&bT (s.nv+al.mv) (s.nr+al.mr) pn)
 | _,_=>false
def wL (s:Sum) (al:Alt) (m:Mt):List AC→List AC→Bool
 | [],[]=>true
 | p :: ps,x :: xs=>wC s al m p x&&wL s al m ps xs
 | _,_=>false
def wV (s:Sum) (al:Alt) (m:Mt):AV→AV→Bool
 | .c p,.c x=>wC s al m p x
 | .ag ps,.ag xs=>wL s al m ps xs
 | _,_=>false
def wVs (s:Sum) (al:Alt) (m:Mt):List AV→List AV→Bool
 | [],[]=>true
 | p :: ps,x :: xs=>wV s al m p x&&wVs s al m ps xs
 | _,_=>false
def wS (s:Sum) (al:Alt) (m:Mt):SV→SV→Bool
 | .o p,.o x=>wV s al m p x
 | .tu ps,.tu xs=>wVs s al m ps xs
 | _,_=>false
def wA (s:Sum) (al:Alt) (m:Mt):List SV→List SV→Bool
 | [],[]=>true
 | p :: ps,x :: xs=>wS s al m p x&&wA s al m ps xs
 | _,_=>false
def eqO:Option Nat→Option Nat→Bool
 | none,none=>true
 | some a,some b=>Nat.beq a b
 | _,_=>false
def wB (s:Sum) (al:Alt) (m:Mt) (c:Nat):Bool :=
 match (al.bl[c]?).join with
 | none=>true
 | some (.rows t z 1 es0) =>
  match (lb s m c).bind m.H.bs.get with
  | some (.rows t' z' 1 es) =>
   match es0.get 0,es.get 0 with
   | some ps,some xs=>eqO t t'&&Nat.beq z z'&&wL s al m ps xs
   | _,_=>false
  | _=>false
 | some (.sy own t ks prt) =>
  match (lb s m c).bind m.H.bs.get with
  | some (.sy own' t' ks' rt)=>(own==own')&&Nat.beq t t'&&ksEq ks ks'&&qhf (sR (lv s m) (lr s m) prt) rt&&bR (s.nv+al.mv) (s.nr+al.mr) prt
  | _=>false
 | _=>false
def wD (s:Sum) (al:Alt) (m:Mt) (c d:Nat):Bool :=
 match (al.bl[c]?).join,(al.bl[d]?).join,lb s m c,lb s m d with
 | some _,some _,some b,some b'=>!(Nat.beq b b')
 | _,_,_,_=>true
def okE (s:Sum) (al:Alt) (xs:List SV) (m:Mt):Bool :=
 wA s al m al.res xs&&allN (wB s al m) al.bl.length&&allN (fun c=>allN (fun d=>wD s al m c d) c) al.bl.length&&Nat.ble s.bl.length al.bl.length
section
variable {C:Cfg} {fr:Fr} {E E0:Env} {w0:Ws} {w w':World} {s:Sum} {al:Alt} {m:Mt} {xs:List SV}
structure FitE (s:Sum) (al:Alt) (xs:List SV) (m:Mt):Prop where
 res:wA s al m al.res xs=true
 blk:∀c,c < al.bl.length→wB s al m c=true
 dist:∀c,c < al.bl.length→∀d,d < c→wD s al m c d=true
 len:s.bl.length≤al.bl.length
theorem okE_fits (h:okE s al xs m=true):FitE s al xs m:=by
 simp only[okE,Bool.and_eq_true,Nat.ble_eq] at h
 exact⟨h.1.1.1,qcu h.1.1.2,fun c hc=>qcu (qcu h.1.2 c hc),h.2⟩
def eeOf (s:Sum) (al:Alt) (m:Mt) (E:Env):Env :=
 ⟨fun c=>if c < al.bl.length then (lb s m c).bind fun b=>E b else none,⟨s.nv+al.mv,s.nr+al.mr,syOf (lv s m) (lr s m) E.q.S⟩⟩
theorem ee_rg {c b:Nat} (hc:c < al.bl.length) (hb:lb s m c=some b):(eeOf s al m E) c=E b:=by
 show(if c < al.bl.length then _ else _)=_
 rw[if_pos hc,hb]
 rfl
theorem wC_ok {p x:AC} (h:wC s al m p x=true) {u:Value} (hu:RelC E x u):RelC (eeOf s al m E) p u:=by
 unfold wC at h
 split at h
 ·rw[qfQ h];exact hu
 ·rename_i y k pt
  split at h
  ·rename_i k' te h1
   simp only[Bool.and_eq_true] at h
   obtain⟨⟨hk,ht⟩,hb⟩:=h
   obtain rfl:=qco hk
   obtain⟨g1,g2⟩:=qbl h1 hu
   refine⟨g1,fun S hS=>?_⟩
   have:=qci (q:=(eeOf s al m E).q) hS pt hb
   rw[this]
   have e2:=qcm (lv s m) (lr s m) E.q.S pt
   rw[qaS _ _ ht] at e2
   rw[←g2 _ E.q.has_self]
   exact e2.symm
  ·cases h
 ·rename_i c o b o'
  simp only[Bool.and_eq_true,qaz,decide_eq_true_eq] at h
  obtain⟨hb,rfl⟩:=h
  obtain⟨r,g,hE,hg,rfl⟩:=hu
  obtain⟨hb,hc⟩:=isB_eq hb
  exact⟨r,g,by rw[ee_rg hc hb];exact hE,hg,rfl⟩
 ·rename_i c b
  obtain⟨r,hE,hv⟩:=hu
  obtain⟨hb,hc⟩:=isB_eq h
  exact⟨r,by rw[ee_rg hc hb];exact hE,hv⟩
 ·exact hu
 ·rename_i c pk pn b k n
  simp only[Bool.and_eq_true] at h
  obtain⟨⟨h0,hk1,hk2⟩,hn1,hn2⟩:=h
  obtain⟨hb,hc⟩:=isB_eq h0
  obtain⟨r,a,N,cc,kk,mm,hE,hv,hle,hev,rest⟩:=hu
  have hg:∀{pt te:Te},qcQ (sT (lv s m) (lr s m) pt) te=true→bT (s.nv+al.mv) (s.nr+al.mr) pt=true→∀S,(eeOf s al m E).q.has S→pt.ev S=te.ev E.q.S:=by
   intro pt te ht hb S hS
   have:=qci (q:=(eeOf s al m E).q) hS pt hb
   rw[this]
   have e2:=qcm (lv s m) (lr s m) E.q.S pt
   rw[qaS _ _ ht] at e2
   exact e2.symm
  exact⟨r,a,N,cc,kk,mm,by rw[ee_rg hc hb];exact hE,hv,hle,fun S hS=>⟨by rw[hg hk1 hk2 S hS];exact(hev _ E.q.has_self).1,by rw[hg hn1 hn2 S hS];exact(hev _ E.q.has_self).2⟩,rest⟩
 ·cases h
theorem wL_ok:∀{ps xs:List AC} {us:List Value},wL s al m ps xs=true→RelL E xs us→RelL (eeOf s al m E) ps us
 | [],[],us,h,hr=>by
  have:us=[]:=List.eq_nil_of_length_eq_zero (by rw[←hr.1];rfl)
  subst this
  exact RelL.nil
 | p :: ps,x :: xs,us,h,hr=>by
  simp only[wL,Bool.and_eq_true] at h
  cases us with
  | nil=>exact absurd hr.1 (by simp)
  | cons u us=>exact RelL.cons (wC_ok h.1 (hr.2 0 x u rfl rfl)) (wL_ok h.2 ⟨by simpa using hr.1,fun j y v hy hv=>hr.2 (j+1) y v (by simpa using hy) (by simpa using hv)⟩)
 | [],_ :: _,us,h,hr=>by cases h
 | _ :: _,[],us,h,hr=>by cases h
theorem wV_ok:∀{p x:AV} {u:Value},wV s al m p x=true→RelV E x u→RelV (eeOf s al m E) p u
 | .c p,.c x,u,h,hr=>wC_ok h hr
 | .ag p,.ag x,u,h,⟨arr,e,hr⟩=>⟨arr,e,wL_ok h hr⟩
 | .c p,.ag x,u,h,hr=>by cases h
 | .ag p,.c x,u,h,hr=>by cases h
theorem wVs_get:∀{ps xs:List AV},wVs s al m ps xs=true→ps.length=xs.length∧∀(j:Nat) p,ps[j]?=some p→∃x,xs[j]?=some x∧wV s al m p x=true
 | [],[],h=>⟨rfl,fun j p h=>by simp at h⟩
 | p :: ps,x :: xs,h=>by
  simp only[wVs,Bool.and_eq_true] at h
  obtain⟨h1,h2⟩:=wVs_get h.2
  refine⟨by simp[h1],fun j q hq=>?_⟩
  cases j with
  | zero=>simp at hq;subst hq;exact⟨x,rfl,h.1⟩
  | succ j=>simpa using h2 j q (by simpa using hq)
 | [],_ :: _,h=>by cases h
 | _ :: _,[],h=>by cases h
theorem wS_ok:∀{p x:SV} {u:Value},wS s al m p x=true→RelS E x u→RelS (eeOf s al m E) p u
 | .o p,.o x,u,h,hr=>wV_ok h hr
 | .tu ps,.tu xs,u,h,⟨arr,e,hl,hr⟩=>by
  obtain⟨h1,h2⟩:=wVs_get h
  refine⟨arr,e,by rw[h1];exact hl,fun j p v hp hv=>?_⟩
  obtain⟨x,hx,hw⟩:=h2 j p hp
  exact wV_ok hw (hr j x v hx hv)
 | .o p,.tu x,u,h,hr=>by cases h
 | .tu p,.o x,u,h,hr=>by cases h
theorem wA_ok:∀{ps xs:List SV},wA s al m ps xs=true→ps.length=xs.length∧∀(j:Nat) p,ps[j]?=some p→∃x,xs[j]?=some x∧∀u,RelS E x u→RelS (eeOf s al m E) p u
 | [],[],h=>⟨rfl,fun j p h=>by simp at h⟩
 | p :: ps,x :: xs,h=>by
  simp only[wA,Bool.and_eq_true] at h
  obtain⟨h1,h2⟩:=wA_ok h.2
  refine⟨by simp[h1],fun j q hq=>?_⟩
  cases j with
  | zero=>simp at hq;subst hq;exact⟨x,rfl,fun u hu=>wS_ok h.1 hu⟩
  | succ j=>simpa using h2 j q (by simpa using hq)
 | [],_ :: _,h=>by cases h
 | _ :: _,[],h=>by cases h
theorem ends_ok (hf:FitE s al xs m) (hH:RelH fr w0 E m.H w) (h0:E0.le E) (hn:E0.q.n=s.nv∧E0.q.m=s.nr) (hdef:∀c,c < s.bl.length→∃r,E0 c=some r) (hfr:∀c,s.bl.length≤c→E0 c=none)
  (hfact:C.fact al.id (qcI E0.q s.nv) (qaL E0.q s.nr) (newV (eeOf s al m E).q s.nv al.mv) (newR (eeOf s al m E).q s.nr al.mr)):qbW C fr w0 s E0 al (eeOf s al m E) w:=by
 have hold:∀i,i < s.nv→(lv s m i)=.s i:=fun i hi=>by unfold lv;rw[show Nat.blt i s.nv=true by simpa using hi];rfl
 have holdr:∀i,i < s.nr→(lr s m i)=.s i:=fun i hi=>by unfold lr;rw[show Nat.blt i s.nr=true by simpa using hi];rfl
 have hlb:∀c,c < s.bl.length→lb s m c=some c:=fun c hc=>by unfold lb;rw[show Nat.blt c s.bl.length=true by simpa using hc];rfl
 refine⟨⟨fun c r hr=>?_,?_,?_,fun i hi=>?_,fun j hj=>?_⟩,⟨rfl,rfl⟩,hfact,?_⟩
 ·have hc:c < s.bl.length:=by
   rcases Nat.lt_or_ge c s.bl.length with h | h
   ·exact h
   ·rw[hfr c h] at hr;cases hr
  rw[ee_rg (Nat.lt_of_lt_of_le hc hf.len) (hlb c hc)]
  exact h0.1 _ _ hr
 ·show _≤s.nv+al.mv;rw[hn.1];omega
 ·show _≤s.nr+al.mr;rw[hn.2];omega
 ·rw[hn.1] at hi
  show(lv s m i).ev E.q.S=_
  rw[hold i hi]
  exact h0.2.2.2.1 i (by rw[hn.1];exact hi)
 ·rw[hn.2] at hj
  show(lr s m j).ev E.q.S=_
  rw[holdr j hj]
  exact h0.2.2.2.2 j (by rw[hn.2];exact hj)
 ·have hget:∀c bl,(s.H1 al).bs.get c=some bl→c < al.bl.length∧(al.bl[c]?).join=some bl:=fun c bl h=>by
   have:=(qdV c bl).1 h
   exact⟨(List.getElem?_eq_some_iff.1 this).1,by rw[this];rfl⟩
  have hwh:∀c bl,(s.H1 al).bs.get c=some bl→∃b bl',lb s m c=some b∧m.H.bs.get b=some bl'∧(eeOf s al m E) c=E b:=by
   intro c bl h
   obtain⟨hc,hj⟩:=hget c bl h
   have hv:=hf.blk c hc
   unfold wB at hv
   rw[hj] at hv
   cases hb:lb s m c with
   | none =>
    rw[hb] at hv
    cases bl with
    | rows t z n es=>simp only[Option.bind_none] at hv;split at hv<;>simp_all
    | sy own t ks rt=>simp at hv
   | some b =>
    cases hx:m.H.bs.get b with
    | none =>
     rw[hb] at hv
     simp only[Option.bind_some,hx] at hv
     cases bl with
     | rows t z n es=>split at hv<;>simp_all
     | sy own t ks rt=>simp at hv
    | some bl'=>exact⟨b,bl',rfl,hx,ee_rg hc hb⟩
  refine⟨fun c bl h=>⟨by simpa [Sum.H1,hpOf] using (hget c bl h).1,?_⟩,fun c hc=>?_,fun c c' bl bl' r r' g o h h' e1 e2 a1 a2=>?_,fun c bl r g o h e1 a1=>?_,hH.frlt,hH.keep,⟨rfl,rfl⟩⟩
  ·obtain⟨hc,hj⟩:=hget c bl h
   obtain⟨b,bl',hb,hbs,hee⟩:=hwh c bl h
   have hv:=hf.blk c hc
   unfold wB at hv
   rw[hj,hb] at hv
   simp only[Option.bind_some,hbs] at hv
   split at hv
   ·cases ‹some bl=none›
   ·rename_i t z es0 heq
    cases heq
    split at hv
    ·rename_i t' z' es heq2
     cases heq2
     split at hv
     ·rename_i ps xs' h1 h2
      simp only[Bool.and_eq_true,qaz,decide_eq_true_eq] at hv
      obtain⟨⟨ht,rfl⟩,hw⟩:=hv
      obtain⟨_,r,g,arr,a1,a2,a3,a4,a5,a6,a7,a8,a9,a10,hes⟩:=hH.blk _ _ hbs
      refine⟨r,g,arr,by rw[hee];exact a1,a2,a3,a4,a5,a6,a7,a8,a9,fun t1 h1=>a10 t1 ?_,fun i hi=>?_⟩
      ·subst h1
       cases t' with
       | none=>cases ht
       | some t2=>simp only[eqO] at ht;rw[Nat.eq_of_beq_eq_true ht]
      ·obtain rfl:i=0:=by omega
       obtain⟨xs2,h3,h4⟩:=hes 0 (by omega)
       rw[h2] at h3;cases h3
       exact⟨ps,h1,wL_ok hw h4⟩
     ·cases hv
    ·cases hv
   ·rename_i own t ks prt heq
    cases heq
    split at hv
    ·rename_i own' t' ks' rt heq2
     cases heq2
     simp only[Bool.and_eq_true,beq_iff_eq,qaz,decide_eq_true_eq] at hv
     obtain⟨⟨⟨⟨rfl,rfl⟩,hk⟩,hrt⟩,hbd⟩:=hv
     obtain rfl:=qdv hk
     obtain⟨_,r,L,a1,a2,a3,a4,a5⟩:=hH.blk _ _ hbs
     refine⟨r,L,by rw[hee];exact a1,a2,fun S hS=>?_,a4,a5⟩
     have e1:=qgB (q:=(eeOf s al m E).q) hS prt hbd
     rw[e1]
     have e2:=qgK (lv s m) (lr s m) E.q.S prt
     rw[qcP _ _ hrt] at e2
     rw[←a3 _ E.q.has_self]
     exact e2.symm
    ·cases hv
   ·cases hv
  ·show(if c < al.bl.length then _ else _)=_
   rw[if_neg (by simpa [Sum.H1,hpOf] using hc)]
  ·obtain⟨b,x,hb,hbs,hee⟩:=hwh c bl h
   obtain⟨b',x',hb',hbs',hee'⟩:=hwh c' bl' h'
   rw[hee] at e1
   rw[hee'] at e2
   have hbb:=hH.apart b b' x x' r r' g o hbs hbs' e1 e2 a1 a2
   subst hbb
   have key:∀c c' bl bl',(s.H1 al).bs.get c=some bl→(s.H1 al).bs.get c'=some bl'→lb s m c=some b→lb s m c'=some b→c' < c→False:=by
    intro c c' bl bl' h h' hb hb' hlt2
    obtain⟨hc,hj⟩:=hget c bl h
    obtain⟨hc',hj'⟩:=hget c' bl' h'
    have hv:=hf.dist c hc c' hlt2
    unfold wD at hv
    rw[hj,hj',hb,hb'] at hv
    simp at hv
   rcases Nat.lt_trichotomy c c' with h1 | h1 | h1
   ·exact(key c' c bl' bl h' h hb' hb h1).elim
   ·exact h1
   ·exact(key c c' bl bl' h h' hb hb' h1).elim
  ·obtain⟨b,x,hb,hbs,hee⟩:=hwh c bl h
   rw[hee] at e1
   intro hfr
   obtain⟨⟨⟨t1,ks1,rt1,rfl,ht1⟩,u2⟩,u3⟩:=hH.free b x r g o hbs e1 a1 hfr
   obtain⟨hc,hj⟩:=hget c bl h
   have hv:=hf.blk c hc
   unfold wB at hv
   rw[hj,hb] at hv
   simp only[Option.bind_some,hbs] at hv
   split at hv
   ·cases ‹some bl=none›
   ·rename_i heq;cases hv
   ·rename_i own t ks prt heq
    cases heq
    simp only[Bool.and_eq_true,beq_iff_eq,qaz,decide_eq_true_eq] at hv
    obtain⟨⟨⟨⟨rfl,rfl⟩,_⟩,_⟩,_⟩:=hv
    exact⟨⟨⟨_,_,_,rfl,ht1⟩,u2⟩,u3⟩
   ·cases hv
end
def unB:Bl→Bl
 | .sy true t ks rt=>.sy true (unm t) ks rt
 | bl=>bl
def mkB (e:Nat):Bl→Bl
 | .sy true t ks rt=>.sy true (bif Nat.beq t e then t+1000000 else t) ks rt
 | bl=>bl
def roB:Bl→Bl
 | .sy _ t ks rt=>.sy false t ks rt
 | bl=>bl
def Sum.on (g:Bl→Bl) (s:Sum):Sum:={ s with bl:=s.bl.map g,outs:=s.outs.map fun al=>{ al with bl:=al.bl.map (Option.map g) } }
def Alt.un (al:Alt):Alt:={ al with bl:=al.bl.map (Option.map unB) }
def Sum.un (s:Sum):Sum:={ s with bl:=s.bl.map unB,outs:=s.outs.map Alt.un }
def mrkB:Bl→Bool
 | .sy own t _ _=>own&&Nat.blt t 2000000
 | _=>true
def mrkO:Option Bl→Bool
 | some b=>mrkB b
 | none=>true
def mrk1:Option Bl→Bool
 | some (.sy true t _ (.s _))=>Nat.ble 1000000 t
 | _=>false
def mrkS (s:Sum):Bool:=s.bl.all mrkB&&s.outs.all (fun al=>al.bl.all mrkO)&&mrk1 (s.bl[1]?)
def Held0 (w:World) (u:Value) (z:Nat) (L:Rw):Prop:=∃a c,u=.slice a L.length c∧L.length≤c∧L.length≤maxLen∧(0 < L.length*z→∃g o arr t' fz,a=some ⟨g,o,none⟩∧w.heap[g]?=some (.cells arr t' fz)∧o+L.length*z≤arr.size∧(arr.toList.drop o).take (L.length*z)=L.flatten)
section
variable {C:Cfg} {fr:Fr} {E E0:Env} {w0:Ws} {H:Hp} {w w':World} {s:Sum}
theorem unm_un {t:Nat} (h:t < 2000000):unm (unm t)=unm t:=by
 apply qdR
 unfold unm
 cases hb:Nat.blt t 1000000 with
 | true=>rw[cond_true];simpa using hb
 | false=>rw[cond_false];omega
theorem unB_mk {bl : Bl} (h : mrkB bl = true) (hm : Mk (unB bl)) : False := by
  obtain ⟨t, ks, rt, e, ht⟩ := hm
  cases bl with
  | rows => cases e
  | sy own t0 ks0 rt0 =>
    cases own with
    | false => cases h
    | true =>
      simp only [unB] at e
      cases e
      simp only [mrkB, Bool.true_and, Nat.blt_eq] at h
      unfold unm at ht
      cases hb : Nat.blt t0 1000000 with
      | true => rw [hb, cond_true] at ht; have : t0 < 1000000 := by simpa using hb
                omega
      | false => rw [hb, cond_false] at ht; omega
theorem unB_rel {fr2:Fr} {b:Nat} {bl:Bl} (h:mrkB bl=true):RelB fr E w b (unB bl)↔RelB fr2 E w b bl:=by
 cases bl with
 | rows=>exact Iff.rfl
 | sy own t ks rt =>
  cases own with
  | false=>cases h
  | true =>
   simp only[mrkB,Bool.true_and,Nat.blt_eq] at h
   simp only[unB,RelB,Lies,unm_un h]
theorem un_H0 {b:Nat} {bl:Bl}:s.H0.bs.get b=some bl→s.un.H0.bs.get b=some (unB bl):=by
 intro h
 simp only[Sum.H0,qcd,Sum.un,List.getElem?_map] at h ⊢
 cases hq:s.bl[b]? with
 | none=>rw[hq] at h;cases h
 | some x=>rw[hq] at h;cases h;rfl
theorem un_H1 {al:Alt} {b:Nat} {y:Bl} (h:(s.un.H1 al.un).bs.get b=some y):∃bl,(s.H1 al).bs.get b=some bl∧y=unB bl:=by
 simp only[Sum.H1,qcd,Alt.un,List.getElem?_map] at h ⊢
 cases hq:al.bl[b]? with
 | none=>rw[hq] at h;cases h
 | some x =>
  rw[hq] at h
  cases x with
  | none=>cases h
  | some bl=>cases h;exact⟨bl,rfl,rfl⟩
theorem mrk_H0 (hm:mrkS s=true) {b:Nat} {bl:Bl} (h:s.H0.bs.get b=some bl):mrkB bl=true:=by
 simp only[mrkS,Bool.and_eq_true,List.all_eq_true] at hm
 simp only[Sum.H0,qcd,List.getElem?_map] at h
 cases hq:s.bl[b]? with
 | none=>rw[hq] at h;cases h
 | some x=>rw[hq] at h;cases h;exact hm.1.1 _ (List.mem_of_getElem? hq)
theorem mrk_H1 (hm:mrkS s=true) {al:Alt} (hal:al∈s.outs) {b:Nat} {bl:Bl} (h:(s.H1 al).bs.get b=some bl):mrkB bl=true:=by
 simp only[mrkS,Bool.and_eq_true,List.all_eq_true] at hm
 simp only[Sum.H1,qcd] at h
 cases hq:al.bl[b]? with
 | none=>rw[hq] at h;cases h
 | some x =>
  rw[hq] at h
  cases x with
  | none=>cases h
  | some y=>cases h;exact hm.1.2 al hal _ (List.mem_of_getElem? hq)
def useC (s:Sum) (E:Env):Nat→Nat→Prop:=fun g o=>∃b bl r,s.H0.bs.get b=some bl∧Mk bl∧E b=some r∧r.own=some g∧∃ad n c,r.val=.slice ad n c∧o < n*r.z
theorem sy_whole {b t:Nat} {ks:List CK} {rt:RT} (h:RelB fr E w b (.sy true t ks rt)) {r:Rg} (hr:E b=some r) {g:Nat} (hg:r.own=some g):r.whole=true:=by
 obtain⟨r',L,hr',_,_,_,k⟩:=h
 rw[hr] at hr';cases hr'
 rcases k with ⟨k,_⟩ | ⟨_,_,_,k,_⟩
 ·rw[k] at hg;cases hg
 ·exact k
theorem stay_of (hm:mrkS s=true) {f:FuncId} (h:qcA C f s) (fr:Fr) (w0:Ws) (w:World) (E0:Env) (vs:Array Value) (a1:E0.q.n=s.nv) (a2:E0.q.m=s.nr) (hH:RelH fr w0 E0 s.un.H0 w) (a3:s.as0.length=vs.size) (a4:∀(j:Nat) x v,s.as0[j]?=some x→vs[j]?=some v→RelS E0 x v) (a5:C.pre s.pid (qcI E0.q s.nv) (qaL E0.q s.nr)) :
  Calls C.P f vs w fun e w'=>(∃al∈s.un.outs,∃E1 v r,e=.returned v∧al.res=[r]∧RelS E1 r v∧qbW C fr w0 s.un E0 al E1 w') ∧
   ∀r t ks j,E0 1=some r→s.bl[1]?=some (.sy true t ks (.s j))→RowOk ks (E0.q.S.r j)∧Held0 w' r.val ks.length (E0.q.S.r j):=by
 have hstrong:∀b bl r g o,s.H0.bs.get b=some bl→E0 b=some r→r.has g o→¬fr g o:=fun b bl r g o hb hr ho hf=>unB_mk (mrk_H0 hm hb) (hH.free b _ r g o (un_H0 hb) hr ho hf).1.1
 have hB:∀b bl,s.H0.bs.get b=some bl→RelB (fun g o=>fr g o∨useC s E0 g o) E0 w b bl:=fun b bl hb=>(unB_rel (mrk_H0 hm hb)).1 (hH.blk b _ (un_H0 hb)).2
 have hH':RelH (fun g o=>fr g o∨useC s E0 g o) ⟨w,useC s E0⟩ E0 s.H0 w:=by
  refine⟨fun b bl hb=>⟨?_,hB b bl hb⟩,fun b hb=>hH.fresh b ?_,fun b b' bl bl' r r' g o h1 h2=>hH.apart b b' _ _ r r' g o (un_H0 h1) (un_H0 h2),fun b bl r g o hb hr ho hf=>?_,fun g o hf=>?_,Keeps.refl _ _,hH.cnt⟩
  ·have:=(hH.blk b _ (un_H0 hb)).1
   simpa [Sum.H0,Sum.un,hpOf] using this
  ·simpa [Sum.H0,Sum.un,hpOf] using hb
  ·rcases hf with hf | hf
   ·exact absurd hf (hstrong b bl r g o hb hr ho)
   ·obtain⟨b2,bl2,r2,k1,k2,k3,k4,k5⟩:=hf
    obtain⟨t,ks,rt,rfl,ht⟩:=k2
    have hw:=sy_whole (hB b2 _ k1) k3 k4
    have:=hH.apart b b2 _ _ r r2 g o (un_H0 hb) (un_H0 k1) hr k3 ho ⟨k4,.inl hw⟩
    subst this
    rw[hb] at k1;cases k1
    rw[hr] at k3;cases k3
    exact⟨⟨⟨_,_,_,rfl,ht⟩,k5⟩,b,_,r,hb,⟨_,_,_,rfl,ht⟩,hr,k4,k5⟩
  ·rcases hf with hf | ⟨b2,bl2,r2,k1,_,k3,k4,_⟩
   ·exact Nat.lt_of_lt_of_le (hH.frlt g o hf) hH.keep.size
   ·obtain⟨r',hr',hlt⟩:=(hB b2 bl2 k1).lt
    rw[k3] at hr';cases hr'
    exact hlt g k4
 refine(h _ _ w E0 vs a1 a2 hH' a3 a4 a5).mono ?_
 rintro e w' ⟨al,hal,E1,v,r,rfl,hres,hv,t1,t2,t3,t4⟩
 refine⟨⟨al.un,List.mem_map.2 ⟨al,hal,rfl⟩,E1,v,r,rfl,hres,hv,t1,t2,t3,?_⟩,?_⟩
 ·refine⟨fun b y hy=>?_,fun b hb=>t4.fresh b ?_,fun b b' y y' r r' g o h1 h2=>?_,fun b y r g o hy hr ho hf=>?_,hH.frlt,hH.keep.trans (t4.keep.sub fun g o hf=>.inl hf),t4.cnt⟩
  ·obtain⟨bl,hb,rfl⟩:=un_H1 hy
   refine⟨?_,(unB_rel (mrk_H1 hm hal hb)).2 (t4.blk b bl hb).2⟩
   have:=(t4.blk b bl hb).1
   simpa [Sum.H1,Sum.un,Alt.un,hpOf] using this
  ·simpa [Sum.H1,Sum.un,Alt.un,hpOf] using hb
  ·obtain⟨bl,hb,rfl⟩:=un_H1 h1
   obtain⟨bl',hb',rfl⟩:=un_H1 h2
   exact t4.apart b b' bl bl' r r' g o hb hb'
  ·exfalso
   obtain⟨bl,hb,rfl⟩:=un_H1 hy
   obtain⟨_,b2,bl2,r2,k1,⟨t,ks,rt,rfl,ht⟩,k3,k4,k5⟩:=t4.free b bl r g o hb hr ho (.inl hf)
   exact hstrong b2 _ r2 g o k1 k3 ⟨k4,.inl (sy_whole (hB b2 _ k1) k3 k4)⟩ hf
 ·intro r2 t ks j hr2 hb1
  have hb:s.H0.bs.get 1=some (.sy true t ks (.s j)):=by
   simp only[Sum.H0,qcd,List.getElem?_map,hb1]
   rfl
  have hmk:1000000≤t:=by
   simp only[mrkS,Bool.and_eq_true,hb1,mrk1,Nat.ble_eq] at hm
   exact hm.2
  obtain⟨r',L,hr',k1,k2,k3,k4⟩:=hB 1 _ hb
  rw[hr2] at hr';cases hr'
  have hL:E0.q.S.r j=L:=k2 _ E0.q.has_self
  rw[hL]
  refine⟨k3,?_⟩
  rcases k4 with ⟨p1,p2,p3⟩ | ⟨g,arr,p1,p2,p3,p4,p5,p6,p7,p8,p9,p10⟩
  ·subst p3
   exact⟨none,0,p2,Nat.le_refl _,by simp,fun h=>by simp at h⟩
  ·refine⟨_,_,p5,p8,by omega,fun hpos=>?_⟩
   rw[←k1] at hpos ⊢
   have hu:∀o,o < L.length*r2.z→useC s E0 g o:=fun o ho=>⟨1,_,r2,hb,⟨_,_,_,rfl,hmk⟩,hr2,p1,_,_,_,p5,ho⟩
   obtain⟨arr',e1,e2,e3⟩:=t4.keep.blk g ⟨0,.inr (hu 0 hpos)⟩ arr _ _ p6
   refine⟨g,0,arr',_,_,rfl,e1,?_,?_⟩
   ·rw[e2,p7,Nat.zero_add];exact Nat.mul_le_mul_right _ p8
   ·rw[←p10]
    have:=qfD (a:=0) (n:=L.length*r2.z) e2 fun o _ ho=>e3 o (.inr (hu o (by omega)))
    simpa using this
structure RoS where
 ks:List CK
 k0:CK
 k1:CK
 kA:CK
 kB:CK
 pid:Nat
 id:Nat
def roSum:Sum→Option RoS
 | ⟨_,[.o (.ag [.sr 0]),.o (.c (.t k0 (.s 0))),.o (.c (.t k1 (.s 1)))],[.sy false _ ks (.s 0)],2,1,pid,[⟨_,_,[.tu [.c (.t kA (.s 2)),.c (.t kB (.s 3))]],_,2,0,id⟩]⟩=>some ⟨ks,k0,k1,kA,kB,pid,id⟩
 | _=>none
theorem ro_call {f:FuncId} (h:qcA C f s) {p:RoS} (hs:roSum s=some p) {u v0 v1:Value} {L:Rw} (hL:RowOk p.ks L) (hk:Held0 w u p.ks.length L) (h0:p.k0.has v0) (h1:p.k1.has v1) (hp:C.pre p.pid [v0,v1] [L]) :
  Calls C.P f #[.agg #[u],v0,v1] w fun e w'=>∃x y,e=.returned (.tuple #[x,y])∧p.kA.has x∧p.kB.has y∧C.fact p.id [v0,v1] [L] [x,y] []∧Below w.heap.size w w':=by
 unfold roSum at hs
 split at hs
 ·rename_i sl k0 k1 t ks pid ex sl2 kA kB abl id
  cases hs
  obtain⟨A,c,rfl,q1,q2,q3⟩:=hk
  have hE:RelH (fun g _=>g < w.heap.size) ⟨w,fun _ _=>False⟩ ⟨fun b=>if b=0 then some ⟨none,0,0,ks.length,t,false,.slice A L.length c⟩ else none,⟨2,1,⟨fun i=>[v0,v1].getD i undef,fun j=>[L].getD j []⟩⟩⟩ (hpOf 2 1 [some (.sy false t ks (.s 0))]) w:=by
   have hget:∀b bl,(hpOf 2 1 [some (.sy false t ks (.s 0))]).bs.get b=some bl→b=0∧bl=.sy false t ks (.s 0):=fun b bl hb=>by
    rw[qcd] at hb
    cases b with
    | zero=>simp at hb;exact⟨rfl,hb.symm⟩
    | succ b=>simp at hb
   refine⟨fun b bl hb=>?_,fun b hb=>?_,fun b b' bl bl' r r' g o h1 h2 _ _ _ _=>?_,fun b bl r g o hb hr ho=>?_,fun g o h=>h,Keeps.refl _ _,⟨rfl,rfl⟩⟩
   ·obtain⟨rfl,rfl⟩:=hget b bl hb
    refine⟨by show 0 < 1;omega,_,L,rfl,rfl,fun S hS=>?_,hL,rfl,A,c,rfl,q1,q2,fun hpos=>?_⟩
    ·exact hS.2 0 (by show 0 < 1;omega)
    ·obtain⟨g,o,arr,t',fz,p1,p2,p3,p4⟩:=q3 hpos
     exact⟨g,o,arr,t',fz,p1,p2,p3,p4,fun j _ _=>(Array.getElem?_eq_some_iff.1 p2).1⟩
   ·have hb:1≤b:=hb
    show(if b=0 then _ else none)=none
    rw[if_neg (by omega)]
   ·rw[(hget b bl h1).1,(hget b' bl' h2).1]
   ·obtain⟨rfl,rfl⟩:=hget b bl hb
    cases hr
    cases ho.1
  refine(h _ _ w _ #[.agg #[.slice A L.length c],v0,v1] rfl rfl hE rfl ?_ hp).mono ?_
  ·intro j x v hx hv
   match j with
   | 0 =>
    simp at hx hv
    subst hx hv
    refine⟨_,rfl,rfl,fun i x u hx hu=>?_⟩
    cases i with
    | zero=>simp at hx hu;subst hx hu;exact⟨_,rfl,rfl,_,_,_,rfl⟩
    | succ i=>simp at hx
   | 1=>simp at hx hv;subst hx hv;exact⟨h0,fun S hS=>hS.1 0 (by show 0 < 2;omega)⟩
   | 2=>simp at hx hv;subst hx hv;exact⟨h1,fun S hS=>hS.1 1 (by show 1 < 2;omega)⟩
   | j+3=>simp at hx
  ·rintro e w' ⟨al,hal,E1,v,r,rfl,hres,hv,t1,t2,t3,t4⟩
   simp at hal
   subst hal
   simp at hres
   subst hres
   obtain⟨arr,rfl,hsz,hall⟩:=hv
   match arr,hsz,hall with
   | ⟨[x,y]⟩,_,hall =>
    have hx:=hall 0 _ x rfl rfl
    have hy:=hall 1 _ y rfl rfl
    refine⟨x,y,rfl,hx.1,hy.1,?_,t4.keep.os,t4.keep.tape,t4.keep.output,t4.keep.size,fun k hk=>t4.keep.full k (fun _=>hk) hk⟩
    have e1:=hx.2 _ E1.q.has_self
    have e2:=hy.2 _ E1.q.has_self
    have e3:C.fact id [v0,v1] [L] [E1.q.S.v 2,E1.q.S.v 3] []:=t3
    simp only[Te.ev] at e1 e2
    rw[e1,e2] at e3
    exact e3
 ·cases hs
def qfy:Op→Option (FuncId × List Operand)
 | .call { callee:=.value (.func f),args,argTypes }=>some (f,args.toList)
 | _=>none
def qgp:List Sum→Option (Sum × RoS)
 | []=>none
 | s :: l=>match roSum s with
  | some p=>some (s,p)
  | none=>qgp l
def at1 (l:List Bl):Option Bl:=l[1]?
def openT (C:Cfg) (N:Nat) (s:Sum) (m:Mt) (ol:Oper) (tm:Tm) (H:Hp) (k:Tm→Hp→Out):Out :=
 match ol.guard,qfy ol.op with
 | none,some (f,args) =>
  match C.fn f,argsO tm args,qgp (C.sums f),at1 s.bl,m.b.get 1 with
  | some F,some [.o (.ag [.sr b]),.o (.c (.t k0 x)),.o (.c (.t k1 y))],some (_,p),some (.sy true _ ks (.s j)),some (b',_) =>
   bif F.body.isSome&&Nat.beq b b'&&ksEq ks p.ks&&qgU k0 p.k0&&qgU k1 p.k1&&Nat.blt j s.nr then
    .pre p.pid (.cons x (.cons y .nil)) (.cons (qeF s m j) .nil) (.fresh 2 0 p.id (.cons x (.cons y .nil)) (.cons (qeF s m j) .nil)
     (putK N tm ol.dst (some (.tu [.c (.t p.kA (.s H.n)),.c (.t p.kB (.s (H.n+1)))])) { H with n:=H.n+2 } k))
   else .fail
  | _,_,_,_,_=>.fail
 | _,_=>.fail
def staleL (C:Cfg) (N:Nat) (oj ol:Oper) (as:List SV) (tm:Tm) (H:Hp) (k:Tm→Hp→Out):List Sum→Out
 | []=>.fail
 | s :: l =>
  match (bif mrkS s then callS s.un as H (fun _ rs H'=>match rs with
   | [r]=>putK N tm oj.dst (some r) H' fun tm' H'=>openT C N s (qbJ s.un as H).2 ol tm' H' k
   | _=>.fail) else none) with
  | some o=>o
  | none=>staleL C N oj ol as tm H k l
def stale2 (C:Cfg) (N:Nat) (oj ol:Oper) (tm:Tm) (H:Hp) (k:Tm→Hp→Out):Out :=
 match oj.guard,qfy oj.op with
 | none,some (f,args) =>
  match C.fn f,argsO tm args with
  | some F,some as=>bif F.body.isSome then staleL C N oj ol as tm H k (C.sums f) else .fail
  | _,_=>.fail
 | _,_=>.fail
def staleT (C:Cfg) (ce:Ce) (N:Nat) (ops:Array Oper):Pl→List Ld→Tm→Hp→(Tm→Hp→Out)→Out
 | .take i rest,pend,tm,H,k=>qgi C ce N ops i true pend tm H (fun pend tm H=>staleT C ce N ops rest pend tm H k)
 | .two i (.one j (.one l rest)) i2 y,pend,tm,H,k =>
  .both (qgi C ce N ops i false pend tm H (fun pend tm H =>
   match pend,ops[j]?,ops[l]? with
   | [],some oj,some ol=>stale2 C N oj ol tm H (fun tm H=>drawT C ce N ops rest [] tm H k)
   | _,_,_=>.fail)) (qgi C ce N ops i2 false pend tm H (fun pend tm H=>drawT C ce N ops y pend tm H k))
 | _,_,_,_,_=>.fail
def anyMrk (C:Cfg) (o:Oper):Bool :=
 match qfy o.op with
 | some (f,_)=>(C.sums f).any mrkS
 | none=>false
def anyRo (C:Cfg) (o:Oper):Bool :=
 match qfy o.op with
 | some (f,_)=>(C.sums f).any fun s=>(roSum s).isSome
 | none=>false
def isStale (C:Cfg) (ops:Array Oper):Pl→Bool
 | .take _ r=>isStale C ops r
 | .two _ (.one j (.one l _)) _ _=>anyMrk C (ops.getD j default)&&anyRo C (ops.getD l default)
 | _=>false
def drawZ (C:Cfg) (ce:Ce) (N:Nat) (ops:Array Oper) (tm:Tm) (H:Hp) (k:Tm→Hp→Out):Out :=
 match planR C ops with
 | none=>.fail
 | some p=>bif isStale C ops p then staleT C ce N ops p [] tm H k else drawT C ce N ops p [] tm H k
end
section
variable {C:Cfg} {K0:Qn→Ex→Tm→Hp→Prop} {fr:Fr} {E:Env} {N:Nat} {tm tm':Tm} {a:Act} {w0:Ws} {H H':Hp} {w w':World} {ce:Ce} {s:Sum}
theorem isCall_eq {op:Op} {f:FuncId} {args:List Operand} (h:qfy op=some (f,args)):∃as ts,op=.call { callee:=.value (.func f),args:=as,argTypes:=ts }∧as.toList=args:=by
 unfold qfy at h
 split at h
 ·cases h;exact⟨_,_,rfl,rfl⟩
 ·cases h
theorem wp_call (hC:C.Ok) {o:Oper} {f:FuncId} {args:List Operand} (hi:qfy o.op=some (f,args)) {F:Func} (hF:C.fn f=some F) (hb:F.body.isSome=true) {R:Ending→World→Prop} (hc:Calls C.P f (args.map a.eval).toArray w R) {K:Act→World→Prop} {Q:Exit→Act→World→Prop}
  (hK:∀e w',R e w'→∃v,e=.returned v∧K (a.put o.dst v) w'):o.wp C.P a w K Q:=by
 obtain⟨as,ts,ho,hl⟩:=isCall_eq hi
 obtain⟨hf,hnm⟩:=hC.fn _ _ hF
 have hargs:(args.map a.eval).toArray=as.map a.eval:=by rw[←hl];apply Array.toList_inj.1;simp
 rw[hargs] at hc
 have hrun:(execOp a.eval o).run C.P w=.ok (.enter f (as.map a.eval)) w:=by
  unfold execOp;rw[ho]
  have hnn:F.body.isNone=false:=by cases hbb:F.body<;>simp_all
  simp only[resolve,Act.eval,Deferred.ofValue,invoke,callFunc,Sem.run_bind,Sem.run_pure,Result.andThen_ok,run_program,hf]
  simp[hnm,hnn]
 unfold Oper.wp
 rw[hrun]
 refine hc.mono ?_
 intro e w' hr
 obtain⟨v,rfl,hk⟩:=hK e w' hr
 exact hk
theorem qhl {ops:Array Oper} {j:Nat} {o:Oper} (ho:ops[j]?=some o) (hg:o.guard=none) {P:Program} {Q:Exit→Act→World→Prop} {K:Act→World→Prop} (h:o.wp P a w K Q):wpOp P ops Q j K a w:=by
 unfold wpOp
 rw[ho]
 simp only
 rw[if_pos (by unfold Region.wanted;rw[hg])]
 exact .inl h
theorem firstRo_cons (s:Sum) (l:List Sum):qgp (s :: l)=match roSum s with
  | some p=>some (s,p)
  | none=>qgp l:=rfl
theorem firstRo_eq {l:List Sum} {s:Sum} {p:RoS} (h:qgp l=some (s,p)):s∈l∧roSum s=some p:=by
 induction l with
 | nil=>cases h
 | cons s0 l ih =>
  rw[firstRo_cons] at h
  generalize hp:roSum s0=q at h
  cases q with
  | some q=>obtain⟨rfl,rfl⟩:=Prod.mk.inj (Option.some.inj h);exact⟨List.mem_cons_self,hp⟩
  | none=>exact⟨List.mem_cons_of_mem _ (ih h).1,(ih h).2⟩
theorem RelH.syms (hH:RelH fr w0 E H w) (vs:List Value):RelH fr w0 ⟨E.rg,E.q.ext vs []⟩ ⟨H.next,H.bs,H.n+vs.length,H.m⟩ w where
 blk b bl hb:=⟨(hH.blk b bl hb).1,RelB.mono (show E.le ⟨E.rg,E.q.ext vs []⟩ from ⟨fun _ _ h=>h,Qn.le_ext _ _ _⟩) (hH.blk b bl hb).2⟩
 fresh:=hH.fresh
 apart:=hH.apart
 free:=hH.free
 frlt:=hH.frlt
 keep:=hH.keep
 cnt:=⟨by show E.q.n+vs.length=H.n+vs.length;rw[hH.cnt.1],hH.cnt.2⟩
theorem openT_ok (hC:C.Ok) (hS:∀f s,s∈C.sums f→qcA C f s) {as':List SV} {m:Mt} {E1:Env} {w1:World} {ol:Oper} {k:Tm→Hp→Out} (h:(openT C N s m ol tm H k).Ok C K0 E.q) (hf:Fits s.un as' m) (hm:RelH fr w0 E1 m.H w1) (hle:E1.le E) (hH:RelH fr w0 E H w) (hT:RelT E N tm a)
  (hst:∀r t ks j,(qcF s.un m E1) 1=some r→s.bl[1]?=some (.sy true t ks (.s j))→RowOk ks ((qcF s.un m E1).q.S.r j)∧Held0 w r.val ks.length ((qcF s.un m E1).q.S.r j)) {ops:Array Oper} {l:Nat} (hl:ops[l]?=some ol) {Q:Exit→Act→World→Prop} {K:Act→World→Prop}
  (hK:∀E' w' v tm' H',E.le E'→RelH fr w0 E' H' w'→RelT E' N tm' (a.put ol.dst v)→(k tm' H').Ok C K0 E'.q→K (a.put ol.dst v) w'):wpOp C.P ops Q l K a w:=by
 unfold openT at h
 split at h
 ·rename_i f args hg hi
  split at h
  ·rename_i F b k0 x k1 y sr p t ks j b' o' hF has hro hbl hmb
   have hbl:s.bl[1]?=some (.sy true t ks (.s j)):=hbl
   cases hc:(F.body.isSome&&Nat.beq b b'&&ksEq ks p.ks&&qgU k0 p.k0&&qgU k1 p.k1&&Nat.blt j s.nr) with
   | false=>rw[hc] at h;exact h.elim
   | true =>
    rw[hc,cond_true] at h
    simp only[Bool.and_eq_true,qaz,decide_eq_true_eq,Nat.blt_eq] at hc
    obtain⟨⟨⟨⟨⟨hb,rfl⟩,hks⟩,hk0⟩,hk1⟩,hj⟩:=hc
    obtain rfl:=qdv hks
    obtain rfl:=qco hk0
    obtain rfl:=qco hk1
    obtain⟨hin,hrs⟩:=firstRo_eq hro
    obtain⟨hlen,hrel⟩:=qeH hT args has
    match args,hlen,hrel with
    | [z0,z1,z2],_,hrel =>
     have r0:=hrel 0 _ _ rfl rfl
     have r1:=hrel 1 _ _ rfl rfl
     have r2:=hrel 2 _ _ rfl rfl
     obtain⟨arr,ev0,hl0⟩:=r0
     have hsz:arr.toList.length=1:=by rw[←hl0.1];rfl
     obtain⟨u,hu⟩:∃u,arr=#[u]:=by
      match arr,hsz with
      | ⟨[u]⟩,_=>exact⟨u,rfl⟩
     subst hu
     obtain⟨rb,hrb,hub,_⟩:=hl0.2 0 _ u rfl rfl
     have hbl2:s.un.bl[1]?=some (.sy true (unm t) p.ks (.s j)):=by simp only[Sum.un,List.getElem?_map,hbl];rfl
     obtain⟨rr,hrr⟩:=rg_def hf hm (c:=1) (List.getElem?_eq_some_iff.1 hbl2).1
     have hrg:qcN s.un m E1 1=E1 b:=by simp only[qcN,hbl2,hmb]
     rw[hrg] at hrr
     have:=hle.1 _ _ hrr
     rw[hrb] at this;cases this
     obtain⟨g1,g2⟩:=hst rb t p.ks j (by show qcN s.un m E1 1=_;rw[hrg];exact hrr) hbl
     have hre:(qeF s m j).ev E.q.S=(qcF s.un m E1).q.S.r j:=by
      have e1:=e0_r hf hm (j:=j) (by exact hj) (hle.2.2.2)
      exact e1
     obtain⟨p1,p2⟩:=h
     simp only[TL.ev,RL.ev] at p1 p2
     have ex:=r1.2 _ E.q.has_self
     have ey:=r2.2 _ E.q.has_self
     rw[ex,ey,hre] at p1
     refine qhl hl hg (wp_call hC hi hF hb (R:=fun e w'=>∃x y,e=.returned (.tuple #[x,y])∧p.kA.has x∧p.kB.has y∧C.fact p.id [a.eval z1,a.eval z2] [(qcF s.un m E1).q.S.r j] [x,y] []∧Below w.heap.size w w') ?_ ?_)
     ·have:=ro_call (hS f sr hin) hrs (w:=w) (u:=u) (v0:=a.eval z1) (v1:=a.eval z2) (L:=(qcF s.un m E1).q.S.r j) g1 (by rw[hub];exact g2) r1.1 r2.1 p1
      simpa [ev0] using this
     ·rintro e w' ⟨vx,vy,rfl,qx,qy,hfact,hbelow⟩
      refine⟨_,rfl,?_⟩
      have p3:=p2 [vx,vy] [] rfl rfl (by simp only[TL.ev,RL.ev,ex,ey,hre];exact hfact)
      have hH2:=(hH.grow hbelow).syms [vx,vy]
      have hle2:E.le ⟨E.rg,E.q.ext [vx,vy] []⟩:=⟨fun _ _ h=>h,Qn.le_ext _ _ _⟩
      have hn:E.q.n=H.n:=hH.cnt.1
      obtain⟨tm',h3,h4⟩:=qbX (r:=some (.tu [.c (.t p.kA (.s H.n)),.c (.t p.kB (.s (H.n+1)))])) (v:=.tuple #[vx,vy]) (d:=ol.dst) (hT.mono hle2) p3 (show Told _ _ _ from ⟨#[vx,vy],rfl,rfl,fun i c v hc hv=>by
       match i with
       | 0 =>
        simp at hc hv;subst hc hv
        refine⟨qx,fun S hS=>?_⟩
        have:=hS.1 H.n (by show H.n < E.q.n+2;omega)
        simp only[Te.ev]
        rw[this]
        show(if H.n < E.q.n then _ else _)=_
        rw[if_neg (by omega),hn,Nat.sub_self]
        rfl
       | 1 =>
        simp at hc hv;subst hc hv
        refine⟨qy,fun S hS=>?_⟩
        have:=hS.1 (H.n+1) (by show H.n+1 < E.q.n+2;omega)
        simp only[Te.ev]
        rw[this]
        show(if H.n+1 < E.q.n then _ else _)=_
        rw[if_neg (by omega),hn,show H.n+1 - H.n=1 by omega]
        rfl
       | i+2=>simp at hc⟩)
      exact hK _ w' _ tm' _ hle2 hH2 h3 h4
  ·exact h.elim
 ·exact h.elim
theorem callS_begin2 {as:List SV} {k:Alt→List SV→Hp→Out} {o:Out} (hc:callS s as H k=some o) (ho:o.Ok C K0 E.q) (hH:RelH fr w0 E H w) {vs:List Value} (hl:as.length=vs.length) (hr:∀(j:Nat) x v,as[j]?=some x→vs[j]?=some v→RelS E x v) :
  ∃E',E.le E'∧E'.q=E.q∧Fits s (qbJ s as H).1 (qbJ s as H).2∧RelH fr w0 E' (qbJ s as H).2.H w∧RelH (frOf fr s (qbJ s as H).2 E' w) (wsOf w0 s (qbJ s as H).2 E' w) (qcF s (qbJ s as H).2 E') s.H0 w∧s.as0.length=vs.length∧(∀(j:Nat) x v,s.as0[j]?=some x→vs[j]?=some v→RelS (qcF s (qbJ s as H).2 E') x v)∧C.pre s.pid (qcI (qcF s (qbJ s as H).2 E').q s.nv) (qaL (qcF s (qbJ s as H).2 E').q s.nr) ∧
   ∀al∈s.outs,(alt1 s (qbJ s as H).2 k al).Ok C K0 E'.q:=by
 unfold callS at hc
 cases hok:okM s (qbJ s as H).1 (qbJ s as H).2 with
 | false=>rw[hok] at hc;cases hc
 | true =>
  rw[hok,cond_true] at hc
  cases hc
  obtain⟨E',h1,h2,h3,h4,h5⟩:=bind1_ok (s:=s) hH hl hr
  have hf:=okM_fits hok
  obtain⟨k1,k2⟩:=vA_ok hf h3 hf.args h4 h5
  obtain⟨p1,p2⟩:=ho
  refine⟨E',h1,h2,hf,h3,callee hf h3,k1,k2,?_,fun al hal=>by rw[h2];exact altsT_ok p2 al hal⟩
  rw[qgH,qgA] at p1
  rw[←h2] at p1
  have e1:(List.range s.nv).map (fun j=>(qfa s (qbJ s as H).2 (0+j)).ev E'.q.S)=qcI (qcF s (qbJ s as H).2 E').q s.nv:=by
   apply List.map_congr_left
   intro j hj
   rw[Nat.zero_add]
   rfl
  have e2:(List.range s.nr).map (fun j=>(qeF s (qbJ s as H).2 (0+j)).ev E'.q.S)=qaL (qcF s (qbJ s as H).2 E').q s.nr:=by
   apply List.map_congr_left
   intro j hj
   rw[Nat.zero_add]
   rfl
  rw[e1,e2] at p1
  exact p1
theorem staleL_ok (hC:C.Ok) (hS:∀f s,s∈C.sums f→qcA C f s) {oj ol:Oper} {as:List SV} {f:FuncId} {args:List Operand} (hi:qfy oj.op=some (f,args)) {F:Func} (hF:C.fn f=some F) (hb:F.body.isSome=true) (hH:RelH fr w0 E H w) (hT:RelT E N tm a) (has:argsO tm args=some as) {k:Tm→Hp→Out} {Q:Exit→Act→World→Prop} {K:Act→World→Prop}
  (hK:∀(s:Sum) (m:Mt) as' E1 E2 w' v tm' H',E.le E1→E1.le E2→Fits s.un as' m→RelH fr w0 E1 m.H w→RelH fr w0 E2 H' w'→RelT E2 N tm' (a.put oj.dst v) →
   (∀r t ks j,(qcF s.un m E1) 1=some r→s.bl[1]?=some (.sy true t ks (.s j))→RowOk ks ((qcF s.un m E1).q.S.r j)∧Held0 w' r.val ks.length ((qcF s.un m E1).q.S.r j))→(openT C N s m ol tm' H' k).Ok C K0 E2.q→K (a.put oj.dst v) w') :
  ∀(l:List Sum),(∀s∈l,qcA C f s)→(staleL C N oj ol as tm H k l).Ok C K0 E.q→oj.wp C.P a w K Q
 | [],_,h=>h.elim
 | s :: l,hl,h=>by
  simp only[staleL] at h
  split at h
  ·rename_i o ho
   cases hm:mrkS s with
   | false=>rw[hm] at ho;cases ho
   | true =>
    rw[hm,cond_true] at ho
    obtain⟨hlen,hrel⟩:=qeH hT args has
    obtain⟨E',h1,h2,hf,h3,h4,h5,h6,h7,h8⟩:=callS_begin2 ho h hH (vs:=args.map a.eval) (by simp[hlen]) hrel
    refine wp_call hC hi hF hb (stay_of hm (hl s List.mem_cons_self) _ _ w _ (args.map a.eval).toArray rfl rfl h4 (Eq.trans h5 (by simp)) (fun j x v hx hv=>h6 j x v hx (by simpa using hv)) h7) ?_
    rintro e w' ⟨⟨al,hal,E1,v,r,rfl,hres,hrv,ht⟩,hst⟩
    refine⟨v,rfl,?_⟩
    obtain⟨E2,rs,H2,g1,g2,g3,g4,g5⟩:=qeP hf h3 (h8 al hal) ht
    rw[hres] at g4 g5
    match rs,g4,g5,g3 with
    | [r'],_,g5,g3 =>
     obtain⟨x,hx,hxu⟩:=g5 0 r' rfl
     simp at hx
     subst hx
     obtain⟨tm',q1,q2⟩:=qbX (r:=some r') (d:=oj.dst) (v:=v) (hT.mono (Env.le_trans h1 g1)) g3 (hxu v hrv)
     exact hK s _ _ E' E2 w' v tm' H2 h1 g1 hf h3 g2 q1 hst q2
  ·exact staleL_ok hC hS hi hF hb hH hT has hK l (fun s' hs'=>hl s' (List.mem_cons_of_mem _ hs')) h
theorem stale2_ok (hC:C.Ok) (hS:∀f s,s∈C.sums f→qcA C f s) {ops:Array Oper} {j l:Nat} {oj ol:Oper} (hj:ops[j]?=some oj) (hl:ops[l]?=some ol) {k:Tm→Hp→Out} (h:(stale2 C N oj ol tm H k).Ok C K0 E.q) (hH:RelH fr w0 E H w) (hT:RelT E N tm a) {Q:Exit→Act→World→Prop} {n:Nat} {listed:Array Bool}
  (hr1:Region.ready .any ops listed=[j]) (hr2:Region.ready .any ops (listed.setIfInBounds j true)=[l])
  (hK:∀E' a' w' tm' H',E.le E'→RelH fr w0 E' H' w'→RelT E' N tm' a'→(k tm' H').Ok C K0 E'.q→qck C.P ops Q n [] ((listed.setIfInBounds j true).setIfInBounds l true) a' w'):qck C.P ops Q (n+2) [] listed a w:=by
 refine⟨fun h0=>(by rw[hr1] at h0;cases h0),fun i' hi'=>?_⟩
 obtain rfl:i'=j:=by rw[hr1] at hi';simpa using hi'
 unfold stale2 at h
 split at h
 ·rename_i f args hg hi
  split at h
  ·rename_i F as hF has
   cases hb:F.body.isSome with
   | false=>rw[hb] at h;exact h.elim
   | true =>
    rw[hb,cond_true] at h
    refine qhl hj hg (staleL_ok hC hS hi hF hb hH hT has (fun s m as' E1 E2 w' v tm' H' k1 k2 hf hm hH' hT' hst ho=>?_) _ (hS f) h)
    refine⟨fun p hp=>(by cases hp),fun h0=>(by rw[hr2] at h0;cases h0),fun i2 hi2=>?_⟩
    obtain rfl:i2=l:=by rw[hr2] at hi2;simpa using hi2
    refine openT_ok hC hS ho hf hm k2 hH' hT' hst hl fun E3 w3 v3 tm3 H3 k3 hH3 hT3 hk3=>?_
    exact⟨fun p hp=>(by cases hp),hK E3 _ w3 tm3 H3 (Env.le_trans (Env.le_trans k1 k2) k3) hH3 hT3 hk3⟩
  ·exact h.elim
 ·exact h.elim
theorem oneOf_eq {l:List Nat} {i:Nat} (h:oneOf l i=true):l=[i]:=by
 unfold oneOf at h
 split at h
 ·rename_i j;rw[Nat.eq_of_beq_eq_true h]
 ·cases h
theorem staleT_ok (hC:C.Ok) (hce:CeOk C K0 fr w0 ce) (hS:∀f s,s∈C.sums f→qcA C f s) {ops:Array Oper} (hsel:Region.noSelect ops=true) {Q:Exit→Act→World→Prop} (hQ:∀c a a' w,Q (.panic c) a w→Q (.panic c) a' w) {k:Tm→Hp→Out} :
  ∀(plan:Pl) (fuel:Nat) (pend:List Ld) (ps:Pd) (tm:Tm) (H:Hp) (listed:Array Bool) (E:Env) (a:Act) (w:World),plan.dep≤fuel→(staleT C ce N ops plan pend tm H k).Ok C K0 E.q→qcq ops plan listed=true →
   RelH fr w0 E H w→RelT E N tm a→PdRel C E pend ps→(∀p∈ps,p.2 w) →
   (∀E' a' w' tm' H',E.le E'→RelH fr w0 E' H' w'→RelT E' N tm' a'→(k tm' H').Ok C K0 E'.q→Q .normal a' w')→qck C.P ops Q fuel ps listed a w
 | .take i rest,fuel,pend,ps,tm,H,listed,E,a,w,hd,h,hp,hH,hT,hpd,hps,hK=>by
  simp only[qcq,Bool.and_eq_true] at hp
  obtain⟨⟨hfree,hready⟩,hrest⟩:=hp
  have hr:i∈Region.ready .any ops listed:=by simpa using hready
  simp only[Pl.dep] at hd
  obtain⟨n,rfl⟩:∃n,fuel=n+1:=⟨fuel - 1,by omega⟩
  exact qhu hC hce hsel hQ h hfree hr hH hT hpd hps fun pend ps tm H E' a w hle h hH hT hpd hps=>staleT_ok hC hce hS hsel hQ rest n pend ps tm H _ E' a w (by omega) h hrest hH hT hpd hps (fun E2 a2 w2 tm2 H2 hle2=>hK E2 a2 w2 tm2 H2 (Env.le_trans hle hle2))
 | .two i (.one j (.one l rest)) i2 y,fuel,pend,ps,tm,H,listed,E,a,w,hd,h,hp,hH,hT,hpd,hps,hK=>by
  simp only[qcq,Bool.and_eq_true] at hp
  obtain⟨⟨htwo,hj1,hl1,hrx⟩,hry⟩:=hp
  have hr:Region.ready .any ops listed=[i,i2]:=by
   unfold twoOf at htwo
   split at htwo
   ·rename_i p q hj
    simp only[Bool.and_eq_true] at htwo
    rw[hj,Nat.eq_of_beq_eq_true htwo.1,Nat.eq_of_beq_eq_true htwo.2]
   ·cases htwo
  simp only[Pl.dep] at hd
  obtain⟨n,rfl⟩:∃n,fuel=n+1:=⟨fuel - 1,by omega⟩
  obtain⟨h1,h2⟩:=h
  refine⟨fun h0=>(by rw[hr] at h0;cases h0),fun i' hi'=>?_⟩
  rw[hr] at hi'
  rcases List.mem_cons.1 hi' with rfl | hi'
  ·refine qdw hC hce h1 hH hT hpd hps fun pend ps tm H E' a w hle h hH hT hpd hps=>?_
   split at h
   ·rename_i oj ol hoj hol
    match ps,hpd with
    | [],_ =>
     obtain⟨q,rfl⟩:∃q,n=q+2:=⟨n - 2,by omega⟩
     exact stale2_ok hC hS hoj hol h hH hT (oneOf_eq hj1) (oneOf_eq hl1) fun E2 a2 w2 tm2 H2 hle2 hH2 hT2 hk2=>drawT_ok hC hce hsel hQ rest q [] [] tm2 H2 _ E2 a2 w2 (by omega) hk2 hrx hH2 hT2 trivial (fun p hp=>by cases hp) (fun E3 a3 w3 tm3 H3 hle3=>hK E3 a3 w3 tm3 H3 (Env.le_trans hle (Env.le_trans hle2 hle3)))
   ·exact h.elim
  ·obtain rfl:i'=i2:=by simpa using hi'
   exact qdw hC hce h2 hH hT hpd hps fun pend ps tm H E' a w hle h hH hT hpd hps=>drawT_ok hC hce hsel hQ y n pend ps tm H _ E' a w (by omega) h hry hH hT hpd hps (fun E2 a2 w2 tm2 H2 hle2=>hK E2 a2 w2 tm2 H2 (Env.le_trans hle hle2))
 | .done,fuel,pend,ps,tm,H,listed,E,a,w,hd,h,hp,hH,hT,hpd,hps,hK=>h.elim
 | .one _ _,fuel,pend,ps,tm,H,listed,E,a,w,hd,h,hp,hH,hT,hpd,hps,hK=>h.elim
 | .two _ .done _ _,fuel,pend,ps,tm,H,listed,E,a,w,hd,h,hp,hH,hT,hpd,hps,hK=>h.elim
 | .two _ (.take _ _) _ _,fuel,pend,ps,tm,H,listed,E,a,w,hd,h,hp,hH,hT,hpd,hps,hK=>h.elim
 | .two _ (.two _ _ _ _) _ _,fuel,pend,ps,tm,H,listed,E,a,w,hd,h,hp,hH,hT,hpd,hps,hK=>h.elim
 | .two _ (.one _ .done) _ _,fuel,pend,ps,tm,H,listed,E,a,w,hd,h,hp,hH,hT,hpd,hps,hK=>h.elim
 | .two _ (.one _ (.take _ _)) _ _,fuel,pend,ps,tm,H,listed,E,a,w,hd,h,hp,hH,hT,hpd,hps,hK=>h.elim
 | .two _ (.one _ (.two _ _ _ _)) _ _,fuel,pend,ps,tm,H,listed,E,a,w,hd,h,hp,hH,hT,hpd,hps,hK=>h.elim
theorem drawZ_ok (hC:C.Ok) (hce:CeOk C K0 fr w0 ce) (hS:∀f s,s∈C.sums f→qcA C f s) {id:Nat} {ops:Array Oper} {Q:Exit→Act→World→Prop} (hQ:∀c a a' w,Q (.panic c) a w→Q (.panic c) a' w) {k:Tm→Hp→Out} (h:(drawZ C ce N ops tm H k).Ok C K0 E.q) (hH:RelH fr w0 E H w) (hT:RelT E N tm a)
  (hK:∀E' a' w' tm' H',E.le E'→RelH fr w0 E' H' w'→RelT E' N tm' a'→(k tm' H').Ok C K0 E'.q→Q .normal a' w'):(Code.region id ops true).wp C.P Q a w:=by
 unfold drawZ at h
 split at h
 ·exact h.elim
 ·rename_i p hp
  obtain⟨hsel,hok,hlen⟩:=planR_ok hp
  have hHd:RelH fr w0 E H w.drew:=hH.drew
  cases hst:isStale C ops p with
  | false =>
   rw[hst,cond_false] at h
   exact wp_region_any hC.mixed (qfq _ _ _ _ _ (drawT_ok hC hce hsel hQ _ ops.size [] [] tm H (Array.replicate ops.size false) E a w.drew hlen h hok hHd hT trivial (fun p hp=>by cases hp) hK))
  | true =>
   rw[hst,cond_true] at h
   exact wp_region_any hC.mixed (qfq _ _ _ _ _ (staleT_ok hC hce hS hsel hQ _ ops.size [] [] tm H (Array.replicate ops.size false) E a w.drew hlen h hok hHd hT trivial (fun p hp=>by cases hp) hK))
end
def exEq:Ex→Ex→Bool
 | .nrm,.nrm=>true
 | .ret,.ret=>true
 | .ext i,.ext j=>Nat.beq i j
 | _,_=>false
theorem exEq_eq {x y:Ex} (h:exEq x y=true):x=y:=by
 unfold exEq at h
 split at h
 ·rfl
 ·rfl
 ·rw[Nat.eq_of_beq_eq_true h]
 ·cases h
def endT (s:Sum) (e:Ex) (xsOf:Alt→Option (List SV)) (H:Hp):List Alt→Out
 | []=>.fail
 | al :: rest =>
  bif exEq al.ex e then
   match xsOf al with
   | some xs=>bif okE s al (bindE s al xs H).1 (bindE s al xs H).2 then .prove al.id (tlF .s 0 s.nv) (rlF .s 0 s.nr) (tlF (lv s (bindE s al xs H).2) s.nv al.mv) (rlF (lr s (bindE s al xs H).2) s.nr al.mr) else endT s e xsOf H rest
   | none=>endT s e xsOf H rest
  else endT s e xsOf H rest
section
variable {C:Cfg} {K0:Qn→Ex→Tm→Hp→Prop} {fr:Fr} {E E0:Env} {w0:Ws} {H:Hp} {w w':World} {s:Sum}
theorem vals_le {q q':Qn} (h:q.le q') {n:Nat} (hn:n≤q.n):qcI q' n=qcI q n:=by
 apply List.map_congr_left
 intro i hi
 exact h.2.2.1 i (by have:=List.mem_range.1 hi;omega)
theorem rows_le {q q':Qn} (h:q.le q') {n:Nat} (hn:n≤q.m):qaL q' n=qaL q n:=by
 apply List.map_congr_left
 intro i hi
 exact h.2.2.2 i (by have:=List.mem_range.1 hi;omega)
theorem endT_ok (hH:RelH fr w0 E H w) (h0:E0.le E) (hn:E0.q.n=s.nv∧E0.q.m=s.nr) (hdef:∀c,c < s.bl.length→∃r,E0 c=some r) (hfr:∀c,s.bl.length≤c→E0 c=none) {e:Ex} {xsOf:Alt→Option (List SV)} {usOf:Alt→List Value}
  (hx:∀al xs,xsOf al=some xs→xs.length=(usOf al).length∧∀(j:Nat) x v,xs[j]?=some x→(usOf al)[j]?=some v→RelS E x v):∀(l:List Alt),(endT s e xsOf H l).Ok C K0 E.q →
  ∃al∈l,al.ex=e∧(∃xs,xsOf al=some xs)∧∃E1,qbW C fr w0 s E0 al E1 w∧al.res.length=(usOf al).length∧∀(j:Nat) x v,al.res[j]?=some x→(usOf al)[j]?=some v→RelS E1 x v
 | [],h=>h.elim
 | al :: rest,h=>by
  have hrest:(endT s e xsOf H rest).Ok C K0 E.q→∃al'∈al :: rest,al'.ex=e∧(∃xs,xsOf al'=some xs)∧∃E1,qbW C fr w0 s E0 al' E1 w∧al'.res.length=(usOf al').length∧∀(j:Nat) x v,al'.res[j]?=some x→(usOf al')[j]?=some v→RelS E1 x v:=fun h=>by
   obtain⟨a,ha,k⟩:=endT_ok hH h0 hn hdef hfr hx rest h
   exact⟨a,List.mem_cons_of_mem _ ha,k⟩
  simp only[endT] at h
  cases he:exEq al.ex e with
  | false=>rw[he] at h;exact hrest h
  | true =>
   rw[he,cond_true] at h
   split at h
   ·rename_i xs hxs
    cases hok:okE s al (bindE s al xs H).1 (bindE s al xs H).2 with
    | false=>rw[hok] at h;exact hrest h
    | true =>
     rw[hok,cond_true] at h
     obtain⟨l1,l2⟩:=hx al xs hxs
     obtain⟨E1,a1,a2,a3,a4,a5⟩:=nA_ok (H0:=s.H1 al) al.res xs (usOf al) hH l1 l2
     have hm:(bA ⟨.e,.e,oldB s.bl.length .e,(nA (s.H1 al) H al.res xs).2⟩ al.res (nA (s.H1 al) H al.res xs).1).H=(nA (s.H1 al) H al.res xs).2:=bA_H _ _ _
     obtain⟨E2,b1,b2,b3⟩:=bBs_ok (fr:=fr) (w0:=w0) (w:=w) (H0:=s.H1 al) (s.H1 al).next 0 (bA ⟨.e,.e,oldB s.bl.length .e,(nA (s.H1 al) H al.res xs).2⟩ al.res (nA (s.H1 al) H al.res xs).1) (E:=E1) (by rw[hm];exact a3)
     have hf:=okE_fits hok
     have hq:E2.q=E.q:=b2.trans a2
     have h02:E0.le E2:=Env.le_trans h0 (Env.le_trans a1 b1)
     refine⟨al,by simp,exEq_eq he,⟨xs,hxs⟩,eeOf s al (bindE s al xs H).2 E2,ends_ok hf b3 h02 hn hdef hfr ?_,?_,?_⟩
     ·have h:C.fact al.id _ _ _ _:=h
      rw[qgH,qgA,qgH,qgA] at h
      have e1:(List.range s.nv).map (fun j=>(Te.s (0+j)).ev E.q.S)=qcI E0.q s.nv:=by
       rw[←vals_le h0.2 (by rw[hn.1];exact Nat.le_refl _)]
       apply List.map_congr_left
       intro j _
       rw[Nat.zero_add];rfl
      have e2:(List.range s.nr).map (fun j=>(RT.s (0+j)).ev E.q.S)=qaL E0.q s.nr:=by
       rw[←rows_le h0.2 (by rw[hn.2];exact Nat.le_refl _)]
       apply List.map_congr_left
       intro j _
       rw[Nat.zero_add];rfl
      rw[e1,e2,←hq] at h
      exact h
     ·rw[(wA_ok (E:=E2) hf.res).1];exact a4
     ·intro j x v hjx hjv
      obtain⟨y,hy,hyx⟩:=(wA_ok (E:=E2) hf.res).2 j x hjx
      exact hyx v ((a5 j y v hy hjv).mono b1)
   ·exact hrest h
end
def qdn (tm:Tm):List Nat→Option (List SV)
 | []=>some []
 | d :: ds =>
  match tm.get d,qdn tm ds with
  | some x,some xs=>some (x :: xs)
  | _,_=>none
def qcM:List Nat→List SV→Tm
 | d :: ds,x :: xs=>(qcM ds xs).put d (some x)
 | _,_=>.e
def qhq (tm:Tm) (H:Hp) (k:Ex→Tm→Hp→Out):List Sum→Option Out
 | []=>none
 | s :: rest =>
  match qdn tm s.sl with
  | some as =>
   match callS s as H (fun al rs H2=>k al.ex (qcM al.sl rs) H2) with
   | some o=>some o
   | none=>qhq tm H k rest
  | none=>qhq tm H k rest
def knowO (tm:Tm) (c:Operand) (b:Bool):Tm :=
 match c with
 | .tmp d=>tm.put d (some (qhb b))
 | _=>tm
def iterT (f:Tm→Hp→(Ex→Tm→Hp→Out)→Out):Nat→Tm→Hp→(Ex→Tm→Hp→Out)→Out
 | 0,_,_,_=>.fail
 | n+1,tm,H,k=>f tm H fun e tm H=>match e with
  | .nrm=>iterT f n tm H k
  | .ext id=>k (.ext id) tm H
  | .ret=>k .ret tm H
def cutId:Code→Nat
 | .region id _ _=>id+1000000
 | _=>999999
def qcX (C:Cfg) (ce:Ce) (N lf fid:Nat):Code→Tm→Hp→(Ex→Tm→Hp→Out)→Out
 | .skip,tm,H,k=>k .nrm tm H
 | .region _ ops false,tm,H,k=>opsT C ce N ops ops.toList tm H fun tm H=>nameL C (asgs ops.toList) tm H fun tm H=>k .nrm tm H
 | .region _ ops true,tm,H,k=>drawZ C ce N ops tm H fun tm H=>nameL C (asgs ops.toList) tm H fun tm H=>k .nrm tm H
 | .seq x y,tm,H,k =>
  match qhq tm H k (C.lps fid (cutId x)) with
  | some o=>o
  | none=>qcX C ce N lf fid x tm H fun e tm H=>match e with
   | .nrm=>qcX C ce N lf fid y tm H k
   | .ext id=>k (.ext id) tm H
   | .ret=>k .ret tm H
 | .cond c x y,tm,H,k =>
  match cO tm c with
  | some (.v (.bool true))=>qcX C ce N lf fid x tm H k
  | some (.v (.bool false))=>qcX C ce N lf fid y tm H k
  | some (.t .b te)=>.ask te (qcX C ce N lf fid x (knowO tm c true) H k) (qcX C ce N lf fid y (knowO tm c false) H k)
  | _=>.fail
 | .block id x,tm,H,k =>
  match qhq tm H k (C.lps fid id) with
  | some o=>o
  | none=>qcX C ce N lf fid x tm H fun e tm H=>match e with
   | .nrm=>k .nrm tm H
   | .ext j=>bif Nat.beq j id then k .nrm tm H else k (.ext j) tm H
   | .ret=>k .ret tm H
 | .loop x,tm,H,k=>iterT (fun tm H k=>qcX C ce N lf fid x tm H k) lf tm H k
 | .exit id,tm,H,k=>k (.ext id) tm H
 | .ret,tm,H,k=>k .ret tm H
 | _,_,_,_=>.fail
def qaC:Code→List (Nat × Code)
 | .seq x y=>(cutId x,.seq x y) :: (qaC x++qaC y)
 | .cond _ x y=>qaC x++qaC y
 | .block id x=>(id,.block id x) :: qaC x
 | .loop x=>qaC x
 | _=>[]
def Post (K:Ex→Act→World→Prop):Exit→Act→World→Prop
 | .normal,a,w=>K .nrm a w
 | .exit id,a,w=>K (.ext id) a w
 | .ret,a,w=>K .ret a w
 | _,_,_=>False
def qcR (C:Cfg) (N:Nat) (c:Code) (s:Sum):Prop :=
 ∀fr w0 w (E0:Env) (a:Act),E0.q.n=s.nv→E0.q.m=s.nr→RelH fr w0 E0 s.H0 w→RelT E0 N (qcM s.sl s.as0) a→s.sl.length=s.as0.length→C.pre s.pid (qcI E0.q s.nv) (qaL E0.q s.nr) →
  (∀c,c < s.bl.length→∃r,E0 c=some r)→(∀c,s.bl.length≤c→E0 c=none) →
  c.wp C.P (Post fun e a' w'=>∃al∈s.outs,al.ex=e∧∃E1,qbW C fr w0 s E0 al E1 w'∧al.res.length=al.sl.length∧RelT E1 N (qcM al.sl al.res) a') a w
def Cfg.Loops (C:Cfg) (N fid:Nat) (c:Code):Prop:=∀p∈qaC c,∀s∈C.lps fid p.1,qcR C N p.2 s
section
variable {C:Cfg} {K0:Qn→Ex→Tm→Hp→Prop} {fr:Fr} {E E0:Env} {N lf fid:Nat} {w0:Ws} {H:Hp} {w w':World} {ce:Ce} {tm:Tm} {a:Act}
theorem qcx:∀{l:List Nat} {xs:List SV},qdn tm l=some xs→xs.length=l.length∧∀(j:Nat) x,xs[j]?=some x→∃d,l[j]?=some d∧tm.get d=some x
 | [],xs,h=>by cases h;exact⟨rfl,fun j x h=>by simp at h⟩
 | d :: ds,xs,h=>by
  simp only[qdn] at h
  split at h
  ·rename_i x xs' hx hxs
   cases h
   obtain⟨h1,h2⟩:=qcx hxs
   refine⟨by simp[h1],fun j y hy=>?_⟩
   cases j with
   | zero=>simp at hy;subst hy;exact⟨d,rfl,hx⟩
   | succ j=>simpa using h2 j y (by simpa using hy)
  ·cases h
theorem qeJ (hT:RelT E N tm a) {l:List Nat} {xs:List SV} (h:qdn tm l=some xs):xs.length=(l.map fun d=>a.tmps.getD d undef).length∧∀(j:Nat) x v,xs[j]?=some x→(l.map fun d=>a.tmps.getD d undef)[j]?=some v→RelS E x v:=by
 obtain⟨h1,h2⟩:=qcx h
 refine⟨by simp[h1],fun j x v hx hv=>?_⟩
 obtain⟨d,hd,hg⟩:=h2 j x hx
 rw[List.getElem?_map,hd] at hv
 cases hv
 exact(hT.at_ d x hg).2
theorem tmOf_get:∀(l:List Nat) (xs:List SV) (d:Nat) (x:SV),(qcM l xs).get d=some x→∃j:Nat,l[j]?=some d∧xs[j]?=some x
 | [],xs,d,x,h=>by cases xs<;>simp[qcM,Tr.get] at h
 | e :: l,[],d,x,h=>by simp[qcM,Tr.get] at h
 | e :: l,y :: xs,d,x,h=>by
  simp only[qcM,Tr.get_put] at h
  split at h
  ·rename_i he
   cases h
   subst he
   exact⟨0,rfl,rfl⟩
  ·obtain⟨j,h1,h2⟩:=tmOf_get l xs d x h
   exact⟨j+1,h1,h2⟩
theorem qfO (hs:a.tmps.size=N) (hd:a.defers=[]) {l:List Nat} {xs:List SV} (hlt:∀(j d:Nat),l[j]?=some d→d < N) (h:∀(j:Nat) x v,xs[j]?=some x→(l.map fun d=>a.tmps.getD d undef)[j]?=some v→RelS E x v):RelT E N (qcM l xs) a:=by
 refine⟨hs,hd,fun d x hx=>?_⟩
 obtain⟨j,h1,h2⟩:=tmOf_get l xs d x hx
 exact⟨hlt j d h1,h j x _ h2 (by rw[List.getElem?_map,h1];rfl)⟩
theorem e0_def {s:Sum} {as:List SV} {m:Mt} (hf:Fits s as m) (hH:RelH fr w0 E m.H w):(∀c,c < s.bl.length→∃r,(qcF s m E) c=some r)∧(∀c,s.bl.length≤c→(qcF s m E) c=none) :=
 ⟨fun c hc=>rg_def hf hH hc,fun c hc=>by
  show qcN s m E c=none
  unfold qcN
  rw[List.getElem?_eq_none hc]⟩
theorem qeA {c:Code} {k:Ex→Tm→Hp→Out} {KK:Ex→Act→World→Prop} (hH:RelH fr w0 E H w) (hT:RelT E N tm a) (hK:∀E' a' w' e tm' H',E.le E'→RelH fr w0 E' H' w'→RelT E' N tm' a'→(k e tm' H').Ok C K0 E'.q→KK e a' w') :
  ∀{l:List Sum} {o:Out},(∀s∈l,qcR C N c s)→qhq tm H k l=some o→o.Ok C K0 E.q→c.wp C.P (Post KK) a w
 | [],o,hl,h,ho=>by cases h
 | s :: rest,o,hl,h,ho=>by
  simp only[qhq] at h
  split at h
  ·rename_i as hsl
   split at h
   ·rename_i o' hc
    cases h
    obtain⟨l1,l2⟩:=qeJ hT hsl
    obtain⟨E',m,as',h1,h2,hf,h3,h4,h5,h6,h7,h8⟩:=qem hc ho hH l1 l2
    obtain⟨d1,d2⟩:=e0_def hf h3
    have hslt:∀(j d:Nat),s.sl[j]?=some d→d < N:=fun j d hd=>by
     obtain⟨g1,g2⟩:=qcx hsl
     obtain⟨x,hx⟩:∃x,as[j]?=some x:=⟨_,List.getElem?_eq_getElem (by rw[g1];exact(List.getElem?_eq_some_iff.1 hd).1)⟩
     obtain⟨d',hd',hg⟩:=g2 j x hx
     rw[hd] at hd';cases hd'
     exact(hT.at_ d x hg).1
    refine wp_mono (hl s (by simp) (frOf fr s m E' w) (wsOf w0 s m E' w) w (qcF s m E') a rfl rfl h4 (qfO hT.size hT.defers hslt h6) (by rw[h5];simp) h7 d1 d2) ?_
    have key:∀e a' w',(∃al∈s.outs,al.ex=e∧∃E1,qbW C (frOf fr s m E' w) (wsOf w0 s m E' w) s (qcF s m E') al E1 w'∧al.res.length=al.sl.length∧RelT E1 N (qcM al.sl al.res) a')→KK e a' w':=by
     rintro e a' w' ⟨al,hal,rfl,E1,ht,hrl,hT1⟩
     obtain⟨E2,rs,H2,g1,g2,g3,g4,g5⟩:=qeP hf h3 (h8 al hal) ht
     refine hK E2 a' w' al.ex (qcM al.sl rs) H2 (Env.le_trans h1 g1) g2 ⟨hT1.size,hT1.defers,fun d y hy=>?_⟩ g3
     have hh:∀(sl:List Nat) (xs ys:List SV),xs.length=ys.length→(∀(j:Nat) y,ys[j]?=some y→∃x,xs[j]?=some x∧∀u,RelS E1 x u→RelS E2 y u)→∀d y,(qcM sl ys).get d=some y→∃x,(qcM sl xs).get d=some x∧∀u,RelS E1 x u→RelS E2 y u:=by
      intro sl
      induction sl with
      | nil=>intro xs ys _ _ d y hy;cases ys<;>simp[qcM,Tr.get] at hy
      | cons e sl ih =>
       intro xs ys hlen hxy d y hy
       match xs,ys,hlen,hxy,hy with
       | [],[],_,_,hy=>simp[qcM,Tr.get] at hy
       | x0 :: xs,y0 :: ys,hlen,hxy,hy =>
        simp only[qcM,Tr.get_put] at hy ⊢
        by_cases hde:d=e
        ·rw[if_pos hde] at hy ⊢
         cases hy
         obtain⟨x,hx,hu⟩:=hxy 0 _ rfl
         simp at hx
         subst hx
         exact⟨x0,rfl,hu⟩
        ·rw[if_neg hde] at hy ⊢
         exact ih xs ys (by simpa using hlen) (fun j y hy=>by simpa using hxy (j+1) y (by simpa using hy)) d y hy
     obtain⟨x,hx,hu⟩:=hh al.sl al.res rs g4 g5 d y hy
     obtain⟨q1,q2⟩:=hT1.at_ d x hx
     exact⟨q1,hu _ q2⟩
    intro e a' w' hq
    cases e<;>first | exact key _ _ _ hq | exact hq.elim
   ·exact qeA hH hT hK (fun s' hs'=>hl s' (List.mem_cons_of_mem _ hs')) h ho
  ·exact qeA hH hT hK (fun s' hs'=>hl s' (List.mem_cons_of_mem _ hs')) h ho
theorem knowO_ok (hT:RelT E N tm a) {c:Operand} {te:Te} (h:cO tm c=some (.t .b te)) {b:Bool} (hv:a.eval c=.bool b):RelT E N (knowO tm c b) a:=by
 unfold cO at h
 split at h
 ·rename_i v hg
  cases h
  cases c with
  | tmp d=>exact hT.know hg hv
  | const v=>exact hT
  | global g=>cases hg
  | func f=>cases hg
 ·cases h
theorem qbF (hC:C.Ok) (hce:CeOk C K0 fr w0 ce) (hS:∀f s,s∈C.sums f→qcA C f s):∀(c:Code) (KK:Ex→Act→World→Prop) (k:Ex→Tm→Hp→Out) (tm:Tm) (H:Hp) (E:Env) (a:Act) (w:World),C.Loops N fid c→(qcX C ce N lf fid c tm H k).Ok C K0 E.q→RelH fr w0 E H w→RelT E N tm a →
  (∀E' a' w' e tm' H',E.le E'→RelH fr w0 E' H' w'→RelT E' N tm' a'→(k e tm' H').Ok C K0 E'.q→KK e a' w')→c.wp C.P (Post KK) a w
 | .skip,KK,k,tm,H,E,a,w,hL,h,hH,hT,hK=>wp_skip (hK E a w .nrm tm H (Env.le_refl E) hH hT h)
 | .region id ops false,KK,k,tm,H,E,a,w,hL,h,hH,hT,hK=>by
  simp only[qcX] at h
  refine wp_region_list (opsT_ok hC hce ops.toList tm H E a w h hH hT fun E' a' w' tm' H' hle hH' hT' hk=>?_)
  obtain⟨E2,tm2,H2,n1,n2,n3,n4⟩:=qdK _ E' tm' H' hk hH' hT'
  exact hK E2 a' w' .nrm tm2 H2 (Env.le_trans hle n1) n2 n3 n4
 | .region id ops true,KK,k,tm,H,E,a,w,hL,h,hH,hT,hK=>by
  simp only[qcX] at h
  refine drawZ_ok hC hce hS (fun _ _ _ _ h=>h) h hH hT fun E' a' w' tm' H' hle hH' hT' hk=>?_
  obtain⟨E2,tm2,H2,n1,n2,n3,n4⟩:=qdK _ E' tm' H' hk hH' hT'
  exact hK E2 a' w' .nrm tm2 H2 (Env.le_trans hle n1) n2 n3 n4
 | .seq x y,KK,k,tm,H,E,a,w,hL,h,hH,hT,hK=>by
  simp only[qcX] at h
  split at h
  ·rename_i o ho
   exact qeA hH hT hK (fun s hs=>hL (cutId x,.seq x y) (by simp[qaC]) s hs) ho h
  ·refine wp_seq ?_
   have hLx:C.Loops N fid x:=fun p hp=>hL p (by simp only[qaC,List.mem_cons,List.mem_append];exact .inr (.inl hp))
   have hLy:C.Loops N fid y:=fun p hp=>hL p (by simp only[qaC,List.mem_cons,List.mem_append];exact .inr (.inr hp))
   refine wp_mono (qbF hC hce hS x (fun e a w=>match e with | .nrm=>y.wp C.P (Post KK) a w | e=>KK e a w) _ tm H E a w hLx h hH hT (fun E' a' w' e tm' H' hle hH' hT' hk=>?_)) ?_
   ·cases e with
    | nrm=>exact qbF hC hce hS y KK k tm' H' E' a' w' hLy hk hH' hT' fun E2 a2 w2 e2 tm2 H2 hle2=>hK E2 a2 w2 e2 tm2 H2 (Env.le_trans hle hle2)
    | ext j=>exact hK E' a' w' _ tm' H' hle hH' hT' hk
    | ret=>exact hK E' a' w' _ tm' H' hle hH' hT' hk
   ·intro e a w hq
    cases e<;>first | exact hq | exact hq.elim
 | .cond c x y,KK,k,tm,H,E,a,w,hL,h,hH,hT,hK=>by
  simp only[qcX] at h
  have hLx:C.Loops N fid x:=fun p hp=>hL p (by simp only[qaC,List.mem_append];exact .inl hp)
  have hLy:C.Loops N fid y:=fun p hp=>hL p (by simp only[qaC,List.mem_append];exact .inr hp)
  split at h
  ·rename_i hb
   exact wp_cond_true (qaT hT hb).1 (qbF hC hce hS x KK k tm H E a w hLx h hH hT hK)
  ·rename_i hb
   exact wp_cond_false (qaT hT hb).1 (qbF hC hce hS y KK k tm H E a w hLy h hH hT hK)
  ·rename_i te hb
   obtain⟨⟨b,hv⟩,hev⟩:=qaT hT hb
   have hbe:=hev _ E.q.has_self
   rw[hv] at hbe
   have hT2:=knowO_ok hT hb hv
   cases b with
   | true=>exact wp_cond_true hv (qbF hC hce hS x KK k _ H E a w hLx (h.1 hbe) hH hT2 hK)
   | false=>exact wp_cond_false hv (qbF hC hce hS y KK k _ H E a w hLy (h.2 hbe) hH hT2 hK)
  ·exact h.elim
 | .block id x,KK,k,tm,H,E,a,w,hL,h,hH,hT,hK=>by
  simp only[qcX] at h
  have hLx:C.Loops N fid x:=fun p hp=>hL p (by simp only[qaC,List.mem_cons];exact .inr hp)
  split at h
  ·rename_i o ho
   exact qeA hH hT hK (fun s hs=>hL (id,.block id x) (by simp[qaC]) s hs) ho h
  ·refine wp_block ?_
   refine wp_mono (qbF hC hce hS x (fun e a w=>match e with | .ext j=>if j=id then KK .nrm a w else KK (.ext j) a w | e=>KK e a w) _ tm H E a w hLx h hH hT (fun E' a' w' e tm' H' hle hH' hT' hk=>?_)) ?_
   ·cases e with
    | nrm=>exact hK E' a' w' _ tm' H' hle hH' hT' hk
    | ret=>exact hK E' a' w' _ tm' H' hle hH' hT' hk
    | ext j =>
     dsimp only at hk ⊢
     rw[qaz,qau] at hk
     split at hk
     ·rename_i hj;rw[if_pos hj];exact hK E' a' w' _ tm' H' hle hH' hT' hk
     ·rename_i hj;rw[if_neg hj];exact hK E' a' w' _ tm' H' hle hH' hT' hk
   ·intro e a w hq
    cases e with
    | exit j=>simp only[Exit.inBlock,Post] at hq ⊢;exact hq
    | normal=>exact hq
    | ret=>exact hq
    | goto l=>exact hq
    | panic c=>exact hq
    | outgrown=>exact hq
 | .loop x,KK,k,tm,H,E,a,w,hL,h,hH,hT,hK=>by
  simp only[qcX] at h
  have hLx:C.Loops N fid x:=fun p hp=>hL p (by simp only[qaC];exact hp)
  have key:∀n (tm:Tm) (H:Hp) (E:Env) (a:Act) (w:World),(iterT (fun tm H k=>qcX C ce N lf fid x tm H k) n tm H k).Ok C K0 E.q→RelH fr w0 E H w→RelT E N tm a→(∀E' a' w' e tm' H',E.le E'→RelH fr w0 E' H' w'→RelT E' N tm' a'→(k e tm' H').Ok C K0 E'.q→KK e a' w')→Code.rounds C.P x (Post KK) n a w:=by
   intro n
   induction n with
   | zero=>intro tm H E a w h;exact h.elim
   | succ n ih =>
    intro tm H E a w h hH hT hK
    rw[rounds_succ]
    simp only[iterT] at h
    refine wp_mono (qbF hC hce hS x (fun e a w=>match e with | .nrm=>Code.rounds C.P x (Post KK) n a w | e=>KK e a w) _ tm H E a w hLx h hH hT (fun E' a' w' e tm' H' hle hH' hT' hk=>?_)) ?_
    ·cases e with
     | nrm=>exact ih tm' H' E' a' w' hk hH' hT' fun E2 a2 w2 e2 tm2 H2 hle2=>hK E2 a2 w2 e2 tm2 H2 (Env.le_trans hle hle2)
     | ext j=>exact hK E' a' w' _ tm' H' hle hH' hT' hk
     | ret=>exact hK E' a' w' _ tm' H' hle hH' hT' hk
    ·intro e a w hq
     cases e<;>first | exact hq | exact hq.elim
  exact wp_loop_rounds lf (key lf tm H E a w h hH hT hK)
 | .exit id,KK,k,tm,H,E,a,w,hL,h,hH,hT,hK=>wp_exit (hK E a w (.ext id) tm H (Env.le_refl E) hH hT h)
 | .ret,KK,k,tm,H,E,a,w,hL,h,hH,hT,hK=>wp_ret (hK E a w .ret tm H (Env.le_refl E) hH hT h)
 | .rangeFunc ..,KK,k,tm,H,E,a,w,hL,h,hH,hT,hK=>h.elim
 | .scope ..,KK,k,tm,H,E,a,w,hL,h,hH,hT,hK=>h.elim
 | .label ..,KK,k,tm,H,E,a,w,hL,h,hH,hT,hK=>h.elim
 | .goto ..,KK,k,tm,H,E,a,w,hL,h,hH,hT,hK=>h.elim
 | .refuse ..,KK,k,tm,H,E,a,w,hL,h,hH,hT,hK=>h.elim
end
def argTm:List SV→Nat→Tm
 | [],_=>.e
 | x :: xs,i=>(argTm xs (i+1)).put i (some x)
def resT (C:Cfg) (H:Hp) (tm:Tm):List ResultVar→Option (List AV × List Te)
 | []=>some ([],[])
 | .tmp t :: rest =>
  match tm.get t,resT C H tm rest with
  | some (.o u),some (r,ns)=>some (u :: r,ns)
  | _,_=>none
 | .cell p t :: rest =>
  match tm.get p,resT C H tm rest with
  | some (.o (.c c)),some (r,ns) =>
   match peekC C H t c with
   | some u=>some (u :: r,ns)
   | none =>
    match arrL C H t c with
    | some (u,ms)=>some (u :: r,ms++ns)
    | none=>none
  | _,_=>none
def packE:List AV→SV
 | [x]=>.o x
 | xs=>.tu xs
def funT (C:Cfg) (ce:Ce) (lf fid:Nat) (F:Func) (as:List SV) (H:Hp) (k:SV→Hp→Out):Out :=
 match F.body with
 | none=>.fail
 | some c =>
  bif Nat.ble as.length F.ntmps then
   qcX C ce F.ntmps lf fid c (argTm as 0) H fun e tm H=>match e with
    | .ext _=>.fail
    | _=>match resT C H tm F.results.toList with
     | some (us,ns)=>qge ns (k (packE us) H)
     | none=>.fail
  else .fail
def runT (C:Cfg) (lf:Nat):Nat→Ce
 | 0=>fun _ _ _ _=>.fail
 | n+1=>fun f as H k =>
  match C.sums f with
  | [] =>
   match C.fn f with
   | some F=>funT C (runT C lf n) lf f F as H k
   | none=>.fail
  | s :: l=>callL as H (one k) (s :: l)
structure Cfg.Told (C:Cfg):Prop where
 sums:∀f s,s∈C.sums f→qcA C f s
 loops:∀f F c,C.fn f=some F→F.body=some c→C.Loops F.ntmps f c
section
variable {C:Cfg} {K0:Qn→Ex→Tm→Hp→Prop} {fr:Fr} {E E0:Env} {N lf:Nat} {w0:Ws} {H:Hp} {w w':World} {ce:Ce} {tm:Tm} {a:Act}
theorem argTm_get:∀(xs:List SV) (i t:Nat),(argTm xs i).get t=if i≤t then xs[t - i]? else none
 | [],i,t=>by simp[argTm,Tr.get]
 | x :: xs,i,t=>by
  simp only[argTm,Tr.get_put]
  by_cases h:t=i
  ·subst h;simp
  ·rw[if_neg h,argTm_get xs (i+1) t]
   by_cases h2:i≤t
   ·rw[if_pos (by omega),if_pos h2]
    obtain⟨q,hq⟩:∃q,t - i=q+1:=⟨t - i - 1,by omega⟩
    rw[hq,show t - (i+1)=q by omega]
    simp
   ·rw[if_neg (by omega),if_neg h2]
def qfu (tmps:Array Value) (x:ResultVar):Sem Value :=
 match x with
 | .tmp t=>pure (tmps.getD t undef)
 | .cell p t=>do loadVar t (←asAddr (tmps.getD p undef))
theorem results_eq (F:Func) (tmps:Array Value):results F tmps=(do let vs ←F.results.mapM (qfu tmps);pure (if h:vs.size=1 then vs[0] else .tuple vs)):=rfl
theorem resT_ok (hC:C.Ok) (hH:RelH fr w0 E H w) (hT:RelT E N tm a):∀(l:List ResultVar) {us:List AV} {ns:List Te},resT C H tm l=some (us,ns)→(∀c∈ns,c.ev E.q.S=.bool true)→∃vs:List Value,
  (l.mapM (qfu a.tmps)).run C.P w=.ok vs w∧us.length=vs.length∧∀(j:Nat) x v,us[j]?=some x→vs[j]?=some v→RelV E x v
 | [],us,ns,h,hn=>by
  cases h
  exact⟨[],by simp[List.mapM_nil,Sem.run_pure],rfl,fun j x v hx=>by simp at hx⟩
 | .tmp t :: rest,us,ns,h,hn=>by
  simp only[resT] at h
  split at h
  ·rename_i u r ns' hu hr
   cases h
   obtain⟨vs,h1,h2,h3⟩:=resT_ok hC hH hT rest hr hn
   have h0:(qfu a.tmps (.tmp t)).run C.P w=.ok (a.tmps.getD t undef) w:=rfl
   refine⟨a.tmps.getD t undef :: vs,?_,by simp[h2],fun j x v hx hv=>?_⟩
   ·simp only[List.mapM_cons,Sem.run_bind,h0,h1,Sem.run_pure,Result.andThen_ok]
   ·cases j with
    | zero =>
     have e1:x=u:=by simpa using hx.symm
     have e2:v=a.tmps.getD t undef:=by simpa using hv.symm
     rw[e1,e2]
     exact(hT.at_ t _ hu).2
    | succ j=>simp at hx hv;exact h3 j x v hx hv
  ·cases h
 | .cell p t :: rest,us,ns,h,hn=>by
  simp only[resT] at h
  split at h
  ·rename_i c r ns' hu hr
   have key:∀{u:AV},(∀c∈ns',c.ev E.q.S=.bool true)→(∃ad v,a.tmps.getD p undef=.pointer (some ad)∧RelV E u v∧(loadVar t ad).run C.P w=.ok v w)→∃vs:List Value,((ResultVar.cell p t :: rest).mapM (qfu a.tmps)).run C.P w=.ok vs w∧(u :: r).length=vs.length∧∀(j:Nat) x v,(u :: r)[j]?=some x→vs[j]?=some v→RelV E x v:=by
    rintro u hn' ⟨ad,v0,hev,hv0,hrun⟩
    obtain⟨vs,h1,h2,h3⟩:=resT_ok hC hH hT rest hr hn'
    have h0:(qfu a.tmps (.cell p t)).run C.P w=.ok v0 w:=by
     show(do loadVar t (←asAddr (a.tmps.getD p undef)):Sem Value).run C.P w=.ok v0 w
     rw[hev]
     exact hrun
    refine⟨v0 :: vs,?_,by simp[h2],fun j x v hx hv=>?_⟩
    ·simp only[List.mapM_cons,Sem.run_bind,h0,h1,Sem.run_pure,Result.andThen_ok]
    ·cases j with
     | zero=>simp at hx hv;subst hx hv;exact hv0
     | succ j=>simp at hx hv;exact h3 j x v hx hv
   split at h
   ·rename_i u hpk
    cases h
    exact key hn (qfM hC hH hpk (hT.at_ p _ hu).2)
   ·split at h
    ·rename_i u ms hpk
     cases h
     exact key (fun c hc=>hn c (List.mem_append_right _ hc)) (arrL_ok hC hH hpk (fun c hc=>hn c (List.mem_append_left _ hc)) (hT.at_ p _ hu).2)
    ·cases h
  ·cases h
theorem results_ok (hC:C.Ok) (hH:RelH fr w0 E H w) (hT:RelT E N tm a) {F:Func} {us:List AV} {ns:List Te} (h:resT C H tm F.results.toList=some (us,ns)) (hn:∀c∈ns,c.ev E.q.S=.bool true):∃v,RelS E (packE us) v∧(results F a.tmps).run C.P w=.ok v w:=by
 obtain⟨vs,h1,h2,h3⟩:=resT_ok hC hH hT F.results.toList h hn
 have hr:(F.results.mapM (qfu a.tmps)).run C.P w=.ok vs.toArray w:=by
  rw[Array.mapM_eq_mapM_toList]
  rw[show(List.toArray <$> F.results.toList.mapM (qfu a.tmps))=(do pure (List.toArray (←F.results.toList.mapM (qfu a.tmps)))) from rfl]
  rw[Sem.run_bind,h1]
  rfl
 have hrun:(results F a.tmps).run C.P w=.ok (if h:vs.toArray.size=1 then vs.toArray[0] else .tuple vs.toArray) w:=by
  rw[results_eq,Sem.run_bind,hr]
  rfl
 match us,vs,h2,h3,hrun with
 | [x],[v],_,h3,hrun=>exact⟨v,h3 0 x v rfl rfl,by rw[hrun];rfl⟩
 | [],[],_,h3,hrun=>exact⟨.tuple #[],⟨#[],rfl,rfl,fun j x v hx=>by simp at hx⟩,by rw[hrun];rfl⟩
 | x :: y :: us,v1 :: v2 :: vs,h2,h3,hrun =>
  refine⟨.tuple (v1 :: v2 :: vs).toArray,⟨(v1 :: v2 :: vs).toArray,rfl,by simpa using h2,fun j x v hx hv=>h3 j x v hx (by simpa using hv)⟩,?_⟩
  rw[hrun,dif_neg (by simp)]
theorem funT_ok (hC:C.Ok) (hce:CeOk C K0 fr w0 ce) (hS:∀f s,s∈C.sums f→qcA C f s) {f:FuncId} {F:Func} (hF:C.fn f=some F) (hL:∀c,F.body=some c→C.Loops F.ntmps f c) {as:List SV} {k:SV→Hp→Out} (h:(funT C ce lf f F as H k).Ok C K0 E.q) (hH:RelH fr w0 E H w) {vs:Array Value} (hl:as.length=vs.size) (hr:∀(j:Nat) x v,as[j]?=some x→vs[j]?=some v→RelS E x v) :
  Calls C.P f vs w fun e w'=>∃E' v r H',e=.returned v∧E.le E'∧RelS E' r v∧RelH fr w0 E' H' w'∧(k r H').Ok C K0 E'.q:=by
 unfold funT at h
 split at h
 ·exact h.elim
 ·rename_i c hb
  cases hn:Nat.ble as.length F.ntmps with
  | false=>rw[hn] at h;exact h.elim
  | true =>
   rw[hn,cond_true] at h
   simp only[Nat.ble_eq] at hn
   refine calls_of_wp (hC.fn _ _ hF).1 hb ?_
   have hT:RelT E F.ntmps (argTm as 0) { tmps:=vs++Array.replicate (F.ntmps - vs.size) undef,defers:=[] }:=by
    refine⟨by simp;omega,rfl,fun t sv ht=>?_⟩
    rw[argTm_get,if_pos (Nat.zero_le _),Nat.sub_zero] at ht
    have hlt:t < as.length:=(List.getElem?_eq_some_iff.1 ht).1
    refine⟨by omega,?_⟩
    have hvt:vs[t]?=some (vs[t]'(by omega)):=Array.getElem?_eq_getElem (by omega)
    have he:(vs++Array.replicate (F.ntmps - vs.size) undef).getD t undef=vs[t]'(by omega):=by
     rw[Array.getD_eq_getD_getElem?,Array.getElem?_append_left (by omega),hvt]
     rfl
    simp only[he]
    exact hr t sv _ ht hvt
   refine wp_mono (qbF hC hce hS c (fun e' a' w'=>(e'=.nrm∨e'=.ret)∧a'.defers=[]∧∃v,(results F a'.tmps).run C.P w'=.ok v w'∧∃E' r H',E.le E'∧RelS E' r v∧RelH fr w0 E' H' w'∧(k r H').Ok C K0 E'.q) _ _ H E _ w (hL c hb) h hH hT (fun E' a' w' e tm' H' hle hH' hT' hk=>?_)) ?_
   ·have fin:(e=.nrm∨e=.ret)→(match resT C H' tm' F.results.toList with | some (us,ns)=>qge ns (k (packE us) H') | none=>Out.fail).Ok C K0 E'.q→(e=.nrm∨e=.ret)∧a'.defers=[]∧∃v,(results F a'.tmps).run C.P w'=.ok v w'∧∃E' r H',E.le E'∧RelS E' r v∧RelH fr w0 E' H' w'∧(k r H').Ok C K0 E'.q:=fun he hk=>by
     split at hk
     ·rename_i us ns hus
      obtain⟨hn1,hk⟩:=qct hk
      obtain⟨v,hv,hrun⟩:=results_ok hC hH' hT' hus hn1
      exact⟨he,hT'.defers,v,hrun,E',_,H',hle,hv,hH',hk⟩
     ·exact hk.elim
    cases e with
    | nrm=>exact fin (.inl rfl) hk
    | ret=>exact fin (.inr rfl) hk
    | ext j=>exact hk.elim
   ·intro e a' w' hq
    cases e with
    | normal=>obtain⟨_,hd,v,hrun,E',r,H',hle,hv,hH',hk⟩:=hq;exact⟨hd,v,hrun,E',v,r,H',rfl,hle,hv,hH',hk⟩
    | ret=>obtain⟨_,hd,v,hrun,E',r,H',hle,hv,hH',hk⟩:=hq;exact⟨hd,v,hrun,E',v,r,H',rfl,hle,hv,hH',hk⟩
    | exit j=>rcases hq.1 with h | h<;>cases h
    | goto l=>exact hq.elim
    | panic c=>exact hq.elim
    | outgrown=>exact hq.elim
theorem qgo (hC:C.Ok) (hT:C.Told):∀n,CeOk C K0 fr w0 (runT C lf n)
 | 0=>fun f as H k E w vs h=>h.elim
 | n+1=>by
  intro f as H k E w vs h hH hl hr
  simp only[runT] at h
  split at h
  ·split at h
   ·rename_i F hF
    exact funT_ok hC (qgo hC hT n) hT.sums hF (fun c hc=>hT.loops f F c hF hc) h hH hl hr
   ·exact h.elim
  ·rename_i s l hs
   exact callL_ok hH hl hr (s :: l) (fun s' hs'=>hT.sums f s' (by rw[hs];exact hs')) h
end
section
variable {C:Cfg} {K0:Qn→Ex→Tm→Hp→Prop} {fr:Fr} {E E0:Env} {N lf:Nat} {w0:Ws} {H:Hp} {w w':World} {s:Sum}
theorem H0_def (hH:RelH fr w0 E0 s.H0 w):(∀c,c < s.bl.length→∃r,E0 c=some r)∧(∀c,s.bl.length≤c→E0 c=none):=by
 refine⟨fun c hc=>?_,fun c hc=>hH.fresh c (by simpa [Sum.H0,hpOf] using hc)⟩
 have hg:s.H0.bs.get c=some s.bl[c]:=by
  simp only[Sum.H0,qcd,List.getElem?_map,List.getElem?_eq_getElem hc]
  rfl
 obtain⟨r,hr,_⟩:=(hH.blk c _ hg).2.lt
 exact⟨r,hr⟩
noncomputable def runF (C:Cfg) (lf d f:Nat) (F:Func) (s:Sum):Out:=funT C (runT C lf d) lf f F s.as0 s.H0 (fun r H=>endT s .ret (fun _=>some [r]) H s.outs)
def loopK (s s':Sum) (id:Nat):Ex→Tm→Hp→Out
 | .nrm,tm,H =>
  match qdn tm s.sl with
  | some as =>
   match callS s' as H (fun al rs H2=>endT s al.ex (fun al'=>qdn (qcM al.sl rs) al'.sl) H2 s.outs) with
   | some o=>o
   | none=>.fail
  | none=>.fail
 | .ext j,tm,H=>bif Nat.beq j id then endT s .nrm (fun al=>qdn tm al.sl) H s.outs else endT s (.ext j) (fun al=>qdn tm al.sl) H s.outs
 | .ret,tm,H=>endT s .ret (fun al=>qdn tm al.sl) H s.outs
noncomputable def runL (C:Cfg) (lf d N f:Nat) (x:Code) (s s':Sum) (id:Nat):Out:=qcX C (runT C lf d) N lf f x (qcM s.sl s.as0) s.H0 (loopK s s' id)
theorem qen {P:Program} {c:Code} {Q Q':Exit→Act→World→Prop} (hq:∀e a w,Q e a w→Q' e a w):∀{n:Nat} {a:Act} {w:World},Code.rounds P c Q n a w→Code.rounds P c Q' n a w
 | 0,a,w,h=>h.elim
 | n+1,a,w,h=>by
  rw[rounds_succ] at h ⊢
  refine wp_mono h ?_
  intro e a w hh
  cases e<;>first | exact qen hq hh | exact hq _ _ _ hh
theorem tm_move {E1 E2:Env} {a:Act} {sl:List Nat} {xs ys:List SV} (hT:RelT E1 N (qcM sl xs) a) (hlen:xs.length=ys.length) (hxy:∀(j:Nat) y,ys[j]?=some y→∃x,xs[j]?=some x∧∀u,RelS E1 x u→RelS E2 y u):RelT E2 N (qcM sl ys) a:=by
 have hh:∀(sl:List Nat) (xs ys:List SV),xs.length=ys.length→(∀(j:Nat) y,ys[j]?=some y→∃x,xs[j]?=some x∧∀u,RelS E1 x u→RelS E2 y u)→∀d y,(qcM sl ys).get d=some y→∃x,(qcM sl xs).get d=some x∧∀u,RelS E1 x u→RelS E2 y u:=by
  intro sl
  induction sl with
  | nil=>intro xs ys _ _ d y hy;cases ys<;>simp[qcM,Tr.get] at hy
  | cons e sl ih =>
   intro xs ys hlen hxy d y hy
   match xs,ys,hlen,hxy,hy with
   | [],[],_,_,hy=>simp[qcM,Tr.get] at hy
   | x0 :: xs,y0 :: ys,hlen,hxy,hy =>
    simp only[qcM,Tr.get_put] at hy ⊢
    by_cases hde:d=e
    ·rw[if_pos hde] at hy ⊢
     cases hy
     obtain⟨x,hx,hu⟩:=hxy 0 _ rfl
     simp at hx
     subst hx
     exact⟨_,rfl,hu⟩
    ·rw[if_neg hde] at hy ⊢
     exact ih xs ys (by simpa using hlen) (fun j y hy=>by simpa using hxy (j+1) y (by simpa using hy)) d y hy
 refine⟨hT.size,hT.defers,fun d y hy=>?_⟩
 obtain⟨x,hx,hu⟩:=hh sl xs ys hlen hxy d y hy
 obtain⟨q1,q2⟩:=hT.at_ d x hx
 exact⟨q1,hu _ q2⟩
def Sum.rec' (s:Sum) (pid:Nat):Sum:={ s with pid:=pid }
theorem qcY {C C':Cfg} (h:C.fact=C'.fact) {s:Sum} {al:Alt} {E1:Env} (ht:qbW C fr w0 s E0 al E1 w):qbW C' fr w0 s E0 al E1 w:=by
 obtain⟨a,b,c,d⟩:=ht
 exact⟨a,b,by rw[←h];exact c,d⟩
theorem loop_of_run {C0:Cfg} {preM:Nat→Nat→List Value→List Rw→Prop} {mu:List Value→List Rw→Nat} {pid':Nat}
  (hC:∀m,({ C0 with pre:=preM m }:Cfg).Ok) (hT:∀m,({ C0 with pre:=preM m }:Cfg).Told)
  (hpre:∀m m' vs ls,preM m s.pid vs ls→preM m' s.pid vs ls) (hrec:∀m vs ls,preM m pid' vs ls→preM m s.pid vs ls∧mu vs ls < m)
  (lf d N f id:Nat) (x:Code) (hL:∀m,({ C0 with pre:=preM m }:Cfg).Loops N f x) (hsl:∀al∈s.outs,al.res.length=al.sl.length) (hnd:s.sl.Nodup)
  (h:∀m,∀q:Qn,q.n=s.nv→q.m=s.nr→preM m s.pid (qcI q s.nv) (qaL q s.nr)→mu (qcI q s.nv) (qaL q s.nr)=m→(runL { C0 with pre:=preM m } lf d N f x s (s.rec' pid') id).Ok { C0 with pre:=preM m } (fun _ _ _ _=>True) q) :
  ∀m0,qcR { C0 with pre:=preM m0 } N (.block id (.loop x)) s:=by
 have main:∀(fuel:Nat) (fr:Fr) (w0:Ws) (w:World) (E0:Env) (a:Act),E0.q.n=s.nv→E0.q.m=s.nr→RelH fr w0 E0 s.H0 w→RelT E0 N (qcM s.sl s.as0) a→s.sl.length=s.as0.length→preM 0 s.pid (qcI E0.q s.nv) (qaL E0.q s.nr)→mu (qcI E0.q s.nv) (qaL E0.q s.nr) < fuel →
   Code.rounds C0.P x (Post fun e a' w'=>match e with
    | .nrm=>False
    | .ext j=>∃al∈s.outs,al.ex=(if j=id then .nrm else .ext j)∧∃E1,qbW { C0 with pre:=preM 0 } fr w0 s E0 al E1 w'∧RelT E1 N (qcM al.sl al.res) a'
    | .ret=>∃al∈s.outs,al.ex=.ret∧∃E1,qbW { C0 with pre:=preM 0 } fr w0 s E0 al E1 w'∧RelT E1 N (qcM al.sl al.res) a') fuel a w:=by
  intro fuel
  induction fuel with
  | zero=>intro _ _ _ _ _ _ _ _ _ _ _ hmu;omega
  | succ fuel ih =>
   intro fr w0 w E0 a hn hm hH hTm hlen hp hmu
   obtain⟨d1,d2⟩:=H0_def hH
   rw[rounds_succ]
   have hrun:=h (mu (qcI E0.q s.nv) (qaL E0.q s.nr)) E0.q hn hm (hpre _ _ _ _ hp) rfl
   have hend:∀(E':Env) (a':Act) (w':World) (e:Ex) (tm':Tm) (H':Hp),E0.le E'→RelH fr w0 E' H' w'→RelT E' N tm' a'→(endT s e (fun al=>qdn tm' al.sl) H' s.outs).Ok { C0 with pre:=preM (mu (qcI E0.q s.nv) (qaL E0.q s.nr)) } (fun _ _ _ _=>True) E'.q →
     ∃al∈s.outs,al.ex=e∧∃E1,qbW { C0 with pre:=preM 0 } fr w0 s E0 al E1 w'∧RelT E1 N (qcM al.sl al.res) a':=by
    intro E' a' w' e tm' H' hle hH' hT' hk
    obtain⟨al,hal,hex,⟨xs,hxs⟩,E1,ht,hl1,hr1⟩:=endT_ok (usOf:=fun al=>al.sl.map fun d=>a'.tmps.getD d undef) hH' hle ⟨hn,hm⟩ d1 d2 (fun al xs hx=>qeJ hT' hx) s.outs hk
    refine⟨al,hal,hex,E1,qcY rfl ht,qfO hT'.size hT'.defers (fun j dd hd=>?_) hr1⟩
    obtain⟨g1,g2⟩:=qcx hxs
    obtain⟨y,hy⟩:∃y,xs[j]?=some y:=⟨_,List.getElem?_eq_getElem (by rw[g1];exact(List.getElem?_eq_some_iff.1 hd).1)⟩
    obtain⟨d',hd',hg⟩:=g2 j y hy
    rw[hd] at hd';cases hd'
    exact(hT'.at_ dd y hg).1
   refine wp_mono (qbF (hC _) (qgo (hC _) (hT _) d) (hT _).sums x (fun e a' w'=>match e with
    | .nrm=>Code.rounds C0.P x (Post fun e a' w'=>match e with
     | .nrm=>False
     | .ext j=>∃al∈s.outs,al.ex=(if j=id then .nrm else .ext j)∧∃E1,qbW { C0 with pre:=preM 0 } fr w0 s E0 al E1 w'∧RelT E1 N (qcM al.sl al.res) a'
     | .ret=>∃al∈s.outs,al.ex=.ret∧∃E1,qbW { C0 with pre:=preM 0 } fr w0 s E0 al E1 w'∧RelT E1 N (qcM al.sl al.res) a') fuel a' w'
    | .ext j=>∃al∈s.outs,al.ex=(if j=id then .nrm else .ext j)∧∃E1,qbW { C0 with pre:=preM 0 } fr w0 s E0 al E1 w'∧RelT E1 N (qcM al.sl al.res) a'
    | .ret=>∃al∈s.outs,al.ex=.ret∧∃E1,qbW { C0 with pre:=preM 0 } fr w0 s E0 al E1 w'∧RelT E1 N (qcM al.sl al.res) a') _ _ _ E0 a w (hL _) hrun hH hTm (fun E' a' w' e tm' H' hle hH' hT' hk=>?_)) ?_
   ·cases e with
    | ret=>exact hend E' a' w' .ret tm' H' hle hH' hT' hk
    | ext j =>
     simp only[loopK] at hk
     rw[qaz,qau] at hk
     dsimp only
     split at hk
     ·rename_i hj;rw[if_pos hj];exact hend E' a' w' .nrm tm' H' hle hH' hT' hk
     ·rename_i hj;rw[if_neg hj];exact hend E' a' w' (.ext j) tm' H' hle hH' hT' hk
    | nrm =>
     simp only[loopK] at hk
     split at hk
     ·rename_i as hsl1
      split at hk
      ·rename_i o hc
       obtain⟨l1,l2⟩:=qeJ hT' hsl1
       obtain⟨E2,m,as',h1,h2,hf,h3,h4,h5,h6,h7,h8⟩:=qem hc hk hH' l1 l2
       have hslt:∀(j d:Nat),s.sl[j]?=some d→d < N:=fun j d hd=>by
        obtain⟨g1,g2⟩:=qcx hsl1
        obtain⟨x,hx⟩:∃x,as[j]?=some x:=⟨_,List.getElem?_eq_getElem (by rw[g1];exact(List.getElem?_eq_some_iff.1 hd).1)⟩
        obtain⟨d',hd',hg⟩:=g2 j x hx
        rw[hd] at hd';cases hd'
        exact(hT'.at_ d x hg).1
       obtain⟨p1,p2⟩:=hrec _ _ _ h7
       have hround:=ih (frOf fr (s.rec' pid') m E2 w') (wsOf w0 (s.rec' pid') m E2 w') w' (qcF (s.rec' pid') m E2) a' rfl rfl h4 (qfO hT'.size hT'.defers hslt h6) hlen (hpre _ _ _ _ p1) (by
        have:mu (qcI (qcF (s.rec' pid') m E2).q s.nv) (qaL (qcF (s.rec' pid') m E2).q s.nr) < mu (qcI E0.q s.nv) (qaL E0.q s.nr):=p2
        omega)
       have step:∀(e1:Ex) (a2:Act) (w2:World),(∃al∈s.outs,al.ex=e1∧∃E1,qbW { C0 with pre:=preM 0 } (frOf fr (s.rec' pid') m E2 w') (wsOf w0 (s.rec' pid') m E2 w') s (qcF (s.rec' pid') m E2) al E1 w2∧RelT E1 N (qcM al.sl al.res) a2) →
         ∃al∈s.outs,al.ex=e1∧∃E1,qbW { C0 with pre:=preM 0 } fr w0 s E0 al E1 w2∧RelT E1 N (qcM al.sl al.res) a2:=by
        rintro e1 a2 w2 ⟨al,hal,rfl,E3,ht,hT3⟩
        obtain⟨E4,rs,H4,g1,g2,g3,g4,g5⟩:=qeP hf h3 (h8 al hal) (qcY (C':={ C0 with pre:=preM (mu (qcI E0.q s.nv) (qaL E0.q s.nr)) }) rfl (show qbW { C0 with pre:=preM 0 } (frOf fr (s.rec' pid') m E2 w') (wsOf w0 (s.rec' pid') m E2 w') (s.rec' pid') (qcF (s.rec' pid') m E2) al E3 w2 from ht))
        exact hend E4 a2 w2 al.ex (qcM al.sl rs) H4 (Env.le_trans hle (Env.le_trans h1 g1)) g2 (tm_move hT3 g4 g5) g3
       refine qen ?_ hround
       intro e a2 w2 hq
       cases e with
       | exit j=>exact step _ _ _ hq
       | ret=>exact step _ _ _ hq
       | normal=>exact hq.elim
       | goto l=>exact hq.elim
       | panic c=>exact hq.elim
       | outgrown=>exact hq.elim
      ·exact hk.elim
     ·exact hk.elim
   ·intro e a w hq
    cases e<;>first | exact hq | exact hq.elim
 intro m0 fr w0 w E0 a hn hm hH hTm hlen hp _ _
 refine wp_block (wp_loop_rounds (mu (qcI E0.q s.nv) (qaL E0.q s.nr)+1) (qen ?_ (main _ fr w0 w E0 a hn hm hH hTm hlen (hpre _ _ _ _ hp) (Nat.lt_succ_self _))))
 intro e a w hq
 have hc:∀{e1:Ex} {a2:Act} {w2:World},(∃al∈s.outs,al.ex=e1∧∃E1,qbW { C0 with pre:=preM 0 } fr w0 s E0 al E1 w2∧RelT E1 N (qcM al.sl al.res) a2)→∃al∈s.outs,al.ex=e1∧∃E1,qbW { C0 with pre:=preM m0 } fr w0 s E0 al E1 w2∧al.res.length=al.sl.length∧RelT E1 N (qcM al.sl al.res) a2:=by
  rintro e1 a2 w2 ⟨al,hal,hex,E1,ht,hT1⟩
  exact⟨al,hal,hex,E1,qcY rfl ht,hsl al hal,hT1⟩
 cases e with
 | exit j =>
  simp only[Exit.inBlock,Post] at hq ⊢
  by_cases hj:j=id
  ·rw[if_pos hj] at hq ⊢;exact hc hq
  ·rw[if_neg hj] at hq ⊢;exact hc hq
 | ret=>exact hc hq
 | normal=>exact hq.elim
 | goto l=>exact hq.elim
 | panic c=>exact hq.elim
 | outgrown=>exact hq.elim
def cutK (s:Sum):Ex→Tm→Hp→Out:=fun e tm H=>endT s e (fun al=>qdn tm al.sl) H s.outs
noncomputable def runC (C:Cfg) (lf d N f:Nat) (x:Code) (s:Sum):Out :=
 match x with
 | .seq x y=>qcX C (runT C lf d) N lf f x (qcM s.sl s.as0) s.H0 fun e tm H=>match e with
  | .nrm=>qcX C (runT C lf d) N lf f y tm H (cutK s)
  | .ext id=>cutK s (.ext id) tm H
  | .ret=>cutK s .ret tm H
 | _=>.fail
theorem cut_of_run (hC:C.Ok) (hT:C.Told) (lf d N f:Nat) (x:Code) (hL:C.Loops N f x) (hsl:∀al∈s.outs,al.res.length=al.sl.length)
  (h:∀q:Qn,q.n=s.nv→q.m=s.nr→C.pre s.pid (qcI q s.nv) (qaL q s.nr)→(runC C lf d N f x s).Ok C (fun _ _ _ _=>True) q):qcR C N x s:=by
 intro fr w0 w E0 a hn hm hH hTm hlen hp d1 d2
 have hrun:=h E0.q hn hm hp
 unfold runC at hrun
 split at hrun
 ·rename_i x y
  have hLx:C.Loops N f x:=fun p hp=>hL p (by simp only[qaC,List.mem_cons,List.mem_append];exact .inr (.inl hp))
  have hLy:C.Loops N f y:=fun p hp=>hL p (by simp only[qaC,List.mem_cons,List.mem_append];exact .inr (.inr hp))
  have hend:∀(E':Env) (a':Act) (w':World) (e:Ex) (tm':Tm) (H':Hp),E0.le E'→RelH fr w0 E' H' w'→RelT E' N tm' a'→(cutK s e tm' H').Ok C (fun _ _ _ _=>True) E'.q →
    ∃al∈s.outs,al.ex=e∧∃E1,qbW C fr w0 s E0 al E1 w'∧al.res.length=al.sl.length∧RelT E1 N (qcM al.sl al.res) a':=by
   intro E' a' w' e tm' H' hle hH' hT' hk
   obtain⟨al,hal,hex,⟨xs,hxs⟩,E1,ht,hl1,hr1⟩:=endT_ok (usOf:=fun al=>al.sl.map fun d=>a'.tmps.getD d undef) hH' hle ⟨hn,hm⟩ d1 d2 (fun al xs hx=>qeJ hT' hx) s.outs hk
   refine⟨al,hal,hex,E1,ht,hsl al hal,qfO hT'.size hT'.defers (fun j dd hd=>?_) hr1⟩
   obtain⟨g1,g2⟩:=qcx hxs
   obtain⟨y,hy⟩:∃y,xs[j]?=some y:=⟨_,List.getElem?_eq_getElem (by rw[g1];exact(List.getElem?_eq_some_iff.1 hd).1)⟩
   obtain⟨d',hd',hg⟩:=g2 j y hy
   rw[hd] at hd';cases hd'
   exact(hT'.at_ dd y hg).1
  let KK:Ex→Act→World→Prop:=fun e a' w'=>∃al∈s.outs,al.ex=e∧∃E1,qbW C fr w0 s E0 al E1 w'∧al.res.length=al.sl.length∧RelT E1 N (qcM al.sl al.res) a'
  refine wp_seq ?_
  refine wp_mono (qbF hC (qgo hC hT d) hT.sums x (fun e a w=>match e with | .nrm=>y.wp C.P (Post KK) a w | e=>KK e a w) _ _ _ E0 a w hLx hrun hH hTm (fun E' a' w' e tm' H' hle hH' hT' hk=>?_)) ?_
  ·cases e with
   | nrm=>exact qbF hC (qgo hC hT d) hT.sums y KK (cutK s) tm' H' E' a' w' hLy hk hH' hT' fun E2 a2 w2 e2 tm2 H2 hle2 hH2 hT2 hk2=>hend E2 a2 w2 e2 tm2 H2 (Env.le_trans hle hle2) hH2 hT2 hk2
   | ext j=>exact hend E' a' w' _ tm' H' hle hH' hT' hk
   | ret=>exact hend E' a' w' _ tm' H' hle hH' hT' hk
  ·intro e a w hq
   cases e<;>first | exact hq | exact hq.elim
 ·exact hrun.elim
end
end Go.Proofs.YtipomcnbjlfekaaGreat.Rs
