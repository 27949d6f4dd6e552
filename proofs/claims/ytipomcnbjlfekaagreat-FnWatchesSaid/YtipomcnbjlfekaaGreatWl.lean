import Derived.Test.YtipomcnbjlfekaaGreatWk
/- Parts of the proof, merged by a program. -/
namespace Go.Proofs.YtipomcnbjlfekaaGreat.Rs
set_option maxRecDepth 100000
set_option linter.all false
open Go.RowKit
theorem qhd {a:Ar} (ha:AOk a) (z:Bool):∀(d i:Nat),i+d=a.length→fin trA 1154 [B z,I i] [qag a]=some (0,[],[])
 | 0,i,hi=>by
  refine qaa trA ?_
  show o96_0.go _ _ _=_
  have g:¬(i:Int) < (a.length:Int):=by omega
  simp only[o96_0,TT,Nat.reduceEqDiff,↓reduceIte,encA_len,g]
 | d+1,i,hi=>by
  have ih:=qhd ha z d (i+1) (by omega)
  have hlt:i < a.length:=by omega
  have hg:a[i]?=some a[i]:=List.getElem?_eq_getElem hlt
  have g:(i:Int) < (a.length:Int):=by omega
  have g0:(0:Int)≤(i:Int):=by omega
  have few:=ha.few
  have w:wr ((i:Int)+1)=((i+1:Nat):Int):=by rw[qaj (by omega) (by omega)];omega
  have e1:=qgl a[i].k a[i].num a[i].a a[i].b i
  rw[show(⟨a[i].k,a[i].num,a[i].a,a[i].b⟩:Nd)=a[i] from rfl,ha.right i _ hg] at e1
  have e2:=f_at a a[i] (by omega)
  have e3:at_ a a[i]=i:=by
   have:=put_old ha hg
   unfold at_
   cases e:atFrom a[i] a 0 with
   | some j =>
    obtain⟨h1,h2⟩:=qde e
    have:=ha.once _ _ _ h2 hg
    show j=i
    omega
   | none=>exact absurd hg (qdd e i)
  rw[e3] at e2
  refine qaa trA ?_
  show o96_0.go _ _ _=_
  simp only[o96_0,qac,TT,Nat.reduceEqDiff,↓reduceIte,encA_len,Int.toNat_natCast,qal a i hlt,Nd.enc,g,g0,e1,e2,w,ih,ne_eq,not_true_eq_false]
theorem qeC {a:Ar} (ha:AOk a):fin trA 1155 [] [qag a]=some (0,[B true],[]):=by
 have e:=qhd ha false a.length 0 (by omega)
 rw[show((0:Nat):Int)=0 from rfl] at e
 have few:=ha.few
 have g:¬(3000:Int) < (a.length:Int):=by omega
 refine qaa trA ?_
 show o96.go _ _ _=_
 simp only[o96,qac,TT,Nat.reduceEqDiff,↓reduceIte,encA_len,gt_iff_lt,g,e]
def qaQ (l:List Bool):Rw:=l.map fun b=>[B b]
theorem encBo_len (l:List Bool):(qaQ l).length=l.length:=List.length_map ..
def hasAt (hs:List Bool) (x:Int):Bool:=hs.getD x.toNat false
theorem qaO (hs:List Bool) {x:Int} (h0:0≤x) (h1:x < (hs.length:Int)):(qaQ hs).getD x.toNat []=[B (hasAt hs x)]:=by
 have h:x.toNat < hs.length:=by omega
 simp[qaQ,hasAt,List.getD_eq_getElem?_getD,List.getElem?_eq_getElem h]
def qfb (ps:List Int) (x:Int):Int:=ps.getD x.toNat (-1)
theorem encI_at (ps:List Int) {x:Int} (h0:0≤x) (h1:x < (ps.length:Int)):(qak ps).getD x.toNat []=[I (qfb ps x)]:=by
 have h:x.toNat < ps.length:=by omega
 simp[qak,qfb,List.getD_eq_getElem?_getD,List.getElem?_eq_getElem h]
def qdG (hs:List Bool) (x:Int):List Bool:=hs.modify x.toNat fun _=>true
theorem qcg (hs:List Bool) (x:Int):(qdG hs x).length=hs.length:=List.length_modify ..
theorem qdh (hs:List Bool) (x:Int):qbx (qaQ hs) x.toNat 0 [.bool true]=qaQ (qdG hs x):=by
 unfold qbx qaQ qdG
 exact qbI (fun b:Bool=>[B b]) _ _ (fun _=>rfl) hs x.toNat
theorem qbq (hs:List Bool) (x:Int) (j:Nat):(qdG hs x).getD j false=(hs.getD j false||(decide (j=x.toNat)&&decide (j < hs.length))):=by
 unfold qdG
 rw[List.getD_eq_getElem?_getD,List.getD_eq_getElem?_getD,List.getElem?_modify]
 by_cases h:x.toNat=j
 ·subst h
  by_cases hl:x.toNat < hs.length
  ·simp[List.getElem?_eq_getElem hl,hl]
  ·simp[List.getElem?_eq_none (Nat.le_of_not_lt hl),hl]
 ·have h':¬j=x.toNat:=fun e=>h e.symm
  simp[h,h']
def qcO (hs:List Bool):Nat:=hs.countP fun b=>!b
theorem setT_cnt:∀(hs:List Bool) (x:Int),qcO (qdG hs x)≤qcO hs∧(hasAt hs x=false→x.toNat < hs.length→qcO (qdG hs x) < qcO hs):=by
 have key:∀(hs:List Bool) (i:Nat),qcO (hs.modify i fun _=>true)≤qcO hs∧(hs.getD i false=false→i < hs.length→qcO (hs.modify i fun _=>true) < qcO hs):=by
  intro hs
  induction hs with
  | nil=>intro i;simp[qcO]
  | cons b hs ih =>
   intro i
   cases i with
   | zero=>cases b<;>simp[qcO]
   | succ i =>
    have:=ih i
    cases b<;>simp[qcO] at this ⊢<;>exact this
 exact fun hs x=>key hs x.toNat
theorem qbf {a:Ar} (ha:AOk a) {k:Nat} {n:Nd} (h:a[k]?=some n):n.k=1∨((n.k=3∨n.k=6)∧0≤n.a∧n.a < k)∨((n.k=2∨n.k=4∨n.k=5∨n.k=7∨n.k=8∨n.k=9)∧(0≤n.a∧n.a < k)∧0≤n.b∧n.b < k):=by
 have hlt:k < a.length:=(List.getElem?_eq_some_iff.1 h).1
 have few:=ha.few
 have hr:=ha.right k n h
 have e1:wr ((k:Int) - 1)=(k:Int) - 1:=qaj (by omega) (by omega)
 unfold Nd.right at hr
 rw[e1] at hr
 by_cases c1:inB n.k 1 9=false
 ·rw[if_pos c1] at hr;cases hr
 rw[if_neg c1] at hr
 have c1':1≤n.k∧n.k≤9:=by simp[inB] at c1;omega
 by_cases c2:n.k=1
 ·exact .inl c2
 rw[if_neg c2] at hr
 by_cases c3:n.num≠0
 ·rw[if_pos c3] at hr;cases hr
 rw[if_neg c3] at hr
 by_cases c4:inB n.a 0 ((k:Int) - 1)=false
 ·rw[if_pos c4] at hr;cases hr
 rw[if_neg c4] at hr
 have c4':0≤n.a∧n.a < k:=by simp[inB] at c4;omega
 by_cases c6:qbB n.k=true
 ·simp[qbB] at c6
  exact .inr (.inl ⟨c6,c4'⟩)
 ·rw[if_neg c6] at hr
  simp[qbB] at c6
  simp[inB] at hr
  exact .inr (.inr ⟨by omega,c4',by omega⟩)
def qcU (hs:List Bool) (ps:List Int) (n:Nd):Bool :=
 if n.k=1 then decide (n.num < 1000) else if n.k=3 then hasAt hs n.a else if n.k=6 then hasAt hs n.a
 else if n.k=7 then (hasAt hs n.a&&(decide (0≤qfb ps n.b)&&hasAt hs (qfb ps n.b)))||(hasAt hs n.b&&(decide (0≤qfb ps n.a)&&hasAt hs (qfb ps n.a)))
 else hasAt hs n.a&&hasAt hs n.b
theorem psAt_bd {ps:List Int} {m:Nat} (hp:∀x∈ps,x < (m:Int)) (x:Int):qfb ps x < (m:Int):=by
 unfold qfb
 rw[List.getD_eq_getElem?_getD]
 cases h:ps[x.toNat]? with
 | none=>show(-1:Int) < m;omega
 | some y=>exact hp y (List.mem_of_getElem? h)
theorem f_made {a:Ar} (ha:AOk a) {hs:List Bool} {ps:List Int} (h1:hs.length=a.length) (h2:ps.length=a.length) (hp:∀x∈ps,x < (a.length:Int)) {k:Nat} (hk:k < a.length) :
  fin trA 2486 [I k] [qag a,qaQ hs,qak ps]=some (0,[B (qcU hs ps a[k])],[]):=by
 have hg:a[k]?=some a[k]:=List.getElem?_eq_getElem hk
 have g0:(0:Int)≤(k:Int):=by omega
 have g1:(k:Int) < (a.length:Int):=by omega
 refine qaa trA ?_
 show o207.go _ _ _=_
 unfold qcU
 rcases qbf ha hg with h | ⟨h,h3,h4⟩ | ⟨h,⟨h3,h4⟩,h5,h6⟩
 ·simp only[o207,TT,Nat.reduceEqDiff,↓reduceIte,encA_len,g0,g1,Int.toNat_natCast,qal a k hk,Nd.enc,h]
 ·have ga:a[k].a < (hs.length:Int):=by omega
  have q1:=qaO hs h3 ga
  rcases h with h | h<;>simp only[o207,TT,Nat.reduceEqDiff,↓reduceIte,encA_len,encBo_len,g0,g1,Int.toNat_natCast,qal a k hk,Nd.enc,h,h3,ga,q1,Int.reduceEq]
 ·have ga:a[k].a < (hs.length:Int):=by omega
  have gb:a[k].b < (hs.length:Int):=by omega
  have pa:a[k].a < (ps.length:Int):=by omega
  have pb:a[k].b < (ps.length:Int):=by omega
  have q1:=qaO hs h3 ga
  have q2:=qaO hs h5 gb
  have q3:=encI_at ps h3 pa
  have q4:=encI_at ps h5 pb
  by_cases h7:a[k].k=7
  ·have ba:=psAt_bd hp a[k].a
   have bb:=psAt_bd hp a[k].b
   have ba':qfb ps a[k].a < (hs.length:Int):=by omega
   have bb':qfb ps a[k].b < (hs.length:Int):=by omega
   by_cases ca:0≤qfb ps a[k].a<;>by_cases cb:0≤qfb ps a[k].b<;>cases xa:hasAt hs a[k].a<;>cases xb:hasAt hs a[k].b <;>
   ·have q5:=fun (c:0≤qfb ps a[k].a)=>qaO hs c ba'
    have q6:=fun (c:0≤qfb ps a[k].b)=>qaO hs c bb'
    cases ya:hasAt hs (qfb ps a[k].a)<;>cases yb:hasAt hs (qfb ps a[k].b) <;>
    simp only[o207,TT,Nat.reduceEqDiff,↓reduceIte,encA_len,encBo_len,encI_len,g0,g1,Int.toNat_natCast,qal a k hk,Nd.enc,h7,h3,h5,ga,gb,pa,pb,q1,q2,q3,q4,q5,q6,Int.reduceEq,ca,cb,ba',bb',xa,xb,ya,yb,ge_iff_le,Bool.true_and,Bool.false_and,Bool.and_true,Bool.and_false,Bool.or_true,Bool.true_or,Bool.or_false,Bool.false_or]
  ·have n1:¬a[k].k=1:=by omega
   have n3:¬a[k].k=3:=by omega
   have n6:¬a[k].k=6:=by omega
   cases xa:hasAt hs a[k].a <;>
   simp only[o207,TT,Nat.reduceEqDiff,↓reduceIte,encA_len,encBo_len,g0,g1,Int.toNat_natCast,qal a k hk,Nd.enc,h7,n1,n3,n6,h3,h5,ga,gb,q1,q2,xa,Bool.true_and,Bool.false_and]
def qaU (hs:List Bool) (n:Nd):List Bool × Bool :=
 if n.k=2 then (qdG (qdG hs n.a) n.b,!hasAt hs n.a||!hasAt hs n.b) else if n.k=8 then (qdG hs n.b,!hasAt hs n.b)
 else if n.k=5 then (if hasAt hs n.a=true then (qdG hs n.b,!hasAt hs n.b) else (hs,false)) else (hs,false)
theorem f_partsB {a:Ar} (ha:AOk a) {hs:List Bool} (h1:hs.length=a.length) {k:Nat} (hk:k < a.length) :
  fin trA 2498 [I k] [qag a,qaQ hs]=some (0,[B (qaU hs a[k]).2],[qaQ (qaU hs a[k]).1]):=by
 have hg:a[k]?=some a[k]:=List.getElem?_eq_getElem hk
 have g0:(0:Int)≤(k:Int):=by omega
 have g1:(k:Int) < (a.length:Int):=by omega
 refine qaa trA ?_
 show o208.go _ _ _=_
 unfold qaU
 have s1:=fun (hs:List Bool) (x:Int)=>qdh hs x
 by_cases c2:a[k].k=2
 ·obtain⟨h3,h4,h5,h6⟩:0≤a[k].a∧a[k].a < k∧0≤a[k].b∧a[k].b < k:=by
   rcases qbf ha hg with h | ⟨h,_⟩ | ⟨h,⟨h3,h4⟩,h5,h6⟩
   ·omega
   ·omega
   ·exact⟨h3,h4,h5,h6⟩
  have ga:a[k].a < (hs.length:Int):=by omega
  have gb:a[k].b < (hs.length:Int):=by omega
  have q1:=qaO hs h3 ga
  have q2:=qaO hs h5 gb
  cases xa:hasAt hs a[k].a <;>
  simp only[o208,TT,Nat.reduceEqDiff,↓reduceIte,encA_len,encBo_len,g0,g1,Int.toNat_natCast,qal a k hk,Nd.enc,c2,h3,h5,ga,gb,q1,q2,xa,s1,qcg,Bool.true_or,Bool.false_or]
 by_cases c8:a[k].k=8
 ·obtain⟨h5,h6⟩:0≤a[k].b∧a[k].b < k:=by
   rcases qbf ha hg with h | ⟨h,_⟩ | ⟨h,⟨h3,h4⟩,h5,h6⟩
   ·omega
   ·omega
   ·exact⟨h5,h6⟩
  have gb:a[k].b < (hs.length:Int):=by omega
  have q2:=qaO hs h5 gb
  simp only[o208,TT,Nat.reduceEqDiff,↓reduceIte,encA_len,encBo_len,g0,g1,Int.toNat_natCast,qal a k hk,Nd.enc,c2,c8,h5,gb,q2,s1,Int.reduceEq]
 by_cases c5:a[k].k=5
 ·obtain⟨h3,h4,h5,h6⟩:0≤a[k].a∧a[k].a < k∧0≤a[k].b∧a[k].b < k:=by
   rcases qbf ha hg with h | ⟨h,_⟩ | ⟨h,⟨h3,h4⟩,h5,h6⟩
   ·omega
   ·omega
   ·exact⟨h3,h4,h5,h6⟩
  have ga:a[k].a < (hs.length:Int):=by omega
  have gb:a[k].b < (hs.length:Int):=by omega
  have q1:=qaO hs h3 ga
  have q2:=qaO hs h5 gb
  cases xa:hasAt hs a[k].a <;>
  simp only[o208,TT,Nat.reduceEqDiff,↓reduceIte,encA_len,encBo_len,g0,g1,Int.toNat_natCast,qal a k hk,Nd.enc,c2,c8,c5,h3,h5,ga,gb,q1,q2,xa,s1,Int.reduceEq]
 simp only[o208,TT,Nat.reduceEqDiff,↓reduceIte,encA_len,encBo_len,g0,g1,Int.toNat_natCast,qal a k hk,Nd.enc,c2,c8,c5]
structure Closed (a:Ar) (ps:List Int) (P:Nat→Prop):Prop where
 made:∀(hs:List Bool) (k:Nat) (hk:k < a.length),(∀j,hs.getD j false=true→P j)→qcU hs ps a[k]=true→P k
 parts:∀(hs:List Bool) (k:Nat) (hk:k < a.length),(∀j,hs.getD j false=true→P j)→hs.getD k false=true→∀j,(qaU hs a[k]).1.getD j false=true→P j
structure Grow (a:Ar) (ps:List Int) (hs hs':List Bool):Prop where
 len:hs'.length=hs.length
 mono:∀j,hs.getD j false=true→hs'.getD j false=true
 least:∀P,Closed a ps P→(∀j,hs.getD j false=true→P j)→∀j,hs'.getD j false=true→P j
theorem Grow.refl {a:Ar} {ps:List Int} (hs:List Bool):Grow a ps hs hs:=⟨rfl,fun _ h=>h,fun _ _ h=>h⟩
theorem Grow.trans {a:Ar} {ps:List Int} {x y z:List Bool} (h:Grow a ps x y) (k:Grow a ps y z):Grow a ps x z:=⟨k.len.trans h.len,fun j q=>k.mono j (h.mono j q),fun P c q=>k.least P c (h.least P c q)⟩
theorem qfY {hs:List Bool} {x:Int} (h:hasAt hs x=true):qdG hs x=hs:=by
 unfold qdG
 apply List.ext_getElem (List.length_modify ..)
 intro i h1 h2
 rw[List.getElem_modify]
 split
 ·rename_i hi
  subst hi
  unfold hasAt at h
  rw[List.getD_eq_getElem?_getD,List.getElem?_eq_getElem h2] at h
  exact h.symm
 ·rfl
theorem qgx {a:Ar} (ha:AOk a) {hs:List Bool} (h1:hs.length=a.length) {k:Nat} (hk:k < a.length) :
  (qaU hs a[k]).1.length=hs.length∧qcO (qaU hs a[k]).1≤qcO hs∧((qaU hs a[k]).2=true→qcO (qaU hs a[k]).1 < qcO hs)∧((qaU hs a[k]).2=false→(qaU hs a[k]).1=hs)∧∀j,hs.getD j false=true→(qaU hs a[k]).1.getD j false=true:=by
 have hg:a[k]?=some a[k]:=List.getElem?_eq_getElem hk
 have one:∀(hs:List Bool) (x:Int),0≤x→x.toNat < hs.length→(qdG hs x).length=hs.length∧qcO (qdG hs x)≤qcO hs∧((!hasAt hs x)=true→qcO (qdG hs x) < qcO hs)∧((!hasAt hs x)=false→qdG hs x=hs)∧∀j,hs.getD j false=true→(qdG hs x).getD j false=true:=fun hs x h0 hx=>by
  have hc:=setT_cnt hs x
  refine⟨qcg _ _,hc.1,fun q=>hc.2 (by simpa using q) hx,fun q=>qfY (by simpa using q),fun j q=>by rw[qbq,q];rfl⟩
 unfold qaU
 by_cases c2:a[k].k=2
 ·obtain⟨h3,h4,h5,h6⟩:0≤a[k].a∧a[k].a < k∧0≤a[k].b∧a[k].b < k:=by
   rcases qbf ha hg with h | ⟨h,_⟩ | ⟨h,⟨h3,h4⟩,h5,h6⟩
   ·omega
   ·omega
   ·exact⟨h3,h4,h5,h6⟩
  rw[if_pos c2]
  obtain⟨p1,p2,p3,p4,p5⟩:=one hs a[k].a h3 (by omega)
  obtain⟨q1,q2,q3,q4,q5⟩:=one (qdG hs a[k].a) a[k].b h5 (by omega)
  refine⟨q1.trans p1,Nat.le_trans q2 p2,fun q=>?_,fun q=>?_,fun j q=>q5 j (p5 j q)⟩
  ·show qcO (qdG (qdG hs a[k].a) a[k].b) < qcO hs
   cases xa:hasAt hs a[k].a with
   | false=>have:=p3 (by rw[xa];rfl);omega
   | true =>
    rw[p4 (by rw[xa];rfl)] at q3 ⊢
    have:(!hasAt hs a[k].b)=true:=by simpa [xa] using q
    exact q3 this
  ·simp at q
   rw[p4 (by rw[q.1];rfl)] at q4 ⊢
   exact q4 (by rw[q.2];rfl)
 rw[if_neg c2]
 have hb:(a[k].k=8∨a[k].k=5)→0≤a[k].b∧a[k].b.toNat < hs.length:=fun hh=>by
  rcases qbf ha hg with h | ⟨h,_⟩ | ⟨h,⟨h3,h4⟩,h5,h6⟩
  ·omega
  ·omega
  ·exact⟨h5,by omega⟩
 by_cases c8:a[k].k=8
 ·rw[if_pos c8]
  have:=hb (.inl c8)
  exact one hs a[k].b this.1 this.2
 rw[if_neg c8]
 by_cases c5:a[k].k=5
 ·rw[if_pos c5]
  have:=hb (.inr c5)
  split
  ·exact one hs a[k].b this.1 this.2
  ·exact⟨rfl,Nat.le_refl _,fun h=>absurd h (by simp),fun _=>rfl,fun j q=>q⟩
 ·rw[if_neg c5]
  exact⟨rfl,Nat.le_refl _,fun h=>absurd h (by simp),fun _=>rfl,fun j q=>q⟩
section
variable {a:Ar} (ha:AOk a) {ps:List Int} (h2:ps.length=a.length) (hp:∀x∈ps,x < (a.length:Int))
include ha h2 hp
theorem qfI (z:Rw):∀(d k:Nat) (hs:List Bool) (s:Bool),hs.length=a.length→k+d=a.length →
  ∃hs' s',fin trA 1923 [B s,I k] [qag a,z,qaQ hs,qak ps]=some (0,[B s'],[qaQ hs'])∧Grow a ps hs hs'∧qcO hs'≤qcO hs∧(s'=true→s=true∨qcO hs' < qcO hs)∧(s'=false→s=false∧hs'=hs∧∀j (hj:j < a.length),k≤j→hs.getD j false=false→qcU hs ps a[j]=false)
 | 0,k,hs,s,h1,hk=>by
  refine⟨hs,s,qaa trA ?_,.refl hs,Nat.le_refl _,fun h=>.inl h,fun h=>⟨h,rfl,fun j hj hkj=>by omega⟩⟩
  show o160_4.go _ _ _=_
  have g:¬(k:Int) < (hs.length:Int):=by omega
  simp only[o160_4,TT,Nat.reduceEqDiff,↓reduceIte,encBo_len,g]
 | d+1,k,hs,s,h1,hk=>by
  have hlt:k < a.length:=by omega
  have few:=ha.few
  have g:(k:Int) < (hs.length:Int):=by omega
  have g0:(0:Int)≤(k:Int):=by omega
  have w:wr ((k:Int)+1)=((k+1:Nat):Int):=by rw[qaj (by omega) (by omega)];omega
  have q1:=qaO hs g0 g
  have e1:=f_made ha h1 h2 hp hlt
  have hx:hasAt hs (k:Int)=hs.getD k false:=by unfold hasAt;rw[Int.toNat_natCast]
  have hsr:=qdh hs (k:Int)
  rw[Int.toNat_natCast] at q1 hsr
  cases xk:hasAt hs (k:Int) with
  | true =>
   obtain⟨hs',s',e,gr,c1,c2,c3⟩:=qfI z d (k+1) hs s h1 (by omega)
   refine⟨hs',s',qaa trA ?_,gr,c1,c2,fun q=>?_⟩
   ·show o160_4.go _ _ _=_
    simp only[o160_4,TT,Nat.reduceEqDiff,↓reduceIte,encBo_len,g,g0,Int.toNat_natCast,q1,xk,w,e]
   ·obtain⟨p1,p2,p3⟩:=c3 q
    refine⟨p1,p2,fun j hj hkj hf=>?_⟩
    by_cases hjk:j=k
    ·subst hjk;rw[←hx,xk] at hf;cases hf
    ·exact p3 j hj (by omega) hf
  | false =>
   cases mk:qcU hs ps a[k] with
   | true =>
    have hc:=(setT_cnt hs (k:Int)).2 xk (by rw[Int.toNat_natCast];omega)
    obtain⟨hs',s',e,gr,c1,c2,c3⟩:=qfI z d (k+1) (qdG hs k) true (by rw[qcg];exact h1) (by omega)
    refine⟨hs',s',qaa trA ?_,.trans ⟨qcg _ _,fun j q=>by rw[qbq,q];rfl,fun P c q j hj=>?_⟩ gr,by omega,fun _=>.inr (by omega),fun q=>?_⟩
    ·show o160_4.go _ _ _=_
     rw[mk] at e1
     simp only[o160_4,TT,Nat.reduceEqDiff,↓reduceIte,encBo_len,g,g0,Int.toNat_natCast,q1,xk,e1,hsr,w,e]
    ·rw[qbq,Bool.or_eq_true] at hj
     rcases hj with hj | hj
     ·exact q j hj
     ·simp at hj
      rw[hj.1]
      exact c.made hs k hlt q mk
    ·exact absurd (c3 q).1 (by simp)
   | false =>
    obtain⟨hs',s',e,gr,c1,c2,c3⟩:=qfI z d (k+1) hs s h1 (by omega)
    refine⟨hs',s',qaa trA ?_,gr,c1,c2,fun q=>?_⟩
    ·show o160_4.go _ _ _=_
     rw[mk] at e1
     simp only[o160_4,TT,Nat.reduceEqDiff,↓reduceIte,encBo_len,g,g0,Int.toNat_natCast,q1,xk,e1,w,e]
    ·obtain⟨p1,p2,p3⟩:=c3 q
     refine⟨p1,p2,fun j hj hkj hf=>?_⟩
     by_cases hjk:j=k
     ·subst hjk;exact mk
     ·exact p3 j hj (by omega) hf
theorem qfR (z:Rw):∀(m:Nat) (hs:List Bool) (s:Bool),hs.length=a.length→m≤a.length →
  ∃hs' s',fin trA 1924 [B s,I ((m:Int) - 1)] [qag a,z,qaQ hs,qak ps]=some (0,[B s'],[qaQ hs'])∧Grow a ps hs hs'∧qcO hs'≤qcO hs∧(s'=true→s=true∨qcO hs' < qcO hs)∧(s'=false→s=false∧hs'=hs∧∀j (hj:j < a.length),j < m→hs.getD j false=true→(qaU hs a[j]).2=false)
 | 0,hs,s,h1,hm=>by
  refine⟨hs,s,qaa trA ?_,.refl hs,Nat.le_refl _,fun h=>.inl h,fun h=>⟨h,rfl,fun j hj hkj=>by omega⟩⟩
  show o160_6.go _ _ _=_
  have g:¬(0:Int)≤((0:Nat):Int) - 1:=by omega
  simp only[o160_6,TT,Nat.reduceEqDiff,↓reduceIte,g]
 | m+1,hs,s,h1,hm=>by
  have hlt:m < a.length:=by omega
  have few:=ha.few
  have em:((m+1:Nat):Int) - 1=(m:Int):=by omega
  have g:(m:Int) < (hs.length:Int):=by omega
  have g0:(0:Int)≤(m:Int):=by omega
  have w:wr ((m:Int) - 1)=(m:Int) - 1:=qaj (by omega) (by omega)
  have q1:=qaO hs g0 g
  have e1:=f_partsB ha h1 hlt
  have hx:hasAt hs (m:Int)=hs.getD m false:=by unfold hasAt;rw[Int.toNat_natCast]
  rw[Int.toNat_natCast] at q1
  rw[em]
  cases xk:hasAt hs (m:Int) with
  | false =>
   obtain⟨hs',s',e,gr,c1,c2,c3⟩:=qfR z m hs s h1 (by omega)
   refine⟨hs',s',qaa trA ?_,gr,c1,c2,fun q=>?_⟩
   ·show o160_6.go _ _ _=_
    simp only[o160_6,TT,Nat.reduceEqDiff,↓reduceIte,encBo_len,g,g0,Int.toNat_natCast,q1,xk,w,e]
   ·obtain⟨p1,p2,p3⟩:=c3 q
    refine⟨p1,p2,fun j hj hkj hf=>?_⟩
    by_cases hjk:j=m
    ·subst hjk;rw[←hx,xk] at hf;cases hf
    ·exact p3 j hj (by omega) hf
  | true =>
   obtain⟨l1,cn1,cn2,cn3,cn4⟩:=qgx ha h1 hlt
   have gp:Grow a ps hs (qaU hs a[m]).1:=⟨l1,cn4,fun P c q j hj=>c.parts hs m hlt q (by rw[←hx];exact xk) j hj⟩
   cases pk:(qaU hs a[m]).2 with
   | true =>
    obtain⟨hs',s',e,gr,c1,c2,c3⟩:=qfR z m (qaU hs a[m]).1 true (by omega) (by omega)
    have:=cn2 pk
    refine⟨hs',s',qaa trA ?_,gp.trans gr,by omega,fun _=>.inr (by omega),fun q=>absurd (c3 q).1 (by simp)⟩
    show o160_6.go _ _ _=_
    rw[pk] at e1
    simp only[o160_6,TT,Nat.reduceEqDiff,↓reduceIte,encBo_len,g,g0,Int.toNat_natCast,q1,xk,e1,w,e]
   | false =>
    rw[cn3 pk,pk] at e1
    obtain⟨hs',s',e,gr,c1,c2,c3⟩:=qfR z m hs s h1 (by omega)
    refine⟨hs',s',qaa trA ?_,gr,c1,c2,fun q=>?_⟩
    ·show o160_6.go _ _ _=_
     simp only[o160_6,TT,Nat.reduceEqDiff,↓reduceIte,encBo_len,g,g0,Int.toNat_natCast,q1,xk,e1,w,e]
    ·obtain⟨p1,p2,p3⟩:=c3 q
     refine⟨p1,p2,fun j hj hkj hf=>?_⟩
     by_cases hjk:j=m
     ·subst hjk;exact pk
     ·exact p3 j hj (by omega) hf
def Full (a:Ar) (ps:List Int) (hs:List Bool):Prop:=(∀j (hj:j < a.length),hs.getD j false=false→qcU hs ps a[j]=false)∧∀j (hj:j < a.length),hs.getD j false=true→(qaU hs a[j]).2=false
theorem f_reach2_end (z:Rw) (hs:List Bool):fin trA 1925 [B false] [qag a,z,qaQ hs,qak ps]=some (0,[],[qaQ hs]):=by
 refine qaa trA ?_
 show o160_2.go _ _ _=_
 simp only[o160_2,TT,Nat.reduceEqDiff,↓reduceIte]
theorem f_reach2 (z:Rw):∀(n:Nat) (hs:List Bool),qcO hs≤n→hs.length=a.length→∃hs',fin trA 1925 [B true] [qag a,z,qaQ hs,qak ps]=some (0,[],[qaQ hs'])∧Grow a ps hs hs'∧Full a ps hs':=by
 intro n
 induction n using Nat.strongRecOn with
 | ind n ih =>
  intro hs hn h1
  have few:=ha.few
  obtain⟨h4,s4,e4,g4,a1,a2,a3⟩:=qfI ha h2 hp z a.length 0 hs false h1 (by omega)
  have l4:h4.length=a.length:=by rw[g4.len];exact h1
  obtain⟨h6,s6,e6,g6,b1,b2,b3⟩:=qfR ha h2 hp z a.length h4 s4 l4 (by omega)
  rw[show((0:Nat):Int)=0 from rfl] at e4
  have w:wr ((a.length:Int) - 1)=(a.length:Int) - 1:=qaj (by omega) (by omega)
  have step:∀R,fin trA 1925 [B s6] [qag a,z,qaQ h6,qak ps]=some (0,[],[R])→fin trA 1925 [B true] [qag a,z,qaQ hs,qak ps]=some (0,[],[R]):=fun R e=>by
   refine qaa trA ?_
   show o160_2.go _ _ _=_
   simp only[o160_2,TT,Nat.reduceEqDiff,↓reduceIte,e4,encBo_len,l4,w,e6,e]
  cases s6 with
  | false =>
   obtain⟨p1,p2,p3⟩:=b3 rfl
   obtain⟨q1,q2,q3⟩:=a3 p1
   refine⟨h6,step _ (f_reach2_end ha h2 hp z h6),g4.trans g6,?_,?_⟩
   ·rw[p2,q2];exact fun j hj hf=>q3 j hj (Nat.zero_le _) hf
   ·rw[p2];exact fun j hj hf=>p3 j hj hj hf
  | true =>
   have hlt:qcO h6 < qcO hs:=by
    rcases b2 rfl with h | h
    ·rcases a2 h with h' | h'
     ·cases h'
     ·omega
    ·omega
   obtain⟨h',e,g,f⟩:=ih (qcO h6) (by omega) h6 (Nat.le_refl _) (by rw[g6.len];exact l4)
   exact⟨h',step _ e,(g4.trans g6).trans g,f⟩
end
theorem f_reach0 {a:Ar} {known:List Int} (hk:known.length≤100000) (r1 r2:Rw) (few:a.length≤3000):∀(d i:Nat) (hs:List Bool),i+d=known.length→hs.length=a.length →
  ∃hs',fin trA 1922 [I i] [qak known,r1,r2,qaQ hs]=some (0,[],[qaQ hs'])∧hs'.length=a.length∧(∀j,hs.getD j false=true→hs'.getD j false=true)∧(∀x∈known.drop i,0≤x→x < (a.length:Int)→hs'.getD x.toNat false=true)∧∀j,hs'.getD j false=true→hs.getD j false=true∨(j:Int)∈known.drop i
 | 0,i,hs,hi,hl=>by
  refine⟨hs,qaa trA ?_,hl,fun _ h=>h,fun x hx=>?_,fun j h=>.inl h⟩
  ·show o160_0.go _ _ _=_
   have g:¬(i:Int) < (known.length:Int):=by omega
   simp only[o160_0,TT,Nat.reduceEqDiff,↓reduceIte,encI_len,g]
  ·rw[List.drop_eq_nil_of_le (by omega)] at hx;cases hx
 | d+1,i,hs,hi,hl=>by
  have hlt:i < known.length:=by omega
  have g:(i:Int) < (known.length:Int):=by omega
  have g0:(0:Int)≤(i:Int):=by omega
  have w:wr ((i:Int)+1)=((i+1:Nat):Int):=by rw[qaj (by omega) (by omega)];omega
  have wl:wr ((hs.length:Int) - 1)=(hs.length:Int) - 1:=qaj (by omega) (by omega)
  rw[List.drop_eq_getElem_cons hlt]
  by_cases hin:0≤known[i]∧known[i] < (hs.length:Int)
  ·have b:inB known[i] 0 ((hs.length:Int) - 1)=true:=by simp[inB];omega
   obtain⟨hs',e,q1,q2,q3,q4⟩:=f_reach0 hk r1 r2 few d (i+1) (qdG hs known[i]) (by omega) (by rw[qcg];exact hl)
   have hset:=qdh hs known[i]
   refine⟨hs',qaa trA ?_,q1,fun j h=>q2 j (by rw[qbq,h];rfl),fun x hx h0 h1=>?_,fun j h=>?_⟩
   ·show o160_0.go _ _ _=_
    simp only[o160_0,TT,Nat.reduceEqDiff,↓reduceIte,encI_len,encBo_len,g,g0,Int.toNat_natCast,qam known i hlt,f_in,wl,b,hin.1,hin.2,hset,w,e]
   ·rcases List.mem_cons.1 hx with rfl | hx
    ·exact q2 _ (by rw[qbq];simp;omega)
    ·exact q3 x hx h0 h1
   ·rcases q4 j h with h | h
    ·rw[qbq,Bool.or_eq_true] at h
     rcases h with h | h
     ·exact .inl h
     ·simp at h
      refine .inr (List.mem_cons.2 (.inl ?_))
      rw[h.1];omega
    ·exact .inr (List.mem_cons_of_mem _ h)
  ·have b:inB known[i] 0 ((hs.length:Int) - 1)=false:=by simp[inB];omega
   obtain⟨hs',e,q1,q2,q3,q4⟩:=f_reach0 hk r1 r2 few d (i+1) hs (by omega) hl
   refine⟨hs',qaa trA ?_,q1,q2,fun x hx h0 h1=>?_,fun j h=>?_⟩
   ·show o160_0.go _ _ _=_
    simp only[o160_0,TT,Nat.reduceEqDiff,↓reduceIte,encI_len,encBo_len,g,g0,Int.toNat_natCast,qam known i hlt,f_in,wl,b,w,e]
   ·rcases List.mem_cons.1 hx with rfl | hx
    ·exact absurd ⟨h0,by omega⟩ hin
    ·exact q3 x hx h0 h1
   ·rcases q4 j h with h | h
    ·exact .inl h
    ·exact .inr (List.mem_cons_of_mem _ h)
theorem f_pubs0 {a:Ar} (few:a.length≤3000) (z:Rw):∀(d i:Nat),i+d=a.length→fin trA 2474 [I i] [qag a,z,qak (List.replicate i (-1))]=some (0,[],[qak (List.replicate a.length (-1))])
 | 0,i,hi=>by
  refine qaa trA ?_
  show o206_0.go _ _ _=_
  have g:¬(i:Int) < (a.length:Int):=by omega
  rw[show i=a.length by omega] at g ⊢
  simp only[o206_0,TT,Nat.reduceEqDiff,↓reduceIte,encA_len,g]
 | d+1,i,hi=>by
  have ih:=f_pubs0 few z d (i+1) (by omega)
  have g:(i:Int) < (a.length:Int):=by omega
  have w:wr ((i:Int)+1)=((i+1:Nat):Int):=by rw[qaj (by omega) (by omega)];omega
  have q:qak (List.replicate i (-1))++[[Value.int .i64 (-1)]]=qak (List.replicate (i+1) (-1)):=by simp[qak,List.replicate_succ']
  have g2:((List.replicate (i+1) (-1:Int)).length:Int)≤100000000:=by simp;omega
  refine qaa trA ?_
  show o206_0.go _ _ _=_
  simp only[o206_0,TT,Nat.reduceEqDiff,↓reduceIte,encA_len,g,q,encI_len,g2,w,ih]
structure PubI (a:Ar) (i:Nat) (ps:List Int):Prop where
 len:ps.length=a.length
 bd:∀x∈ps,x=-1∨∃j:Nat,x=j∧j < a.length
 is:∀x:Nat,x < a.length→qfb ps x=-1∨∃j:Nat,qfb ps x=j∧a[j]?=some ⟨6,0,x,0⟩
 all:∀(j:Nat) (x:Int),j < i→a[j]?=some ⟨6,0,x,0⟩→qfb ps x=j
theorem nd_pub {a:Ar} (ha:AOk a) {k:Nat} {n:Nd} (h:a[k]?=some n) (h6:n.k=6):n=⟨6,0,n.a,0⟩:=by
 have hr:=ha.right k n h
 obtain⟨nk,num,na,nb⟩:=n
 simp at h6
 subst h6
 unfold Nd.right at hr
 simp only[show inB 6 1 9=true from rfl,Bool.true_eq_false,if_false,show qbB 6=true from rfl,if_true,Int.reduceEq] at hr
 by_cases c3:num=0
 ·subst c3
  simp at hr
  rw[hr.2]
 ·rw[if_pos c3] at hr;cases hr
theorem f_pubs2 {a:Ar} (ha:AOk a) (z:Rw):∀(d i:Nat) (ps:List Int),i+d=a.length→PubI a i ps→∃ps',fin trA 2475 [I i] [qag a,z,qak ps]=some (0,[],[qak ps'])∧PubI a a.length ps'
 | 0,i,ps,hi,hp=>by
  refine⟨ps,qaa trA ?_,by rw[show i=a.length by omega] at hp;exact hp⟩
  show o206_2.go _ _ _=_
  have g:¬(i:Int) < (a.length:Int):=by omega
  simp only[o206_2,TT,Nat.reduceEqDiff,↓reduceIte,encA_len,g]
 | d+1,i,ps,hi,hp=>by
  have hlt:i < a.length:=by omega
  have few:=ha.few
  have hg:a[i]?=some a[i]:=List.getElem?_eq_getElem hlt
  have g:(i:Int) < (a.length:Int):=by omega
  have g0:(0:Int)≤(i:Int):=by omega
  have w:wr ((i:Int)+1)=((i+1:Nat):Int):=by rw[qaj (by omega) (by omega)];omega
  by_cases h6:a[i].k=6
  ·obtain⟨h3,h4⟩:0≤a[i].a∧a[i].a < i:=by
    rcases qbf ha hg with h | ⟨_,h⟩ | ⟨h,_⟩
    ·omega
    ·exact h
    ·omega
   have hn:=nd_pub ha hg h6
   have hlen:=hp.len
   have ga:a[i].a < (ps.length:Int):=by omega
   have hset:qbx (qak ps) a[i].a.toNat 0 [.int .i64 i]=qak (ps.modify a[i].a.toNat fun _=>(i:Int)):=by
    unfold qbx qak
    exact qbI (fun x:Int=>[I x]) _ _ (fun _=>rfl) ps a[i].a.toNat
   have hat:∀x:Int,0≤x→x < (a.length:Int)→qfb (ps.modify a[i].a.toNat fun _=>(i:Int)) x=if x=a[i].a then (i:Int) else qfb ps x:=fun x h0 h1=>by
    unfold qfb
    rw[List.getD_eq_getElem?_getD,List.getD_eq_getElem?_getD,List.getElem?_modify]
    by_cases hx:x=a[i].a
    ·rw[if_pos hx,hx,List.getElem?_eq_getElem (by omega)]
     simp
    ·have hne:¬a[i].a.toNat=x.toNat:=by omega
     rw[if_neg hx]
     simp[hne]
   have hp':PubI a (i+1) (ps.modify a[i].a.toNat fun _=>(i:Int)):=by
    refine⟨by rw[List.length_modify];exact hp.len,fun x hx=>?_,fun x hx=>?_,fun j x hj hjx=>?_⟩
    ·rcases qey hx with h | ⟨_,rfl⟩
     ·exact hp.bd x h
     ·exact .inr ⟨i,rfl,hlt⟩
    ·rw[hat x (by omega) (by omega)]
     split
     ·rename_i he
      refine .inr ⟨i,rfl,?_⟩
      rw[hg,hn,←he]
     ·exact hp.is x hx
    ·have hjl:j < a.length:=(List.getElem?_eq_some_iff.1 hjx).1
     obtain⟨h0,h1⟩:0≤x∧x < j:=by
      rcases qbf ha hjx with h | ⟨_,h⟩ | ⟨h,_⟩
      ·simp at h
      ·exact h
      ·simp at h
     rw[hat x h0 (by omega)]
     by_cases hx:x=a[i].a
     ·rw[if_pos hx]
      have:j=i:=ha.once j i _ hjx (by rw[hg,hn,hx])
      rw[this]
     ·rw[if_neg hx]
      refine hp.all j x ?_ hjx
      rcases Nat.lt_or_ge j i with h | h
      ·exact h
      ·have hji:j=i:=by omega
       subst hji
       rw[hg] at hjx
       cases hjx':a[j]
       rw[hjx'] at hjx hx
       simp at hjx hx
       exact absurd hjx.2.2.1.symm hx
   obtain⟨ps',e,h'⟩:=f_pubs2 ha z d (i+1) _ (by omega) hp'
   refine⟨ps',qaa trA ?_,h'⟩
   show o206_2.go _ _ _=_
   simp only[o206_2,TT,Nat.reduceEqDiff,↓reduceIte,encA_len,encI_len,g,g0,Int.toNat_natCast,qal a i hlt,Nd.enc,h6,h3,ga,hset,w,e]
  ·have hp':PubI a (i+1) ps:=⟨hp.len,hp.bd,hp.is,fun j x hj hjx=>by
    rcases Nat.lt_or_ge j i with h | h
    ·exact hp.all j x h hjx
    ·have hji:j=i:=by omega
     subst hji
     rw[hg] at hjx
     cases hjx':a[j]
     rw[hjx'] at hjx h6
     simp at hjx h6
     exact absurd hjx.1 h6⟩
   obtain⟨ps',e,h'⟩:=f_pubs2 ha z d (i+1) ps (by omega) hp'
   refine⟨ps',qaa trA ?_,h'⟩
   show o206_2.go _ _ _=_
   simp only[o206_2,TT,Nat.reduceEqDiff,↓reduceIte,encA_len,g,g0,Int.toNat_natCast,qal a i hlt,Nd.enc,h6,w,e]
theorem f_pubs {a:Ar} (ha:AOk a):∃ps,fin trA 2476 [] [qag a]=some (0,[],[qak ps])∧PubI a a.length ps:=by
 have few:=ha.few
 have e1:fin trA 2474 [I 0] [qag a,[],[]]=some (0,[],[qak (List.replicate a.length (-1))]):=f_pubs0 few [] a.length 0 (by omega)
 have h0:PubI a 0 (List.replicate a.length (-1)):=by
  refine⟨by simp,fun x hx=>.inl (List.eq_of_mem_replicate hx),fun x hx=>.inl ?_,fun j x hj=>by omega⟩
  unfold qfb
  simp[List.getD_eq_getElem?_getD,List.getElem?_replicate,hx]
 obtain⟨ps,e2,h⟩:=f_pubs2 ha [] a.length 0 _ (by omega) h0
 rw[show((0:Nat):Int)=0 from rfl] at e2
 refine⟨ps,qaa trA ?_,h⟩
 show o206.go _ _ _=_
 simp only[o206,TT,Nat.reduceEqDiff,↓reduceIte,e1,e2]
structure Had (a:Ar) (known:List Int) (ps:List Int) (hs:List Bool):Prop where
 pubs:PubI a a.length ps
 len:hs.length=a.length
 kept:∀x∈known,0≤x→x < (a.length:Int)→hs.getD x.toNat false=true
 full:Full a ps hs
 least:∀P:Nat→Prop,Closed a ps P→(∀j:Nat,(j:Int)∈known→P j)→∀j,hs.getD j false=true→P j
theorem f_l05 {a:Ar} (ha:AOk a) {known:List Int} (hk:known.length≤100000):∃ps hs,fin trA 1926 [] [qag a,qak known]=some (0,[],[qaQ hs])∧Had a known ps hs:=by
 have few:=ha.few
 obtain⟨ps,e2,hps⟩:=f_pubs ha
 obtain⟨h0,e1,l0,m0,k0,s0⟩:=f_reach0 (a:=a) hk (qag a) [] few known.length 0 (List.replicate a.length false) (by omega) (by simp)
 rw[show((0:Nat):Int)=0 from rfl,List.drop_zero] at *
 have hpb:∀x∈ps,x < (a.length:Int):=fun x hx=>by
  rcases hps.bd x hx with h | ⟨j,h,hj⟩
  ·omega
  ·omega
 obtain⟨hs,e3,g3,f3⟩:=f_reach2 ha hps.len hpb [] (qcO h0) h0 (Nat.le_refl _) l0
 refine⟨ps,hs,qaa trA ?_,hps,by rw[g3.len];exact l0,fun x hx h0 h1=>g3.mono _ (k0 x hx h0 h1),f3,fun P c hP=>g3.least P c fun j hj=>?_⟩
 ·show o160.go _ _ _=_
  have g0:(0:Int)≤(a.length:Int):=by omega
  have g1:(a.length:Int)≤100000000:=by omega
  have hrep:List.replicate a.length [Value.bool false]=qaQ (List.replicate a.length false):=by simp[qaQ]
  simp only[o160,TT,Nat.reduceEqDiff,↓reduceIte,encA_len,g0,g1,Int.toNat_natCast,hrep,e1,e2,e3]
 ·rcases s0 j hj with h | h
  ·simp[List.getD_eq_getElem?_getD,List.getElem?_replicate] at h
   split at h<;>simp at h
  ·exact hP j h
theorem f_derives {a:Ar} (ha:AOk a) {known:List Int} (hk:known.length≤100000) (k:Int):∃ps hs,Had a known ps hs∧fin trA 2438 [I k] [qag a,qak known]=some (0,[B (decide (0≤k∧k < (a.length:Int)∧hs.getD k.toNat false=true))],[]):=by
 obtain⟨ps,hs,e1,h⟩:=f_l05 ha hk
 have few:=ha.few
 have e0:=qeC ha
 have e2:fin trA 1178 [] [qag a,qak known]=some (0,[],[qaQ hs]):=by
  refine qaa trA ?_
  show o98.go _ _ _=_
  simp only[o98,TT,Nat.reduceEqDiff,↓reduceIte,e0,e1]
 have w:wr ((a.length:Int) - 1)=(a.length:Int) - 1:=qaj (by omega) (by omega)
 refine⟨ps,hs,h,qaa trA ?_⟩
 show o203.go _ _ _=_
 by_cases hin:0≤k∧k < (a.length:Int)
 ·have b:inB k 0 ((a.length:Int) - 1)=true:=by simp[inB];omega
  have q:=qaO hs hin.1 (by rw[h.len];exact hin.2)
  simp only[o203,TT,Nat.reduceEqDiff,↓reduceIte,e2,encBo_len,h.len,w,f_in,b,hin.1,hin.2,q,true_and]
  unfold hasAt
  cases hs.getD k.toNat false<;>rfl
 ·have b:inB k 0 ((a.length:Int) - 1)=false:=by simp[inB];omega
  rw[decide_eq_false (fun q=>hin ⟨q.1,q.2.1⟩)]
  simp only[o203,TT,Nat.reduceEqDiff,↓reduceIte,e2,encBo_len,h.len,w,f_in,b]
inductive ForgeR (w:Wd) (at_ num:Int):List Nat→Ar→List Mail_→List Int→Prop where
 | no {t:List Nat}:ForgeR w at_ num t w.a w.net w.known
 | yes {T:Tm'} {a':Ar} {k to:Int} {ps:List Int} {hs:List Bool} (x:Ext w.a a' 65) (d:Den a' k T) (h:Had a' w.known ps hs) (hk:hs.getD k.toNat false=true) (ht:to=99∨to∈w.ad):ForgeR w at_ num (qbK T) a' (qby w.net ⟨num.tmod 10,to,k⟩) (w.known++[k])
theorem f_forge {w:Wd} (ha:AOk w.a) (hj:w.ad.length=2) (kind at_ num:Int) (h0:0≤at_) {t:List Nat} (ht:t=[]∨∃T m,t=qbK T∧T.ok∧qbC T≤2000∧Cost w.a T m∧m≤65∧w.a.length+m≤3000) (b1:w.net.length≤1000) (b2:w.known.length≤10000) :
  ∃a' net' known' code,fin trA 1826 (w.vs++[I kind,I at_,I num,.string (qbS t)]) w.rs=some (0,[I code],[qag a',qbs net',qak known'])∧ForgeR w at_ num t a' net' known':=by
 rcases ht with rfl | ⟨T,m,rfl,hT,hs,hc,hm,hl⟩
 ·have e1:=f_readTerm_no ha
  refine⟨_,_,_,1,qaa trA ?_,.no⟩
  show o152.go _ _ _=_
  simp only[Wd.vs,Wd.rs,o152,qaG,qaE,same_self,TT,Nat.reduceEqDiff,↓reduceIte,e1]
 ·obtain⟨a',k,e1,x,d⟩:=f_readTerm hT hs ha hc hl
  obtain⟨ps,hs',hh,e2⟩:=f_derives x.ok (known:=w.known) (by omega) k
  by_cases hb:0≤k∧k < (a'.length:Int)∧hs'.getD k.toNat false=true
  ·rw[decide_eq_true hb] at e2
   by_cases hat:at_ < 2
   ·obtain⟨i,rfl⟩:∃i:Nat,at_=i:=⟨at_.toNat,by omega⟩
    have hi:i < w.ad.length:=by omega
    have g2:(i:Int) < (w.ad.length:Int):=by omega
    have e3:=qfs b1 b2 w.g.name w.g.next w.g.drops w.now w.draw (num.tmod 10) w.ad[i] k d.nonneg (qag a') (qbE w.cs) (qak w.ad) (qax w.g.l) (qaI w.g.p) (qaR w.g.w) (qbb w.g.o) (qak w.taken) (qas w.begun) (qas w.dn) (qas w.sent) (qas w.got) (qak w.codes)
    refine⟨_,_,_,0,qaa trA ?_,.yes (x.le hm) d hh hb.2.2 (.inr (List.getElem_mem hi))⟩
    show o152.go _ _ _=_
    simp only[Wd.vs,Wd.rs,o152,qaG,qaE,same_self,TT,Nat.reduceEqDiff,↓reduceIte,e1,e2,hat,h0,encI_len,g2,Int.toNat_natCast,qam w.ad i hi,e3]
   ·have e3:=qfs b1 b2 w.g.name w.g.next w.g.drops w.now w.draw (num.tmod 10) 99 k d.nonneg (qag a') (qbE w.cs) (qak w.ad) (qax w.g.l) (qaI w.g.p) (qaR w.g.w) (qbb w.g.o) (qak w.taken) (qas w.begun) (qas w.dn) (qas w.sent) (qas w.got) (qak w.codes)
    refine⟨_,_,_,0,qaa trA ?_,.yes (x.le hm) d hh hb.2.2 (.inl rfl)⟩
    show o152.go _ _ _=_
    simp only[Wd.vs,Wd.rs,o152,qaG,qaE,same_self,TT,Nat.reduceEqDiff,↓reduceIte,e1,e2,hat,e3]
  ·rw[decide_eq_false hb] at e2
   refine⟨_,_,_,1,qaa trA ?_,.no⟩
   show o152.go _ _ _=_
   simp only[Wd.vs,Wd.rs,o152,qaG,qaE,same_self,TT,Nat.reduceEqDiff,↓reduceIte,e1,e2]
theorem do_forge {n:Nat} {w:Wd} (h:WdI n w) (hn:n≤43) (hd:10000≤w.draw∧w.draw≤800000) (at_ num:Int) (h0:0≤at_) (h1:0≤num) {t:List Nat} (ht:t=[]∨∃T m,t=qbK T∧T.ok∧qbC T≤2000∧Cost w.a T m∧m≤65):Done w 9 at_ num (.string (qbS t)):=by
 have wd:wr (w.draw+10)=w.draw+10:=qaj (by omega) (by omega)
 have:=h.few;have:=h.netl;have:=h.knl
 obtain⟨a',net',known',code,e1,hR⟩:=f_forge (w:={ w with draw:=w.draw+10 }) h.ok h.adl 9 at_ num h0 (t:=t) (by
  rcases ht with ht | ⟨T,m,q1,q2,q3,q4,q5⟩
  ·exact .inl ht
  ·exact .inr ⟨T,m,q1,q2,q3,q4,q5,by show w.a.length+m≤3000;omega⟩) (by show w.net.length≤_;omega) (by show w.known.length≤_;omega)
 have hst:StR { w with draw:=w.draw+10 } { w with draw:=w.draw+10,a:=a',net:=net',known:=known' }:=by
  cases hR with
  | no=>exact .no
  | @yes T _ k to ps hs x d hh hk hto =>
   have nk:¬k < 0:=by have:=d.nonneg;omega
   have r1:=Int.tmod_nonneg (a:=num) 10 h1
   have r2:=Int.tmod_lt_of_pos num (show(0:Int) < 10 by omega)
   have:=StR.forge (w:={ w with draw:=w.draw+10 }) (src:=num.tmod 10) (to:=to) x d ⟨r1,by omega⟩ hto
   unfold Wd.say at this
   rw[if_neg nk] at this
   exact this
 refine⟨{ w with draw:=w.draw+10,a:=a',net:=net',known:=known' },code,qaa trA ?_,hst,rfl⟩
 simp only[Wd.vs,Wd.rs,List.cons_append,List.nil_append] at e1
 show o89.go _ _ _=_
 simp only[Wd.vs,Wd.rs,Wd.o14,o89,TT,Nat.reduceEqDiff,↓reduceIte,Int.reduceEq,wd,e1]
def TextOk (a:Ar) (t:List Nat):Prop:=t=[]∨∃T m,t=qbK T∧T.ok∧qbC T≤2000∧Cost a T m∧m≤65
theorem qcz {a:Ar} {T:Tm'} {m:Nat} (hT:T.ok) (hc:Cost a T m) (hm:m≤65):TextOk a (txt T):=by
 unfold txt
 split
 ·rename_i h;exact .inr ⟨T,m,rfl,hT,h,hc,hm⟩
 ·exact .inl rfl
theorem qaJ:Value.string (qbS [])=.string ⟨⟨[]⟩⟩:=rfl
theorem qaV (a:Ar) (n:Int):Cost a (.atom n) 1:=.atom n
theorem qdL (a:Ar) (m n x p:Int):Cost a (qdt m n (.atom x) (.pub (.atom p))) 12:=by
 have:=Cost.bin (c:=2) (qaV a 61) (.bin (c:=2) (qaV a m) (.bin (c:=2) (qaV a n) (.bin (c:=2) (qaV a x) (.bin (c:=2) (.un (c:=6) (qaV a p)) (qaV a 0)))))
 exact this
theorem cost_server (a:Ar) (x p:Int):Cost a (qgq (.atom x) (.pub (.atom p))) 8:=by
 have:=Cost.bin (c:=2) (qaV a 62) (.bin (c:=2) (qaV a x) (.bin (c:=2) (.un (c:=6) (qaV a p)) (qaV a 0)))
 exact this
theorem qca {a:Ar} (n:Int) {t u:Tm'} {m k:Nat} (h:Cost a t m) (h':Cost a u k):Cost a (qav n [t,u]) (1+(m+(k+1+1)+1)+1):=Cost.bin (c:=2) (qaV a n) (.bin (c:=2) h (.bin (c:=2) h' (qaV a 0)))
theorem qaH {b:Rw} (hb:Bys b) (i:Nat) (h:Int) {n:Int} (hn:0 < n):∃(i':Nat) (h' x:Int),fin trA 494 [I i,I h,I n] [b]=some (0,[I i',I h',I x],[])∧0≤x∧x < n:=by
 obtain⟨i',h',x,e,h0,h1,_⟩:=f_below hb i h n
 exact⟨i',h',x,e,h0,h1 hn⟩
theorem f_forged {b:Rw} (hb:Bys b) {n:Nat} {w:Wd} (h:WdI n w) (hn:n≤43) (hk:1≤w.known.length) (i:Nat) (h0:Int) :
  ∃(i':Nat) (h':Int) (t:List Nat),fin trA 1982 ([I i,I h0]++w.vs) (b :: w.rs)=some (0,[I i',I h',.string (qbS t)],[])∧TextOk w.a t∧t.length≤4000:=by
 have few:=h.few
 have ha:=h.ok
 have e0:=f_copy w.a ha.le
 obtain⟨i1,h1,x1,f1,r1,r1'⟩:=qaH hb i h0 (n:=(w.known.length:Int)) (by omega)
 obtain⟨k,rfl⟩:∃k:Nat,x1=k:=⟨x1.toNat,by omega⟩
 have hkl:k < w.known.length:=by omega
 obtain⟨T,dT⟩:=h.kn _ (List.getElem_mem hkl)
 obtain⟨i2,h2,c,f2,r2,r2'⟩:=qaH hb i1 h1 (n:=5) (by omega)
 have v0:wr (1+0)=1:=by rw[qaj (by omega) (by omega)];rfl
 have v1:wr (1+1)=2:=by rw[qaj (by omega) (by omega)];rfl
 have et:=qbp ha dT
 rcases qbG ha dT with ⟨hT,e1⟩ | ⟨n',u,x,y,hn',hT,e1,d1'⟩ | ⟨n',u,v,x,y,z,hn',hT,e1,d1',d2'⟩
 ·by_cases c0:c=0
  ·obtain⟨a1,k1,g1,y1,d1⟩:=qat (n:=5001) ha (by omega) (by omega) (by omega)
   have l1:=y1.len
   obtain⟨a2,k2,g2,y2,d2⟩:=qat (n:=5000) y1.ok (by omega) (by omega) (by omega)
   have l2:=y2.len
   obtain⟨a3,k3,g3,y3,d3⟩:=qbM (c:=6) (y:=0) y2.ok (by omega) d2 (by omega) (by omega)
   have l3:=y3.len
   obtain⟨i3,h3,m3,f3,r3,r3'⟩:=qaH hb i2 h2 (n:=2) (by omega)
   obtain⟨i4,h4,m4,f4,r4,r4'⟩:=qaH hb i3 h3 (n:=3) (by omega)
   have w3:wr (1+m3)=1+m3:=qaj (by omega) (by omega)
   have w4:wr (1+m4)=1+m4:=qaj (by omega) (by omega)
   obtain⟨a4,k4,g4,y4,d4⟩:=qgt (m:=1+m3) (n:=1+m4) y3.ok (d1.mono (y2.pre.trans y3.pre)) d3 (by omega) (by omega) (by omega) (by omega) (by omega)
   have l4:=y4.len
   obtain⟨a5,k5,g5,y5,d5⟩:=qat (n:=0) y4.ok (by omega) (by omega) (by omega)
   have l5:=y5.len
   obtain⟨a6,k6,g6,y6,d6⟩:=qbt (n:=71) y5.ok (d4.mono y5.pre) d5 (by omega) (by omega) (by omega)
   have et6:=qbp y6.ok d6
   by_cases hgt:(4000:Int) < ((txt (qav 71 [qdt (1+m3) (1+m4) (.atom 5001) (.pub (.atom 5000)),.atom 0])).length:Int)
   ·refine⟨i4,h4,[],qaa trA ?_,.inl rfl,Nat.zero_le _⟩
    rw[qaJ]
    show o165.go _ _ _=_
    simp only[Wd.vs,Wd.rs,o165,qac,TT,Nat.reduceEqDiff,↓reduceIte,TN,Nat.reduceAdd,Int.reduceLT,Int.reduceLE,Int.reduceToNat,Int.reduceToNat,e0,f1,f2,encI_len,r1,r1',Int.toNat_natCast,qam w.known k hkl,e1,v0,v1,Int.reduceEq,sizeV_str,qao,gt_iff_lt,c0,g1,g2,g3,f3,f4,w3,w4,g4,g5,g6,et6,hgt]
   ·refine⟨i4,h4,txt (qav 71 [qdt (1+m3) (1+m4) (.atom 5001) (.pub (.atom 5000)),.atom 0]),qaa trA ?_,qcz (d6.ok y6.ok) (qca 71 (qdL w.a (1+m3) (1+m4) 5001 5000) (qaV w.a 0)) (by omega),by omega⟩
    show o165.go _ _ _=_
    simp only[Wd.vs,Wd.rs,o165,qac,TT,Nat.reduceEqDiff,↓reduceIte,TN,Nat.reduceAdd,Int.reduceLT,Int.reduceLE,Int.reduceToNat,Int.reduceToNat,e0,f1,f2,encI_len,r1,r1',Int.toNat_natCast,qam w.known k hkl,e1,v0,v1,Int.reduceEq,sizeV_str,qao,gt_iff_lt,c0,g1,g2,g3,f3,f4,w3,w4,g4,g5,g6,et6,hgt]
  by_cases c1:c=1
  ·by_cases hgt:(4000:Int) < ((txt T).length:Int)
   ·refine⟨i2,h2,[],qaa trA ?_,.inl rfl,Nat.zero_le _⟩
    rw[qaJ]
    show o165.go _ _ _=_
    simp only[Wd.vs,Wd.rs,o165,qac,TT,Nat.reduceEqDiff,↓reduceIte,TN,Nat.reduceAdd,Int.reduceLT,Int.reduceLE,Int.reduceToNat,Int.reduceToNat,e0,f1,f2,encI_len,r1,r1',Int.toNat_natCast,qam w.known k hkl,e1,v0,v1,Int.reduceEq,sizeV_str,qao,gt_iff_lt,c0,c1,et,hgt]
   ·refine⟨i2,h2,txt T,qaa trA ?_,qcz (dT.ok ha) (.known dT) (by omega),by omega⟩
    show o165.go _ _ _=_
    simp only[Wd.vs,Wd.rs,o165,qac,TT,Nat.reduceEqDiff,↓reduceIte,TN,Nat.reduceAdd,Int.reduceLT,Int.reduceLE,Int.reduceToNat,Int.reduceToNat,e0,f1,f2,encI_len,r1,r1',Int.toNat_natCast,qam w.known k hkl,e1,v0,v1,Int.reduceEq,sizeV_str,qao,gt_iff_lt,c0,c1,et,hgt]
  by_cases c2:c=2
  ·by_cases hgt:(4000:Int) < ((txt T).length:Int)
   ·refine⟨i2,h2,[],qaa trA ?_,.inl rfl,Nat.zero_le _⟩
    rw[qaJ]
    show o165.go _ _ _=_
    simp only[Wd.vs,Wd.rs,o165,qac,TT,Nat.reduceEqDiff,↓reduceIte,TN,Nat.reduceAdd,Int.reduceLT,Int.reduceLE,Int.reduceToNat,Int.reduceToNat,e0,f1,f2,encI_len,r1,r1',Int.toNat_natCast,qam w.known k hkl,e1,v0,v1,Int.reduceEq,sizeV_str,qao,gt_iff_lt,c0,c1,c2,et,hgt]
   ·refine⟨i2,h2,txt T,qaa trA ?_,qcz (dT.ok ha) (.known dT) (by omega),by omega⟩
    show o165.go _ _ _=_
    simp only[Wd.vs,Wd.rs,o165,qac,TT,Nat.reduceEqDiff,↓reduceIte,TN,Nat.reduceAdd,Int.reduceLT,Int.reduceLE,Int.reduceToNat,Int.reduceToNat,e0,f1,f2,encI_len,r1,r1',Int.toNat_natCast,qam w.known k hkl,e1,v0,v1,Int.reduceEq,sizeV_str,qao,gt_iff_lt,c0,c1,c2,et,hgt]
  by_cases hgt:(4000:Int) < ((txt T).length:Int)
  ·refine⟨i2,h2,[],qaa trA ?_,.inl rfl,Nat.zero_le _⟩
   rw[qaJ]
   show o165.go _ _ _=_
   simp only[Wd.vs,Wd.rs,o165,qac,TT,Nat.reduceEqDiff,↓reduceIte,TN,Nat.reduceAdd,Int.reduceLT,Int.reduceLE,Int.reduceToNat,Int.reduceToNat,e0,f1,f2,encI_len,r1,r1',Int.toNat_natCast,qam w.known k hkl,e1,v0,v1,Int.reduceEq,sizeV_str,qao,gt_iff_lt,c0,c1,c2,et,hgt]
  ·refine⟨i2,h2,txt T,qaa trA ?_,qcz (dT.ok ha) (.known dT) (by omega),by omega⟩
   show o165.go _ _ _=_
   simp only[Wd.vs,Wd.rs,o165,qac,TT,Nat.reduceEqDiff,↓reduceIte,TN,Nat.reduceAdd,Int.reduceLT,Int.reduceLE,Int.reduceToNat,Int.reduceToNat,e0,f1,f2,encI_len,r1,r1',Int.toNat_natCast,qam w.known k hkl,e1,v0,v1,Int.reduceEq,sizeV_str,qao,gt_iff_lt,c0,c1,c2,et,hgt]
 ·by_cases c0:c=0
  ·by_cases n72:n'=72
   ·obtain⟨a1,k1,g1,y1,d1⟩:=qat (n:=5001) ha (by omega) (by omega) (by omega)
    have l1:=y1.len
    obtain⟨a2,k2,g2,y2,d2⟩:=qat (n:=5000) y1.ok (by omega) (by omega) (by omega)
    have l2:=y2.len
    obtain⟨a3,k3,g3,y3,d3⟩:=qbM (c:=6) (y:=0) y2.ok (by omega) d2 (by omega) (by omega)
    have l3:=y3.len
    obtain⟨i3,h3,m3,f3,r3,r3'⟩:=qaH hb i2 h2 (n:=2) (by omega)
    obtain⟨i4,h4,m4,f4,r4,r4'⟩:=qaH hb i3 h3 (n:=3) (by omega)
    have w3:wr (1+m3)=1+m3:=qaj (by omega) (by omega)
    have w4:wr (1+m4)=1+m4:=qaj (by omega) (by omega)
    obtain⟨a4,k4,g4,y4,d4⟩:=qgt (m:=1+m3) (n:=1+m4) y3.ok (d1.mono (y2.pre.trans y3.pre)) d3 (by omega) (by omega) (by omega) (by omega) (by omega)
    have l4:=y4.len
    obtain⟨a5,k5,g5,y5,d5⟩:=qat (n:=0) y4.ok (by omega) (by omega) (by omega)
    have l5:=y5.len
    obtain⟨a6,k6,g6,y6,d6⟩:=qbt (n:=71) y5.ok (d4.mono y5.pre) (d1'.mono (y1.pre.trans (y2.pre.trans (y3.pre.trans (y4.pre.trans y5.pre))))) (by omega) (by omega) (by omega)
    have et6:=qbp y6.ok d6
    by_cases hgt:(4000:Int) < ((txt (qav 71 [qdt (1+m3) (1+m4) (.atom 5001) (.pub (.atom 5000)),u])).length:Int)
    ·refine⟨i4,h4,[],qaa trA ?_,.inl rfl,Nat.zero_le _⟩
     rw[qaJ]
     show o165.go _ _ _=_
     simp only[Wd.vs,Wd.rs,o165,qac,TT,Nat.reduceEqDiff,↓reduceIte,TN,Nat.reduceAdd,Int.reduceLT,Int.reduceLE,Int.reduceToNat,Int.reduceToNat,e0,f1,f2,encI_len,r1,r1',Int.toNat_natCast,qam w.known k hkl,e1,v0,v1,Int.reduceEq,sizeV_str,qao,gt_iff_lt,c0,n72,g1,g2,g3,f3,f4,w3,w4,g4,g5,g6,et6,hgt]
    ·refine⟨i4,h4,txt (qav 71 [qdt (1+m3) (1+m4) (.atom 5001) (.pub (.atom 5000)),u]),qaa trA ?_,qcz (d6.ok y6.ok) (qca 71 (qdL w.a (1+m3) (1+m4) 5001 5000) (.known d1')) (by omega),by omega⟩
     show o165.go _ _ _=_
     simp only[Wd.vs,Wd.rs,o165,qac,TT,Nat.reduceEqDiff,↓reduceIte,TN,Nat.reduceAdd,Int.reduceLT,Int.reduceLE,Int.reduceToNat,Int.reduceToNat,e0,f1,f2,encI_len,r1,r1',Int.toNat_natCast,qam w.known k hkl,e1,v0,v1,Int.reduceEq,sizeV_str,qao,gt_iff_lt,c0,n72,g1,g2,g3,f3,f4,w3,w4,g4,g5,g6,et6,hgt]
   ·obtain⟨a1,k1,g1,y1,d1⟩:=qat (n:=5001) ha (by omega) (by omega) (by omega)
    have l1:=y1.len
    obtain⟨a2,k2,g2,y2,d2⟩:=qat (n:=5000) y1.ok (by omega) (by omega) (by omega)
    have l2:=y2.len
    obtain⟨a3,k3,g3,y3,d3⟩:=qbM (c:=6) (y:=0) y2.ok (by omega) d2 (by omega) (by omega)
    have l3:=y3.len
    obtain⟨i3,h3,m3,f3,r3,r3'⟩:=qaH hb i2 h2 (n:=2) (by omega)
    obtain⟨i4,h4,m4,f4,r4,r4'⟩:=qaH hb i3 h3 (n:=3) (by omega)
    have w3:wr (1+m3)=1+m3:=qaj (by omega) (by omega)
    have w4:wr (1+m4)=1+m4:=qaj (by omega) (by omega)
    obtain⟨a4,k4,g4,y4,d4⟩:=qgt (m:=1+m3) (n:=1+m4) y3.ok (d1.mono (y2.pre.trans y3.pre)) d3 (by omega) (by omega) (by omega) (by omega) (by omega)
    have l4:=y4.len
    obtain⟨a5,k5,g5,y5,d5⟩:=qat (n:=0) y4.ok (by omega) (by omega) (by omega)
    have l5:=y5.len
    obtain⟨a6,k6,g6,y6,d6⟩:=qbt (n:=71) y5.ok (d4.mono y5.pre) d5 (by omega) (by omega) (by omega)
    have et6:=qbp y6.ok d6
    by_cases hgt:(4000:Int) < ((txt (qav 71 [qdt (1+m3) (1+m4) (.atom 5001) (.pub (.atom 5000)),.atom 0])).length:Int)
    ·refine⟨i4,h4,[],qaa trA ?_,.inl rfl,Nat.zero_le _⟩
     rw[qaJ]
     show o165.go _ _ _=_
     simp only[Wd.vs,Wd.rs,o165,qac,TT,Nat.reduceEqDiff,↓reduceIte,TN,Nat.reduceAdd,Int.reduceLT,Int.reduceLE,Int.reduceToNat,Int.reduceToNat,e0,f1,f2,encI_len,r1,r1',Int.toNat_natCast,qam w.known k hkl,e1,v0,v1,Int.reduceEq,sizeV_str,qao,gt_iff_lt,c0,n72,g1,g2,g3,f3,f4,w3,w4,g4,g5,g6,et6,hgt]
    ·refine⟨i4,h4,txt (qav 71 [qdt (1+m3) (1+m4) (.atom 5001) (.pub (.atom 5000)),.atom 0]),qaa trA ?_,qcz (d6.ok y6.ok) (qca 71 (qdL w.a (1+m3) (1+m4) 5001 5000) (qaV w.a 0)) (by omega),by omega⟩
     show o165.go _ _ _=_
     simp only[Wd.vs,Wd.rs,o165,qac,TT,Nat.reduceEqDiff,↓reduceIte,TN,Nat.reduceAdd,Int.reduceLT,Int.reduceLE,Int.reduceToNat,Int.reduceToNat,e0,f1,f2,encI_len,r1,r1',Int.toNat_natCast,qam w.known k hkl,e1,v0,v1,Int.reduceEq,sizeV_str,qao,gt_iff_lt,c0,n72,g1,g2,g3,f3,f4,w3,w4,g4,g5,g6,et6,hgt]
  have n73:¬n'=73:=by omega
  have n76:¬n'=76:=by omega
  by_cases c1:c=1
  ·by_cases hgt:(4000:Int) < ((txt T).length:Int)
   ·refine⟨i2,h2,[],qaa trA ?_,.inl rfl,Nat.zero_le _⟩
    rw[qaJ]
    show o165.go _ _ _=_
    simp only[Wd.vs,Wd.rs,o165,qac,TT,Nat.reduceEqDiff,↓reduceIte,TN,Nat.reduceAdd,Int.reduceLT,Int.reduceLE,Int.reduceToNat,Int.reduceToNat,e0,f1,f2,encI_len,r1,r1',Int.toNat_natCast,qam w.known k hkl,e1,v0,v1,Int.reduceEq,sizeV_str,qao,gt_iff_lt,c0,c1,n73,et,hgt]
   ·refine⟨i2,h2,txt T,qaa trA ?_,qcz (dT.ok ha) (.known dT) (by omega),by omega⟩
    show o165.go _ _ _=_
    simp only[Wd.vs,Wd.rs,o165,qac,TT,Nat.reduceEqDiff,↓reduceIte,TN,Nat.reduceAdd,Int.reduceLT,Int.reduceLE,Int.reduceToNat,Int.reduceToNat,e0,f1,f2,encI_len,r1,r1',Int.toNat_natCast,qam w.known k hkl,e1,v0,v1,Int.reduceEq,sizeV_str,qao,gt_iff_lt,c0,c1,n73,et,hgt]
  by_cases c2:c=2
  ·by_cases hgt:(4000:Int) < ((txt T).length:Int)
   ·refine⟨i2,h2,[],qaa trA ?_,.inl rfl,Nat.zero_le _⟩
    rw[qaJ]
    show o165.go _ _ _=_
    simp only[Wd.vs,Wd.rs,o165,qac,TT,Nat.reduceEqDiff,↓reduceIte,TN,Nat.reduceAdd,Int.reduceLT,Int.reduceLE,Int.reduceToNat,Int.reduceToNat,e0,f1,f2,encI_len,r1,r1',Int.toNat_natCast,qam w.known k hkl,e1,v0,v1,Int.reduceEq,sizeV_str,qao,gt_iff_lt,c0,c1,c2,n76,et,hgt]
   ·refine⟨i2,h2,txt T,qaa trA ?_,qcz (dT.ok ha) (.known dT) (by omega),by omega⟩
    show o165.go _ _ _=_
    simp only[Wd.vs,Wd.rs,o165,qac,TT,Nat.reduceEqDiff,↓reduceIte,TN,Nat.reduceAdd,Int.reduceLT,Int.reduceLE,Int.reduceToNat,Int.reduceToNat,e0,f1,f2,encI_len,r1,r1',Int.toNat_natCast,qam w.known k hkl,e1,v0,v1,Int.reduceEq,sizeV_str,qao,gt_iff_lt,c0,c1,c2,n76,et,hgt]
  by_cases hgt:(4000:Int) < ((txt T).length:Int)
  ·refine⟨i2,h2,[],qaa trA ?_,.inl rfl,Nat.zero_le _⟩
   rw[qaJ]
   show o165.go _ _ _=_
   simp only[Wd.vs,Wd.rs,o165,qac,TT,Nat.reduceEqDiff,↓reduceIte,TN,Nat.reduceAdd,Int.reduceLT,Int.reduceLE,Int.reduceToNat,Int.reduceToNat,e0,f1,f2,encI_len,r1,r1',Int.toNat_natCast,qam w.known k hkl,e1,v0,v1,Int.reduceEq,sizeV_str,qao,gt_iff_lt,c0,c1,c2,et,hgt]
  ·refine⟨i2,h2,txt T,qaa trA ?_,qcz (dT.ok ha) (.known dT) (by omega),by omega⟩
   show o165.go _ _ _=_
   simp only[Wd.vs,Wd.rs,o165,qac,TT,Nat.reduceEqDiff,↓reduceIte,TN,Nat.reduceAdd,Int.reduceLT,Int.reduceLE,Int.reduceToNat,Int.reduceToNat,e0,f1,f2,encI_len,r1,r1',Int.toNat_natCast,qam w.known k hkl,e1,v0,v1,Int.reduceEq,sizeV_str,qao,gt_iff_lt,c0,c1,c2,et,hgt]
 ·have n72:¬n'=72:=by omega
  by_cases c0:c=0
  ·obtain⟨a1,k1,g1,y1,d1⟩:=qat (n:=5001) ha (by omega) (by omega) (by omega)
   have l1:=y1.len
   obtain⟨a2,k2,g2,y2,d2⟩:=qat (n:=5000) y1.ok (by omega) (by omega) (by omega)
   have l2:=y2.len
   obtain⟨a3,k3,g3,y3,d3⟩:=qbM (c:=6) (y:=0) y2.ok (by omega) d2 (by omega) (by omega)
   have l3:=y3.len
   obtain⟨i3,h3,m3,f3,r3,r3'⟩:=qaH hb i2 h2 (n:=2) (by omega)
   obtain⟨i4,h4,m4,f4,r4,r4'⟩:=qaH hb i3 h3 (n:=3) (by omega)
   have w3:wr (1+m3)=1+m3:=qaj (by omega) (by omega)
   have w4:wr (1+m4)=1+m4:=qaj (by omega) (by omega)
   obtain⟨a4,k4,g4,y4,d4⟩:=qgt (m:=1+m3) (n:=1+m4) y3.ok (d1.mono (y2.pre.trans y3.pre)) d3 (by omega) (by omega) (by omega) (by omega) (by omega)
   have l4:=y4.len
   obtain⟨a5,k5,g5,y5,d5⟩:=qat (n:=0) y4.ok (by omega) (by omega) (by omega)
   have l5:=y5.len
   obtain⟨a6,k6,g6,y6,d6⟩:=qbt (n:=71) y5.ok (d4.mono y5.pre) d5 (by omega) (by omega) (by omega)
   have et6:=qbp y6.ok d6
   by_cases hgt:(4000:Int) < ((txt (qav 71 [qdt (1+m3) (1+m4) (.atom 5001) (.pub (.atom 5000)),.atom 0])).length:Int)
   ·refine⟨i4,h4,[],qaa trA ?_,.inl rfl,Nat.zero_le _⟩
    rw[qaJ]
    show o165.go _ _ _=_
    simp only[Wd.vs,Wd.rs,o165,qac,TT,Nat.reduceEqDiff,↓reduceIte,TN,Nat.reduceAdd,Int.reduceLT,Int.reduceLE,Int.reduceToNat,Int.reduceToNat,e0,f1,f2,encI_len,r1,r1',Int.toNat_natCast,qam w.known k hkl,e1,v0,v1,Int.reduceEq,sizeV_str,qao,gt_iff_lt,c0,n72,g1,g2,g3,f3,f4,w3,w4,g4,g5,g6,et6,hgt]
   ·refine⟨i4,h4,txt (qav 71 [qdt (1+m3) (1+m4) (.atom 5001) (.pub (.atom 5000)),.atom 0]),qaa trA ?_,qcz (d6.ok y6.ok) (qca 71 (qdL w.a (1+m3) (1+m4) 5001 5000) (qaV w.a 0)) (by omega),by omega⟩
    show o165.go _ _ _=_
    simp only[Wd.vs,Wd.rs,o165,qac,TT,Nat.reduceEqDiff,↓reduceIte,TN,Nat.reduceAdd,Int.reduceLT,Int.reduceLE,Int.reduceToNat,Int.reduceToNat,e0,f1,f2,encI_len,r1,r1',Int.toNat_natCast,qam w.known k hkl,e1,v0,v1,Int.reduceEq,sizeV_str,qao,gt_iff_lt,c0,n72,g1,g2,g3,f3,f4,w3,w4,g4,g5,g6,et6,hgt]
  by_cases c1:c=1
  ·by_cases n73:n'=73
   ·obtain⟨a1,k1,g1,y1,d1⟩:=qat (n:=5001) ha (by omega) (by omega) (by omega)
    have l1:=y1.len
    obtain⟨a2,k2,g2,y2,d2⟩:=qat (n:=5002) y1.ok (by omega) (by omega) (by omega)
    have l2:=y2.len
    obtain⟨a3,k3,g3,y3,d3⟩:=qbM (c:=6) (y:=0) y2.ok (by omega) d2 (by omega) (by omega)
    have l3:=y3.len
    obtain⟨a4,k4,g4,y4,d4⟩:=f_server y3.ok (d1.mono (y2.pre.trans y3.pre)) d3 (by omega)
    have l4:=y4.len
    obtain⟨a6,k6,g6,y6,d6⟩:=qbt (n:=73) y4.ok d4 (d2'.mono (y1.pre.trans (y2.pre.trans (y3.pre.trans y4.pre)))) (by omega) (by omega) (by omega)
    have et6:=qbp y6.ok d6
    by_cases hgt:(4000:Int) < ((txt (qav 73 [qgq (.atom 5001) (.pub (.atom 5002)),v])).length:Int)
    ·refine⟨i2,h2,[],qaa trA ?_,.inl rfl,Nat.zero_le _⟩
     rw[qaJ]
     show o165.go _ _ _=_
     simp only[Wd.vs,Wd.rs,o165,qac,TT,Nat.reduceEqDiff,↓reduceIte,TN,Nat.reduceAdd,Int.reduceLT,Int.reduceLE,Int.reduceToNat,Int.reduceToNat,e0,f1,f2,encI_len,r1,r1',Int.toNat_natCast,qam w.known k hkl,e1,v0,v1,Int.reduceEq,sizeV_str,qao,gt_iff_lt,c0,c1,n73,g1,g2,g3,g4,g6,et6,hgt]
    ·refine⟨i2,h2,txt (qav 73 [qgq (.atom 5001) (.pub (.atom 5002)),v]),qaa trA ?_,qcz (d6.ok y6.ok) (qca 73 (cost_server w.a 5001 5002) (.known d2')) (by omega),by omega⟩
     show o165.go _ _ _=_
     simp only[Wd.vs,Wd.rs,o165,qac,TT,Nat.reduceEqDiff,↓reduceIte,TN,Nat.reduceAdd,Int.reduceLT,Int.reduceLE,Int.reduceToNat,Int.reduceToNat,e0,f1,f2,encI_len,r1,r1',Int.toNat_natCast,qam w.known k hkl,e1,v0,v1,Int.reduceEq,sizeV_str,qao,gt_iff_lt,c0,c1,n73,g1,g2,g3,g4,g6,et6,hgt]
   ·by_cases hgt:(4000:Int) < ((txt T).length:Int)
    ·refine⟨i2,h2,[],qaa trA ?_,.inl rfl,Nat.zero_le _⟩
     rw[qaJ]
     show o165.go _ _ _=_
     simp only[Wd.vs,Wd.rs,o165,qac,TT,Nat.reduceEqDiff,↓reduceIte,TN,Nat.reduceAdd,Int.reduceLT,Int.reduceLE,Int.reduceToNat,Int.reduceToNat,e0,f1,f2,encI_len,r1,r1',Int.toNat_natCast,qam w.known k hkl,e1,v0,v1,Int.reduceEq,sizeV_str,qao,gt_iff_lt,c0,c1,n73,et,hgt]
    ·refine⟨i2,h2,txt T,qaa trA ?_,qcz (dT.ok ha) (.known dT) (by omega),by omega⟩
     show o165.go _ _ _=_
     simp only[Wd.vs,Wd.rs,o165,qac,TT,Nat.reduceEqDiff,↓reduceIte,TN,Nat.reduceAdd,Int.reduceLT,Int.reduceLE,Int.reduceToNat,Int.reduceToNat,e0,f1,f2,encI_len,r1,r1',Int.toNat_natCast,qam w.known k hkl,e1,v0,v1,Int.reduceEq,sizeV_str,qao,gt_iff_lt,c0,c1,n73,et,hgt]
  by_cases c2:c=2
  ·by_cases n76:n'=76
   ·obtain⟨i3,h3,m3,f3,r3,r3'⟩:=qaH hb i2 h2 (n:=3) (by omega)
    have w3:wr (1+m3)=1+m3:=qaj (by omega) (by omega)
    obtain⟨a1,k1,g1,y1,d1⟩:=qat (n:=1+m3) ha (by omega) (by omega) (by omega)
    have l1:=y1.len
    obtain⟨a6,k6,g6,y6,d6⟩:=qbt (n:=76) y1.ok d1 (d2'.mono y1.pre) (by omega) (by omega) (by omega)
    have et6:=qbp y6.ok d6
    by_cases hgt:(4000:Int) < ((txt (qav 76 [.atom (1+m3),v])).length:Int)
    ·refine⟨i3,h3,[],qaa trA ?_,.inl rfl,Nat.zero_le _⟩
     rw[qaJ]
     show o165.go _ _ _=_
     simp only[Wd.vs,Wd.rs,o165,qac,TT,Nat.reduceEqDiff,↓reduceIte,TN,Nat.reduceAdd,Int.reduceLT,Int.reduceLE,Int.reduceToNat,Int.reduceToNat,e0,f1,f2,encI_len,r1,r1',Int.toNat_natCast,qam w.known k hkl,e1,v0,v1,Int.reduceEq,sizeV_str,qao,gt_iff_lt,c0,c1,c2,n76,f3,w3,g1,g6,et6,hgt]
    ·refine⟨i3,h3,txt (qav 76 [.atom (1+m3),v]),qaa trA ?_,qcz (d6.ok y6.ok) (qca 76 (qaV w.a (1+m3)) (.known d2')) (by omega),by omega⟩
     show o165.go _ _ _=_
     simp only[Wd.vs,Wd.rs,o165,qac,TT,Nat.reduceEqDiff,↓reduceIte,TN,Nat.reduceAdd,Int.reduceLT,Int.reduceLE,Int.reduceToNat,Int.reduceToNat,e0,f1,f2,encI_len,r1,r1',Int.toNat_natCast,qam w.known k hkl,e1,v0,v1,Int.reduceEq,sizeV_str,qao,gt_iff_lt,c0,c1,c2,n76,f3,w3,g1,g6,et6,hgt]
   ·by_cases hgt:(4000:Int) < ((txt T).length:Int)
    ·refine⟨i2,h2,[],qaa trA ?_,.inl rfl,Nat.zero_le _⟩
     rw[qaJ]
     show o165.go _ _ _=_
     simp only[Wd.vs,Wd.rs,o165,qac,TT,Nat.reduceEqDiff,↓reduceIte,TN,Nat.reduceAdd,Int.reduceLT,Int.reduceLE,Int.reduceToNat,Int.reduceToNat,e0,f1,f2,encI_len,r1,r1',Int.toNat_natCast,qam w.known k hkl,e1,v0,v1,Int.reduceEq,sizeV_str,qao,gt_iff_lt,c0,c1,c2,n76,et,hgt]
    ·refine⟨i2,h2,txt T,qaa trA ?_,qcz (dT.ok ha) (.known dT) (by omega),by omega⟩
     show o165.go _ _ _=_
     simp only[Wd.vs,Wd.rs,o165,qac,TT,Nat.reduceEqDiff,↓reduceIte,TN,Nat.reduceAdd,Int.reduceLT,Int.reduceLE,Int.reduceToNat,Int.reduceToNat,e0,f1,f2,encI_len,r1,r1',Int.toNat_natCast,qam w.known k hkl,e1,v0,v1,Int.reduceEq,sizeV_str,qao,gt_iff_lt,c0,c1,c2,n76,et,hgt]
  by_cases hgt:(4000:Int) < ((txt T).length:Int)
  ·refine⟨i2,h2,[],qaa trA ?_,.inl rfl,Nat.zero_le _⟩
   rw[qaJ]
   show o165.go _ _ _=_
   simp only[Wd.vs,Wd.rs,o165,qac,TT,Nat.reduceEqDiff,↓reduceIte,TN,Nat.reduceAdd,Int.reduceLT,Int.reduceLE,Int.reduceToNat,Int.reduceToNat,e0,f1,f2,encI_len,r1,r1',Int.toNat_natCast,qam w.known k hkl,e1,v0,v1,Int.reduceEq,sizeV_str,qao,gt_iff_lt,c0,c1,c2,et,hgt]
  ·refine⟨i2,h2,txt T,qaa trA ?_,qcz (dT.ok ha) (.known dT) (by omega),by omega⟩
   show o165.go _ _ _=_
   simp only[Wd.vs,Wd.rs,o165,qac,TT,Nat.reduceEqDiff,↓reduceIte,TN,Nat.reduceAdd,Int.reduceLT,Int.reduceLE,Int.reduceToNat,Int.reduceToNat,e0,f1,f2,encI_len,r1,r1',Int.toNat_natCast,qam w.known k hkl,e1,v0,v1,Int.reduceEq,sizeV_str,qao,gt_iff_lt,c0,c1,c2,et,hgt]
def EvOk (w:Wd) (kind at_ num:Int) (t:List Nat):Prop:=0≤at_∧0≤num∧((kind=9∧TextOk w.a t)∨kind=1∨kind=2∨kind=3∨kind=4∨kind=5∨kind=6∨kind=7∨kind=8∨kind=10)
def EvT (kind:Int) (t:List Nat):Prop:=(kind=9∨t=[])∧t.length≤4000∧1≤kind∧kind≤10
section
variable {n:Nat} {w:Wd} (h:WdI n w) (hn:n≤43)
include h hn
theorem do_any (hd:10000≤w.draw∧w.draw≤800000) {kind at_ num:Int} {t:List Nat} (e:EvOk w kind at_ num t):Done w kind at_ num (.string (qbS t)):=by
 obtain⟨h0,h1,⟨rfl,ht⟩ | rfl | hk | hk | hk | rfl | rfl | rfl | rfl | rfl⟩:=e
 ·exact do_forge h hn hd at_ num h0 h1 ht
 ·exact do_start h hn hd at_ num h0 _
 ·exact do_net h hn hd kind at_ num (.inl hk) h1 _
 ·exact do_net h hn hd kind at_ num (.inr (.inl hk)) h1 _
 ·exact do_net h hn hd kind at_ num (.inr (.inr hk)) h1 _
 ·exact do_tick h hn hd at_ num h0 h1 _
 ·exact do_send h hn hd at_ num h0 _
 ·exact do_turn h hn hd at_ num h0 _
 ·exact do_roam h hn hd at_ num h0 h1 _
 ·exact do_take h hn hd at_ num h0 _
theorem f_draw {b:Rw} (hb:Bys b) (hk:1≤w.known.length) (i:Nat) (h0 num:Int) (hnum:0≤num) :
  ∃(i':Nat) (h' kind at_ num':Int) (t:List Nat),fin trA 1238 ([I i,I h0]++w.vs++[I num]) (b :: w.rs)=some (0,[I i',I h',I kind,I at_,I num',.string (qbS t)],[])∧EvOk w kind at_ num' t∧EvT kind t:=by
 obtain⟨i1,h1,at1,f1,r1,r1'⟩:=qaH hb i h0 (n:=2) (by omega)
 obtain⟨i2,h2,k,f2,r2,r2'⟩:=qaH hb i1 h1 (n:=28) (by omega)
 have done:∀(i':Nat) (h' kind at_ num':Int) (t:List Nat),fin trA 1238 ([I i,I h0]++w.vs++[I num]) (b :: w.rs)=some (0,[I i',I h',I kind,I at_,I num',.string (qbS t)],[])→EvOk w kind at_ num' t→EvT kind t→∃(i':Nat) (h' kind at_ num':Int) (t:List Nat),fin trA 1238 ([I i,I h0]++w.vs++[I num]) (b :: w.rs)=some (0,[I i',I h',I kind,I at_,I num',.string (qbS t)],[])∧EvOk w kind at_ num' t∧EvT kind t:=fun i' h' kind at_ num' t e o q=>⟨i',h',kind,at_,num',t,e,o,q⟩
 by_cases c1:k < 3
 ·refine done i2 h2 1 at1 0 [] (qaa trA ?_) ⟨r1,by omega,by omega⟩ ⟨.inr rfl,Nat.zero_le _,by omega,by omega⟩
  rw[qaJ]
  show o103.go _ _ _=_
  simp only[Wd.vs,o103,TT,Nat.reduceEqDiff,↓reduceIte,f1,f2,c1]
 by_cases c2:k < 15
 ·obtain⟨i3,h3,x3,f3,r3,r3'⟩:=qaH hb i2 h2 (n:=3) (by omega)
  refine done i3 h3 2 0 x3 [] (qaa trA ?_) ⟨by omega,r3,by omega⟩ ⟨.inr rfl,Nat.zero_le _,by omega,by omega⟩
  rw[qaJ]
  show o103.go _ _ _=_
  simp only[Wd.vs,o103,TT,Nat.reduceEqDiff,↓reduceIte,f1,f2,c1,c2,f3]
 by_cases c3:k=15
 ·obtain⟨i3,h3,x3,f3,m3⟩:=f_pickInt hb i2 h2 (l:=[3,4]) (by simp)
  obtain⟨i4,h4,x4,f4,r4,r4'⟩:=qaH hb i3 h3 (n:=3) (by omega)
  have f3:fin trA 1970 [I i2,I h2] [b,[[.int .i64 3],[.int .i64 4]]]=_:=f3
  have hx:x3=3∨x3=4:=by simpa using m3
  refine done i4 h4 x3 0 x4 [] (qaa trA ?_) ⟨by omega,r4,by omega⟩ ⟨.inr rfl,Nat.zero_le _,by omega,by omega⟩
  rw[qaJ]
  show o103.go _ _ _=_
  simp only[Wd.vs,o103,TT,Nat.reduceEqDiff,↓reduceIte,f1,f2,c1,c2,c3,f3,f4,Int.reduceLT]
 by_cases c4:k=16
 ·refine done i2 h2 5 0 num [] (qaa trA ?_) ⟨by omega,hnum,by omega⟩ ⟨.inr rfl,Nat.zero_le _,by omega,by omega⟩
  rw[qaJ]
  show o103.go _ _ _=_
  simp only[Wd.vs,o103,TT,Nat.reduceEqDiff,↓reduceIte,f1,f2,c1,c2,c3,c4,Int.reduceLT,Int.reduceEq]
 by_cases c5:k < 21
 ·obtain⟨i3,h3,x3,f3,m3⟩:=f_pickInt hb i2 h2 (l:=[10,12,24,26,30,11,38]) (by simp)
  have f3:fin trA 1970 [I i2,I h2] [b,[[.int .i64 10],[.int .i64 12],[.int .i64 24],[.int .i64 26],[.int .i64 30],[.int .i64 11],[.int .i64 38]]]=_:=f3
  have hx:0≤x3:=by
   simp at m3
   omega
  refine done i3 h3 6 at1 x3 [] (qaa trA ?_) ⟨r1,hx,by omega⟩ ⟨.inr rfl,Nat.zero_le _,by omega,by omega⟩
  rw[qaJ]
  show o103.go _ _ _=_
  simp only[Wd.vs,o103,TT,Nat.reduceEqDiff,↓reduceIte,f1,f2,c1,c2,c3,c4,c5,f3]
 by_cases c6:k=21
 ·refine done i2 h2 7 at1 num [] (qaa trA ?_) ⟨r1,hnum,by omega⟩ ⟨.inr rfl,Nat.zero_le _,by omega,by omega⟩
  rw[qaJ]
  show o103.go _ _ _=_
  simp only[Wd.vs,o103,TT,Nat.reduceEqDiff,↓reduceIte,f1,f2,c1,c2,c3,c4,c5,c6,Int.reduceLT,Int.reduceEq]
 by_cases c7:k=22
 ·refine done i2 h2 8 at1 num [] (qaa trA ?_) ⟨r1,hnum,by omega⟩ ⟨.inr rfl,Nat.zero_le _,by omega,by omega⟩
  rw[qaJ]
  show o103.go _ _ _=_
  simp only[Wd.vs,o103,TT,Nat.reduceEqDiff,↓reduceIte,f1,f2,c1,c2,c3,c4,c5,c6,c7,Int.reduceLT,Int.reduceEq]
 by_cases c8:k=23∧num.tmod 3=0
 ·refine done i2 h2 10 at1 num [] (qaa trA ?_) ⟨r1,hnum,by omega⟩ ⟨.inr rfl,Nat.zero_le _,by omega,by omega⟩
  rw[qaJ]
  show o103.go _ _ _=_
  simp only[Wd.vs,o103,TT,Nat.reduceEqDiff,↓reduceIte,f1,f2,c1,c2,c3,c4,c5,c6,c7,c8.1,c8.2,Int.reduceLT,Int.reduceEq]
 ·obtain⟨i3,h3,x3,f3,r3,r3'⟩:=qaH hb i2 h2 (n:=4) (by omega)
  obtain⟨i4,h4,x4,f4,r4,r4'⟩:=qaH hb i3 h3 (n:=6) (by omega)
  obtain⟨i5,h5,t,f5,ht,htl⟩:=f_forged hb h hn hk i4 h4
  simp only[Wd.vs,Wd.rs,List.cons_append,List.nil_append] at f5
  refine done i5 h5 9 x3 x4 t (qaa trA ?_) ⟨r3,r4,.inl ⟨rfl,ht⟩⟩ ⟨.inl rfl,htl,by omega,by omega⟩
  show o103.go _ _ _=_
  by_cases c9:k=23
  ·have c10:¬num.tmod 3=0:=fun q=>c8 ⟨c9,q⟩
   simp only[Wd.vs,Wd.rs,o103,TT,Nat.reduceEqDiff,↓reduceIte,f1,f2,c1,c2,c3,c4,c5,c6,c7,c9,c10,f3,f4,f5,Int.reduceLT,Int.reduceEq]
  ·simp only[Wd.vs,Wd.rs,o103,TT,Nat.reduceEqDiff,↓reduceIte,f1,f2,c1,c2,c3,c4,c5,c6,c7,c9,f3,f4,f5]
end
def clNew (name mode:Int):Cl:=⟨name,9,mode,0,0,false,0,0,0,0,0,Ch.zero,0,0,0⟩
def clG0:ClG:=⟨.atom 0,.atom 0,.atom 0,.atom 0,.atom 0,fun _=>False,fun _=>False⟩
theorem f_clNew (name mode:Int):fin trA 986 [I name,I 9,I mode] []=some (0,(clNew name mode).v,[]):=by
 refine qaa trA ?_
 show o82.go _ _ _=_
 simp only[o82,TT,Nat.reduceEqDiff,↓reduceIte,Cl.v,clNew,Ch.zero]
 rfl
theorem f_gnew (ws:List Way) (hw:ws.length≤8):fin trA 974 [I 9] [qaR ws]=some (0,[I 9,I 1,I 0],[[],[],qaR ws,[]]):=by
 have g:(ws.length:Int)≤100000000:=by omega
 refine qaa trA ?_
 show o81.go _ _ _=_
 simp only[o81,TT,Nat.reduceEqDiff,↓reduceIte,qar,g]
theorem f_wn0 (mode:Int) (ws:List Way):fin trA 266 [I mode,I 0,I 0,I 0,I 0,I 0,I 9,I 1,I 0,I 0,I 10000,I 0] [[],[],[],[],[],[],[],[],[],[],[],[],[],[],[],[],[],[],[],[],qaR ws,[],[],[],[[I 3]],[],[],[],[],[]]=some (0,[],[qbE [(clNew 1 mode,clG0),(clNew 2 mode,clG0)],qak [1,2]]):=by
 have v1:wr (0+1)=1:=by rw[qaj (by omega) (by omega)];rfl
 have v2:wr (1+1)=2:=by rw[qaj (by omega) (by omega)];rfl
 have c1:=f_clNew 1 mode
 have c2:=f_clNew 2 mode
 simp only[Cl.v,clNew,Ch.zero,Int.cast_ofNat_Int] at c1 c2
 have e2:fin trA 266 [I mode,I 0,I 0,I 0,I 0,I 0,I 9,I 1,I 0,I 0,I 10000,I 2] [[],[],[],[],[],[],[],[],[],[],[],[],[],[],[],[],qbE [(clNew 1 mode,clG0),(clNew 2 mode,clG0)],qak [1,2],[],[],qaR ws,[],[],[],[[I 3]],[],[],[],[],[]]=some (0,[],[qbE [(clNew 1 mode,clG0),(clNew 2 mode,clG0)],qak [1,2]]):=by
  refine qaa trA ?_
  show o22_0.go _ _ _=_
  simp only[o22_0,TT,Nat.reduceEqDiff,↓reduceIte,Int.lt_irrefl]
 simp only[qbE,qak,List.map_cons,List.map_nil,Cl.v,clNew,Ch.zero,Int.cast_ofNat_Int] at e2 ⊢
 have e1:fin trA 266 [I mode,I 0,I 0,I 0,I 0,I 0,I 9,I 1,I 0,I 0,I 10000,I 1] [[],[],[],[],[],[],[],[],[],[],[],[],[],[],[],[],qbE [(clNew 1 mode,clG0)],qak [1],[],[],qaR ws,[],[],[],[[I 3]],[],[],[],[],[]]=some (0,[],[qbE [(clNew 1 mode,clG0),(clNew 2 mode,clG0)],qak [1,2]]):=by
  refine qaa trA ?_
  show o22_0.go _ _ _=_
  simp only[o22_0,TT,Nat.reduceEqDiff,↓reduceIte,qbE,qak,Cl.v,clNew,Ch.zero,v2,c2,Int.reduceLT,List.length_cons,List.length_nil,Nat.zero_add,Nat.reduceAdd,Int.cast_ofNat_Int,Int.reduceLE,e2]
 simp only[qbE,qak,List.map_cons,List.map_nil,Cl.v,clNew,Ch.zero,Int.cast_ofNat_Int] at e1
 refine qaa trA ?_
 show o22_0.go _ _ _=_
 simp only[o22_0,TT,Nat.reduceEqDiff,↓reduceIte,v1,c1,Int.reduceLT,List.length_cons,List.length_nil,Nat.zero_add,Nat.reduceAdd,Int.cast_ofNat_Int,Int.reduceLE,e1]
theorem f_wn2 (cs ad ws:Rw):∀(d i:Nat) (a:Ar) (known:List Int),i+d=4→AOk a→a.length≤10*i→known.length=i→(∀k∈known,∃T,Den a k T) →
  ∃a' known',fin trA 267 [I 0,I 0,I 0,I 0,I 0,I 9,I 1,I 0,I 0,I 10000,I i] [[],[],[],[],[],[],[],[],[],[],[],[],[],[],[],qag a,cs,ad,[],[],ws,[],[],qak known,[[I 3]],[],[],[],[],[],qak [1,2,3,9]]=some (0,[],[qag a',qak known'])∧AOk a'∧a'.length≤40∧known'.length=4∧∀k∈known',∃T,Den a' k T
 | 0,i,a,known,hi,ha,hl,hk,hd=>by
  refine⟨a,known,qaa trA ?_,ha,by omega,by omega,hd⟩
  show o22_2.go _ _ _=_
  have g:¬(i:Int) < (([1,2,3,9]:List Int).length:Int):=by simp;omega
  simp only[o22_2,TT,Nat.reduceEqDiff,↓reduceIte,encI_len,g]
 | d+1,i,a,known,hi,ha,hl,hk,hd=>by
  have hlt:i < ([1,2,3,9]:List Int).length:=by simp;omega
  have g:(i:Int) < (([1,2,3,9]:List Int).length:Int):=by omega
  have g0:(0:Int)≤(i:Int):=by omega
  have w:=qaB (i:=i) (n:=100) (by omega) (by omega)
  have hn:0≤([1,2,3,9]:List Int)[i]∧([1,2,3,9]:List Int)[i]≤9:=by
   have hall:∀x∈([1,2,3,9]:List Int),0≤x∧x≤9:=by
    intro x hx
    have hx:x=1∨x=2∨x=3∨x=9:=by simpa using hx
    omega
   exact hall _ (List.getElem_mem hlt)
  obtain⟨a1,k,e1,x,dk⟩:=f_cert ha hn.1 hn.2 (by omega)
  have l1:=x.len
  obtain⟨a',known',e,r⟩:=f_wn2 cs ad ws d (i+1) a1 (known++[k]) (by omega) x.ok (by omega) (by simp;omega) (fun y hy=>by
   rcases List.mem_append.1 hy with hy | hy
   ·obtain⟨T,dT⟩:=hd y hy;exact⟨T,dT.mono x.pre⟩
   ·have:y=k:=List.mem_singleton.1 hy
    rw[this];exact⟨_,dk⟩)
  have q:qak known++[[Value.int .i64 k]]=qak (known++[k]):=by simp[qak]
  have g2:((known++[k]).length:Int)≤100000000:=by simp;omega
  refine⟨a',known',qaa trA ?_,r⟩
  show o22_2.go _ _ _=_
  simp only[o22_2,TT,Nat.reduceEqDiff,↓reduceIte,encI_len,g,g0,Int.toNat_natCast,qam ([1,2,3,9]:List Int) i hlt,e1,q,g2,w,e]
theorem f_wn4 (cs ad ws:Rw):∀(d i:Nat) (a:Ar) (known:List Int),i+d=4→AOk a→a.length≤42+i→known.length=6+i→(∀k∈known,∃T,Den a k T) →
  ∃a' known',fin trA 268 [I 0,I 0,I 0,I 0,I 0,I 9,I 1,I 0,I 0,I 10000,I i] [[],[],[],[],[],[],[],[],[],[],[],[],[],[],[],qag a,cs,ad,[],[],ws,[],[],qak known,[[I 3]],[],[],[],[],[]]=some (0,[],[qag a',qak known'])∧AOk a'∧a'.length≤46∧known'.length=10∧∀k∈known',∃T,Den a' k T
 | 0,i,a,known,hi,ha,hl,hk,hd=>by
  refine⟨a,known,qaa trA ?_,ha,by omega,by omega,hd⟩
  show o22_4.go _ _ _=_
  have g:¬(i:Int) < 4:=by omega
  simp only[o22_4,TT,Nat.reduceEqDiff,↓reduceIte,g]
 | d+1,i,a,known,hi,ha,hl,hk,hd=>by
  have g:(i:Int) < 4:=by omega
  have w:=qaB (i:=i) (n:=100) (by omega) (by omega)
  have w2:wr (5000+(i:Int))=5000+(i:Int):=qaj (by omega) (by omega)
  obtain⟨a1,k,e1,x,dk⟩:=qat (n:=5000+(i:Int)) ha (by omega) (by omega) (by omega)
  have l1:=x.len
  obtain⟨a',known',e,r⟩:=f_wn4 cs ad ws d (i+1) a1 (known++[k]) (by omega) x.ok (by omega) (by simp;omega) (fun y hy=>by
   rcases List.mem_append.1 hy with hy | hy
   ·obtain⟨T,dT⟩:=hd y hy;exact⟨T,dT.mono x.pre⟩
   ·have:y=k:=List.mem_singleton.1 hy
    rw[this];exact⟨_,dk⟩)
  have q:qak known++[[Value.int .i64 k]]=qak (known++[k]):=by simp[qak]
  have g2:((known++[k]).length:Int)≤100000000:=by simp;omega
  refine⟨a',known',qaa trA ?_,r⟩
  show o22_4.go _ _ _=_
  simp only[o22_4,TT,Nat.reduceEqDiff,↓reduceIte,g,w2,e1,q,encI_len,g2,w,e]
theorem aok_nil:AOk []:=⟨fun i n h=>by simp at h,fun i j n h=>by simp at h,by simp⟩
theorem qhj {mode:Int} (hm:mode=1∨mode=2) {ws:List Way} (hw:ws.length≤5):∃w,fin trA 269 [I mode] [qaR ws]=some (0,w.vs,w.rs)∧WdI 0 w∧w.draw=10000∧w.g.w=ws∧w.codes=[]∧1≤w.known.length:=by
 have e0:=f_gnew ws (by omega)
 have e1:=f_wn0 mode ws
 obtain⟨a1,kn1,e2,ha1,hl1,hk1,hd1⟩:=f_wn2 (qbE [(clNew 1 mode,clG0),(clNew 2 mode,clG0)]) (qak [1,2]) (qaR ws) 4 0 [] [] (by omega) aok_nil (by simp) rfl (fun k hk=>by cases hk)
 rw[show((0:Nat):Int)=0 from rfl] at e2
 have e2:fin trA 267 [I 0,I 0,I 0,I 0,I 0,I 9,I 1,I 0,I 0,I 10000,I 0] [[],[],[],[],[],[],[],[],[],[],[],[],[],[],[],[],qbE [(clNew 1 mode,clG0),(clNew 2 mode,clG0)],qak [1,2],[],[],qaR ws,[],[],[],[[I 3]],[],[],[],[],[],[[I 1],[I 2],[I 3],[I 9]]]=some (0,[],[qag a1,qak kn1]):=e2
 obtain⟨a2,x,e3,x2,d2⟩:=f_long ha1 (show(0:Int)≤3 by omega) (by omega) (by omega)
 have l2:=x2.len
 obtain⟨a3,y,e4,x3,d3⟩:=f_psk x2.ok (show(0:Int)≤3 by omega) (by omega) (show(0:Int)≤9 by omega) (by omega) (by omega)
 have l3:=x3.len
 obtain⟨a4,kn4,e5,ha4,hl4,hk4,hd4⟩:=f_wn4 (qbE [(clNew 1 mode,clG0),(clNew 2 mode,clG0)]) (qak [1,2]) (qaR ws) 4 0 a3 (kn1++[x]++[y]) (by omega) x3.ok (by omega) (by simp;omega) (fun k hk=>by
  rcases List.mem_append.1 hk with hk | hk
  ·rcases List.mem_append.1 hk with hk | hk
   ·obtain⟨T,dT⟩:=hd1 k hk;exact⟨T,dT.mono (x2.pre.trans x3.pre)⟩
   ·have:k=x:=List.mem_singleton.1 hk
    rw[this];exact⟨_,d2.mono x3.pre⟩
  ·have:k=y:=List.mem_singleton.1 hk
   rw[this];exact⟨_,d3⟩)
 rw[show((0:Nat):Int)=0 from rfl] at e5
 have q1:qak kn1++[[Value.int .i64 x]]=qak (kn1++[x]):=by simp[qak]
 have q2:qak (kn1++[x])++[[Value.int .i64 y]]=qak (kn1++[x]++[y]):=by simp[qak]
 have g1:((kn1++[x]).length:Int)≤100000000:=by simp;omega
 have g2:((kn1++[x]++[y]).length:Int)≤100000000:=by simp;omega
 refine⟨⟨a4,⟨9,1,0,[],[],ws,[]⟩,0,10000,[(clNew 1 mode,clG0),(clNew 2 mode,clG0)],[1,2],[],kn4,[3],[],[],[],[],[]⟩,qaa trA ?_,?_,rfl,rfl,rfl,by show 1≤kn4.length;omega⟩
 ·show o22.go _ _ _=_
  simp only[o22,TT,Nat.reduceEqDiff,↓reduceIte,e0,e1,e2,e3,e4,q1,q2,encI_len,g1,g2,e5]
  rfl
 ·have hcl:∀name,0≤name∧name≤9→ClD a4 (clNew name mode) clG0:=fun name hn=>⟨hn,by show(0:Int)≤9∧(9:Int)≤9;omega,hm,.inl rfl,by show(0:Int)≤0∧(0:Int)≤900000;omega,(fun h=>by cases h),(fun h=>by rcases h with h | h<;>cases h),(fun h=>by rcases h with h | h<;>cases h),(fun h=>by cases h)⟩
  exact {
   ok:=ha4
   few:=by show a4.length≤_;omega
   gate:={
    name:=by show(0:Int)≤9∧(9:Int)≤9;omega
    next:=by show(1:Int)≤1∧(1:Int)≤9998;omega
    few:=by show([]:List Se).length≤3;simp
    sess:=fun s hs=>by cases hs
    cids:=List.Pairwise.nil
    below:=fun s hs=>by cases hs
    pool:=⟨(fun e he=>by cases he),List.Pairwise.nil,List.Pairwise.nil,by show([]:List Le).length≤3;simp⟩
    opened:=fun e he=>by cases he
    leased:=fun s hs=>by cases hs
    ways:=by show ws.length≤8;omega
    outs:=by show([]:List Ou).length≤50;simp }
   gname:=rfl
   next:=by show(1:Int)≤1+((0:Nat):Int);omega
   gseq:=fun s hs=>by cases hs
   gaddr:=fun s hs=>by cases hs
   now:=by show(0:Int)≤0∧(0:Int)≤4*((0:Nat):Int);omega
   two:=rfl
   cl:=fun c hc=>by
    rcases List.mem_cons.1 hc with rfl | hc
    ·exact hcl 1 (by omega)
    ·have:c=_:=List.mem_singleton.1 hc
     rw[this];exact hcl 2 (by omega)
   cseq:=fun c hc=>by
    rcases List.mem_cons.1 hc with rfl | hc
    ·exact Nat.le_refl 0
    ·have:c=_:=List.mem_singleton.1 hc
     rw[this];exact Nat.le_refl 0
   adl:=rfl
   ad:=fun x hx=>by
    have hx:x=1∨x=2:=by simpa using hx
    omega
   netl:=by show([]:List Mail_).length≤12;simp
   net:=fun m hm=>by cases hm
   knl:=by show kn4.length≤_;omega
   kn:=hd4
   taken:=by show([3]:List Int).length≤1+0;simp
   begun:=Nat.le_refl 0
   dn:=Nat.le_refl 0
   sent:=Nat.le_refl 0
   got:=Nat.le_refl 0 }
theorem say_known (w:Wd) (m:Mail_):w.known.length≤(w.say m).known.length:=by
 unfold Wd.say
 split
 ·exact Nat.le_refl _
 ·show _≤(w.known++[_]).length
  simp
theorem qff {k:List Int} (w:Wd) (m:Mail_) (h:w.known=k):k.length≤(w.say m).known.length:=by rw[←h];exact say_known w m
theorem CarryR.known {w w':Wd} {src to:Int} {T:Tm'} {code:Int} (k:CarryR w src to T w' code):w.known.length≤w'.known.length:=by
 cases k with
 | gate hto k =>
  show _≤List.length _
  cases k.mails with
  | none=>exact Nat.le_refl _
  | one=>simp
 | client _ _ k ok =>
  show _≤List.length _
  rcases k.say with ⟨_,_,rfl⟩ | ⟨_,_,rfl⟩
  ·exact Nat.le_refl _
  ·simp
 | none=>exact Nat.le_refl _
theorem TickS.known {w w':Wd} {i:Nat} (k:TickS w i w'):w.known.length≤w'.known.length:=by
 cases k with
 | mk hi hj h=>exact qff _ _ rfl
theorem StR.keep {n:Nat} {w:Wd} (h:WdI n w) (hn:n≤43) {w':Wd} (k:StR w w'):w'.codes=w.codes∧w.known.length≤w'.known.length:=by
 cases k with
 | no=>exact⟨rfl,Nat.le_refl _⟩
 | start=>exact⟨(qcK _ _).2.2.2.2.2.2.2.2.2.2.2,qff _ _ rfl⟩
 | net k =>
  refine⟨(k.ok h hn).2.2.2.2.2.2.2,?_⟩
  cases k with
  | carry hk d hR=>exact hR.known
  | none=>exact Nat.le_refl _
  | full=>exact Nat.le_refl _
  | twice=>exact Nat.le_refl _
  | lose=>exact Nat.le_refl _
 | tick _ t1 t2 =>
  exact⟨t2.same.2.2.2.2.2.2.2.2.2.2.2.trans t1.same.2.2.2.2.2.2.2.2.2.2.2,Nat.le_trans t1.known t2.known⟩
 | send k =>
  refine⟨rfl,?_⟩
  cases k with
  | no=>exact Nat.le_refl _
  | yes=>show _≤(w.known++[_]).length;simp
 | turn=>exact⟨rfl,Nat.le_refl _⟩
 | roam=>exact⟨rfl,Nat.le_refl _⟩
 | forge=>exact⟨(qcK _ _).2.2.2.2.2.2.2.2.2.2.2,qff _ _ rfl⟩
 | take k =>
  refine⟨rfl,?_⟩
  cases k with
  | client=>show _≤(w.known++_).length;simp
  | gate=>show _≤(w.known++_).length;simp
structure WdS (n:Nat) (ws:List Way) (w:Wd):Prop where
 inv:WdI n w
 draw:w.draw=10000+10*n
 ways:w.g.w=ws
 codes:w.codes=[]
 some:1≤w.known.length
theorem qgv {n:Nat} {ws:List Way} {w:Wd} (h:WdS n ws w) (hn:n≤43) {kind at_ num:Int} {t:List Nat} (e:EvOk w kind at_ num t):∃w' code,fin trA 1071 (w.vs++[I kind,I at_,I num,.string (qbS t)]) w.rs=some (0,w'.vs++[I code],w'.o14)∧WdS (n+1) ws w':=by
 have hd:=h.draw
 obtain⟨w',code,e1,k,q⟩:=do_any h.inv hn (by omega) e
 have h':WdI n { w with draw:=w.draw+10 }:={ h.inv with }
 obtain⟨i1,i2⟩:=k.ok h' hn (by show 10000≤w.draw+10∧w.draw+10≤800010;omega)
 obtain⟨j1,j2⟩:=k.keep h' hn
 exact⟨w',code,e1,i1,by rw[q];omega,i2.trans h.ways,j1.trans h.codes,Nat.le_trans h.some j2⟩
section
variable {b:Rw} (hb:Bys b) {ws:List Way}
include hb
theorem f_some0:∀(d n i:Nat) (c1:Nat) (c2:Int) (w:Wd),i+d≤1000→n+d≤35→WdS n ws w→∃(c1':Nat) (c2':Int) (w':Wd) (m:Nat),m≤35∧WdS m ws w' ∧
  fin trA 482 ([I c1,I c2,I ((i+d:Nat):Int),I 0,I 0,I 0,I 0,I 0]++w.vs++[I i]) (b :: [] :: [] :: [] :: [] :: [] :: [] :: [] :: [] :: [] :: [] :: [] :: [] :: [] :: [] :: [] :: w.rs)=some (0,[I c1',I c2']++w'.vs,w'.o14)
 | 0,n,i,c1,c2,w,hi,hn,h=>by
  refine⟨c1,c2,w,n,by omega,h,qaa trA ?_⟩
  show o40_0.go _ _ _=_
  have g:¬(i:Int) < ((i+0:Nat):Int):=by omega
  simp only[Wd.vs,Wd.rs,Wd.o14,o40_0,TT,Nat.reduceEqDiff,↓reduceIte,g]
 | d+1,n,i,c1,c2,w,hi,hn,h=>by
  have g:(i:Int) < ((i+(d+1):Nat):Int):=by omega
  have w1:=qaB (i:=i) (n:=1000) (by omega) (by omega)
  have hlen:i+(d+1)=(i+1)+d:=by omega
  obtain⟨e1,e2,x,fo⟩:=f_once hb c1 c2 2
  have hcod:=h.codes
  cases x with
  | true =>
   obtain⟨w',code,f1,h'⟩:=qgv h (by omega) (kind:=2) (at_:=0) (num:=0) (t:=[]) ⟨by omega,by omega,by omega⟩
   obtain⟨q1,q2,w2,m,hm,hS,f2⟩:=f_some0 d (n+1) (i+1) e1 e2 w' (by omega) (by omega) h'
   have hcod':=h'.codes
   refine⟨q1,q2,w2,m,hm,hS,qaa trA ?_⟩
   rw[qaJ] at f1
   rw[←hlen] at f2
   simp only[Wd.vs,Wd.rs,Wd.o14,hcod,hcod',List.cons_append,List.nil_append] at f1 f2
   show o40_0.go _ _ _=_
   simp only[Wd.vs,Wd.rs,Wd.o14,hcod,o40_0,TT,Nat.reduceEqDiff,↓reduceIte,g,fo,f1,w1,f2]
  | false =>
   obtain⟨e3,e4,num,fb,r1,r2⟩:=qaH hb e1 e2 (n:=30) (by omega)
   obtain⟨e5,e6,kind,at_,num',t,fd,ev,_⟩:=f_draw h.inv (by omega) hb h.some e3 e4 num r1
   obtain⟨w',code,f1,h'⟩:=qgv h (by omega) ev
   obtain⟨q1,q2,w2,m,hm,hS,f2⟩:=f_some0 d (n+1) (i+1) e5 e6 w' (by omega) (by omega) h'
   have hcod':=h'.codes
   refine⟨q1,q2,w2,m,hm,hS,qaa trA ?_⟩
   rw[←hlen] at f2
   simp only[Wd.vs,Wd.rs,Wd.o14,hcod,hcod',List.cons_append,List.nil_append] at f1 f2 fd
   show o40_0.go _ _ _=_
   simp only[Wd.vs,Wd.rs,Wd.o14,hcod,o40_0,TT,Nat.reduceEqDiff,↓reduceIte,g,fo,fb,fd,f1,w1,f2]
end
theorem i_in (x a b:Int):fin trA 830 [I x,I a,I b] []=some (0,[B (inB x a b)],[]):=by
 refine qaa trA ?_
 show o69.go _ _ _=_
 simp only[o69,TT,Nat.reduceEqDiff,↓reduceIte]
 by_cases h:a≤x<;>simp[h,inB]
theorem i_has (a:Ar) (k:Int) (hl:a.length≤90000000):fin trA 1598 [I k] [qag a]=some (0,[B (decide (0≤k∧k < (a.length:Int)))],[]):=by
 have w:wr ((a.length:Int) - 1)=(a.length:Int) - 1:=qaj (by omega) (by omega)
 have e:inB k 0 ((a.length:Int) - 1)=decide (0≤k∧k < (a.length:Int)):=by
  unfold inB
  rw[←Bool.decide_and]
  apply decide_eq_decide.2
  omega
 refine qaa trA ?_
 show o133.go _ _ _=_
 simp only[o133,TT,Nat.reduceEqDiff,↓reduceIte,encA_len,w,i_in,e]
section
variable {a:Ar} (ha:AOk a)
include ha
end
section
variable {a:Ar} (ha:AOk a)
include ha
end
theorem encO_get (l:List Ou) (i:Nat) (h:i < l.length):(qbb l).getD i []=(l[i]).v:=by
 simp[qbb,List.getD_eq_getElem?_getD,List.getElem?_eq_getElem h]
theorem qho {l:List Le} (hl:l.length≤100) (cid z:Int):∀(n i:Nat),i+n=l.length→fin trA 710 [I cid,I z,I (l.length:Int),I i] [qaI l]=some (if ∃e∈l.drop i,e.cid=cid then (1,[I (qaP cid (l.drop i))],[]) else (0,[],[]))
 | 0,i,hi=>by
  refine qaa trA ?_
  show o59_0.go _ _ _=_
  have g:¬(i:Int) < (l.length:Int):=by omega
  rw[List.drop_eq_nil_of_le (by omega),if_neg (by simp)]
  simp only[o59_0,TT,Nat.reduceEqDiff,↓reduceIte,g]
 | n+1,i,hi=>by
  have ih:=qho hl cid z n (i+1) (by omega)
  have hlt:i < l.length:=by omega
  have g:(i:Int) < (l.length:Int):=by omega
  have g0:(0:Int)≤(i:Int):=by omega
  have w:=qaB (i:=i) (n:=100) (by omega) (by omega)
  refine qaa trA ?_
  show o59_0.go _ _ _=_
  rw[List.drop_eq_getElem_cons hlt]
  by_cases h1:l[i].cid=cid
  ·rw[if_pos ⟨l[i],List.mem_cons_self ..,h1⟩]
   simp only[o59_0,qac,TT,Nat.reduceEqDiff,↓reduceIte,qai,Int.toNat_natCast,qap l i hlt,Le.v,g,g0,h1,qaP]
  ·have hs:qaP cid (l[i] :: l.drop (i+1))=qaP cid (l.drop (i+1)):=by rw[qaP,if_neg h1]
   have he:(∃e∈l[i] :: l.drop (i+1),e.cid=cid)↔∃e∈l.drop (i+1),e.cid=cid:=by
    constructor
    ·rintro ⟨e,he,hc⟩
     rcases List.mem_cons.1 he with rfl | he
     ·exact absurd hc h1
     ·exact⟨e,he,hc⟩
    ·rintro ⟨e,he,hc⟩;exact⟨e,List.mem_cons_of_mem _ he,hc⟩
   rw[hs]
   by_cases h2:∃e∈l.drop (i+1),e.cid=cid
   ·rw[if_pos h2] at ih
    rw[if_pos (he.2 h2)]
    simp only[o59_0,qac,TT,Nat.reduceEqDiff,↓reduceIte,qai,Int.toNat_natCast,qap l i hlt,Le.v,g,g0,h1,w,ih]
   ·rw[if_neg h2] at ih
    rw[if_neg (fun h=>h2 (he.1 h))]
    simp only[o59_0,qac,TT,Nat.reduceEqDiff,↓reduceIte,qai,Int.toNat_natCast,qap l i hlt,Le.v,g,g0,h1,w,ih]
theorem i_placeOf {l:List Le} (hl:l.length≤100) (cid:Int):fin trA 711 [I cid] [qaI l]=some (0,[I (qaP cid l)],[]):=by
 have e:=qho hl cid 0 l.length 0 (by omega)
 rw[show((0:Nat):Int)=0 from rfl,List.drop_zero] at e
 refine qaa trA ?_
 show o59.go _ _ _=_
 by_cases h:∃e∈l,e.cid=cid
 ·rw[if_pos h] at e
  simp only[o59,qac,TT,Nat.reduceEqDiff,↓reduceIte,qai,e]
 ·rw[if_neg h] at e
  simp only[o59,qac,TT,Nat.reduceEqDiff,↓reduceIte,qai,e,qdz h]
theorem i_sessAt0 {l:List Se} (hl:l.length≤100) (cid x:Int):∀(n i:Nat),i+n=l.length→fin trA 842 [I cid,I x,I (l.length:Int),I i] [qax l]=some (match sessFrom cid (l.drop i) i with | some j=>(1,[I j],[]) | none=>(0,[],[]))
 | 0,i,hi=>by
  refine qaa trA ?_
  show o70_0.go _ _ _=_
  have g:¬(i:Int) < (l.length:Int):=by omega
  rw[List.drop_eq_nil_of_le (by omega)]
  simp only[o70_0,TT,Nat.reduceEqDiff,↓reduceIte,g,sessFrom]
 | n+1,i,hi=>by
  have ih:=i_sessAt0 hl cid x n (i+1) (by omega)
  have hlt:i < l.length:=by omega
  have g:(i:Int) < (l.length:Int):=by omega
  have g0:(0:Int)≤(i:Int):=by omega
  have w:=qaB (i:=i) (n:=100) (by omega) (by omega)
  refine qaa trA ?_
  show o70_0.go _ _ _=_
  rw[List.drop_eq_getElem_cons hlt,sessFrom]
  by_cases h:l[i].cid=cid
  ·rw[if_pos h]
   simp only[o70_0,qac,TT,Nat.reduceEqDiff,↓reduceIte,qad,g,g0,Int.toNat_natCast,qaq l i hlt,Se.v,h]
  ·rw[if_neg h]
   cases hf:sessFrom cid (l.drop (i+1)) (i+1) with
   | none =>
    rw[hf] at ih
    simp only[o70_0,qac,TT,Nat.reduceEqDiff,↓reduceIte,qad,g,g0,Int.toNat_natCast,qaq l i hlt,Se.v,h,w,ih]
   | some j =>
    rw[hf] at ih
    simp only[o70_0,qac,TT,Nat.reduceEqDiff,↓reduceIte,qad,g,g0,Int.toNat_natCast,qaq l i hlt,Se.v,h,w,ih]
theorem ways0_ok {r:Way} (h:r∈ways0):inB r.bits 0 8=true∧inB r.net 0 255=true∧inB r.to 0 9=true∧(0≤wr (8 - r.bits))∧∃s:Int,qbm .shl (.int .i64 1) (.int .i64 (wr (8 - r.bits)))=.int .i64 s∧¬s=0∧r.net.tmod s=0:=by
 have h:r=⟨0,0,1⟩∨r=⟨16,4,2⟩∨r=⟨24,5,3⟩∨r=⟨26,7,4⟩∨r=⟨30,8,5⟩:=by simpa [ways0] using h
 rcases h with rfl | rfl | rfl | rfl | rfl
 ·exact⟨rfl,rfl,rfl,by decide,256,rfl,by decide,by decide⟩
 ·exact⟨rfl,rfl,rfl,by decide,16,rfl,by decide,by decide⟩
 ·exact⟨rfl,rfl,rfl,by decide,8,rfl,by decide,by decide⟩
 ·exact⟨rfl,rfl,rfl,by decide,2,rfl,by decide,by decide⟩
 ·exact⟨rfl,rfl,rfl,by decide,1,rfl,by decide,by decide⟩
theorem qgb {l:List Way} (hl:l.length≤8) (z:Bool) (x2 x3 x4:Int) (i:Nat) (hi:i < l.length) (hne:∀(j:Nat) (hj:j < i),l[j].net≠l[i].net):∀(n k:Nat),k+n=i→fin trA 878 [B z,I l[i].net,I x2,I x3,I x4,I i,I 0,I i,I i,I k] [qaR l]=some (0,[],[])
 | 0,k,hk=>by
  refine qaa trA ?_
  show o73_2.go _ _ _=_
  have g:¬(k:Int) < (i:Int):=by omega
  simp only[o73_2,TT,Nat.reduceEqDiff,↓reduceIte,g]
 | n+1,k,hk=>by
  have ih:=qgb hl z x2 x3 x4 i hi hne n (k+1) (by omega)
  have hlt:k < l.length:=by omega
  have g:(k:Int) < (i:Int):=by omega
  have g0:(0:Int)≤(k:Int):=by omega
  have w:=qaB (i:=k) (n:=100) (by omega) (by omega)
  have w2:wr (0+(k:Int))=(k:Int):=by rw[qaj (by omega) (by omega)];omega
  have hn:¬l[k].net=l[i].net:=hne k (by omega)
  refine qaa trA ?_
  show o73_2.go _ _ _=_
  simp only[o73_2,qac,TT,Nat.reduceEqDiff,↓reduceIte,g,g0,w2,Int.toNat_natCast,qaD l k hlt,Way.v,hn,w,ih]
theorem qga {l:List Way} (hs:l.Sublist ways0) (z:Bool):∀(n i:Nat),i+n=l.length→fin trA 879 [B z,I (l.length:Int),I i] [qaR l]=some (0,[],[])
 | 0,i,hi=>by
  refine qaa trA ?_
  show o73_0.go _ _ _=_
  have g:¬(i:Int) < (l.length:Int):=by omega
  simp only[o73_0,TT,Nat.reduceEqDiff,↓reduceIte,g]
 | n+1,i,hi=>by
  have ih:=qga hs z n (i+1) (by omega)
  have hl:l.length≤5:=by have:=hs.length_le;simpa [ways0] using this
  have hlt:i < l.length:=by omega
  have g:(i:Int) < (l.length:Int):=by omega
  have g0:(0:Int)≤(i:Int):=by omega
  have g3:(i:Int)≤(l.length:Int):=by omega
  have w:=qaB (i:=i) (n:=100) (by omega) (by omega)
  have w0:wr ((i:Int) - 0)=(i:Int):=by rw[qaj (by omega) (by omega)];omega
  obtain⟨b1,b2,b3,b4,s,b5,b6,b7⟩:=ways0_ok (hs.subset (List.getElem_mem hlt))
  have hp0:ways0.Pairwise fun x y=>x.net≠y.net:=by decide
  have hp:l.Pairwise fun x y=>x.net≠y.net:=hp0.sublist hs
  have e2:=qgb (show l.length≤8 by omega) z l[i].bits l[i].to (l.length:Int) i hlt (fun j hj=>List.pairwise_iff_getElem.1 hp j i (by omega) hlt hj) i 0 (by omega)
  rw[show((0:Nat):Int)=0 from rfl] at e2
  refine qaa trA ?_
  show o73_0.go _ _ _=_
  simp only[o73_0,qac,TT,Nat.reduceEqDiff,↓reduceIte,qar,g,g0,Int.toNat_natCast,qaD l i hlt,Way.v,i_in,b1,b2,b3,b4,b5,b6,b7,ne_eq,not_false_eq_true,not_true_eq_false,Int.le_refl,g3,w0,e2,w,ih]
theorem i_routesOk {l:List Way} (hs:l.Sublist ways0):fin trA 880 [] [qaR l]=some (0,[B true],[]):=by
 have e:=qga hs false l.length 0 (by omega)
 rw[show((0:Nat):Int)=0 from rfl] at e
 have hl:l.length≤5:=by have:=hs.length_le;simpa [ways0] using this
 have g:(l.length:Int)≤8:=by omega
 refine qaa trA ?_
 show o73.go _ _ _=_
 simp only[o73,qac,TT,Nat.reduceEqDiff,↓reduceIte,qar,e,g]
section
variable {a:Ar} (ha:AOk a)
include ha
end
theorem i_reach0 {a:Ar} {known:List Int} (hk:known.length≤100000) (r1:Rw) (few:a.length≤3000):∀(d i:Nat) (hs:List Bool),i+d=known.length→hs.length=a.length →
  ∃hs',fin trA 1106 [I (known.length:Int),I i] [qag a,r1,qaQ hs,qak known]=some (0,[],[qaQ hs'])∧hs'.length=a.length∧(∀j,hs.getD j false=true→hs'.getD j false=true)∧(∀x∈known.drop i,0≤x→x < (a.length:Int)→hs'.getD x.toNat false=true)∧∀j,hs'.getD j false=true→hs.getD j false=true∨(j:Int)∈known.drop i
 | 0,i,hs,hi,hl=>by
  refine⟨hs,qaa trA ?_,hl,fun _ h=>h,fun x hx=>?_,fun j h=>.inl h⟩
  ·show o92_0.go _ _ _=_
   have g:¬(i:Int) < (known.length:Int):=by omega
   simp only[o92_0,TT,Nat.reduceEqDiff,↓reduceIte,g]
  ·rw[List.drop_eq_nil_of_le (by omega)] at hx;cases hx
 | d+1,i,hs,hi,hl=>by
  have hlt:i < known.length:=by omega
  have g:(i:Int) < (known.length:Int):=by omega
  have g0:(0:Int)≤(i:Int):=by omega
  have w:wr ((i:Int)+1)=((i+1:Nat):Int):=by rw[qaj (by omega) (by omega)];omega
  have e1:=i_has a known[i] (by omega)
  rw[List.drop_eq_getElem_cons hlt]
  by_cases hin:0≤known[i]∧known[i] < (a.length:Int)
  ·have hin2:known[i] < (hs.length:Int):=by rw[hl];exact hin.2
   obtain⟨hs',e,q1,q2,q3,q4⟩:=i_reach0 hk r1 few d (i+1) (qdG hs known[i]) (by omega) (by rw[qcg];exact hl)
   have hset:=qdh hs known[i]
   rw[decide_eq_true hin] at e1
   refine⟨hs',qaa trA ?_,q1,fun j h=>q2 j (by rw[qbq,h];rfl),fun x hx h0 h1=>?_,fun j h=>?_⟩
   ·show o92_0.go _ _ _=_
    simp only[o92_0,TT,Nat.reduceEqDiff,↓reduceIte,encI_len,encBo_len,g,g0,Int.toNat_natCast,qam known i hlt,e1,hin.1,hin2,hset,w,e]
   ·rcases List.mem_cons.1 hx with rfl | hx
    ·exact q2 _ (by rw[qbq];simp;omega)
    ·exact q3 x hx h0 h1
   ·rcases q4 j h with h | h
    ·rw[qbq,Bool.or_eq_true] at h
     rcases h with h | h
     ·exact .inl h
     ·simp at h
      refine .inr (List.mem_cons.2 (.inl ?_))
      rw[h.1];omega
    ·exact .inr (List.mem_cons_of_mem _ h)
  ·obtain⟨hs',e,q1,q2,q3,q4⟩:=i_reach0 hk r1 few d (i+1) hs (by omega) hl
   rw[decide_eq_false hin] at e1
   refine⟨hs',qaa trA ?_,q1,q2,fun x hx h0 h1=>?_,fun j h=>?_⟩
   ·show o92_0.go _ _ _=_
    simp only[o92_0,TT,Nat.reduceEqDiff,↓reduceIte,encI_len,encBo_len,g,g0,Int.toNat_natCast,qam known i hlt,e1,w,e]
   ·rcases List.mem_cons.1 hx with rfl | hx
    ·exact absurd ⟨h0,h1⟩ hin
    ·exact q3 x hx h0 h1
   ·rcases q4 j h with h | h
    ·exact .inl h
    ·exact .inr (List.mem_cons_of_mem _ h)
def zAt (ps:List Int) (x:Int):Int:=ps.getD x.toNat 0
theorem encI_zat (ps:List Int) {x:Int} (h0:0≤x) (h1:x < (ps.length:Int)):(qak ps).getD x.toNat []=[I (zAt ps x)]:=by
 have h:x.toNat < ps.length:=by omega
 simp[qak,zAt,List.getD_eq_getElem?_getD,List.getElem?_eq_getElem h]
structure PubZ (a:Ar) (i:Nat) (ps:List Int):Prop where
 len:ps.length=a.length
 bd:∀x∈ps,0≤x∧x < (a.length:Int)
 is:∀x:Nat,x < a.length→zAt ps x=0∨∃j:Nat,zAt ps x=j∧0 < j∧a[j]?=some ⟨6,0,x,0⟩
 all:∀(j:Nat) (x:Int),j < i→a[j]?=some ⟨6,0,x,0⟩→zAt ps x=j
structure AtomI (a:Ar) (i:Nat) (hs0 hs:List Bool):Prop where
 len:hs.length=a.length
 mono:∀j,hs0.getD j false=true→hs.getD j false=true
 all:∀(j:Nat) (hj:j < a.length),j < i→a[j].k=1→a[j].num < 1000→hs.getD j false=true
 only:∀j,hs.getD j false=true→hs0.getD j false=true∨∃hj:j < a.length,a[j].k=1∧a[j].num < 1000
theorem qfF {a:Ar} (ha:AOk a) (r1:Rw) {hs0:List Bool}:∀(d i:Nat) (hs:List Bool) (ps:List Int),i+d=a.length→PubZ a i ps→AtomI a i hs0 hs →
  ∃hs' ps',fin trA 1107 [I (a.length:Int),I i] [qag a,r1,qaQ hs,qak ps]=some (0,[],[qaQ hs',qak ps'])∧PubZ a a.length ps'∧AtomI a a.length hs0 hs'
 | 0,i,hs,ps,hi,hp,ht=>by
  refine⟨hs,ps,qaa trA ?_,by rw[show i=a.length by omega] at hp;exact hp,by rw[show i=a.length by omega] at ht;exact ht⟩
  show o92_2.go _ _ _=_
  have g:¬(i:Int) < (a.length:Int):=by omega
  simp only[o92_2,TT,Nat.reduceEqDiff,↓reduceIte,encA_len,g]
 | d+1,i,hs,ps,hi,hp,ht=>by
  have hlt:i < a.length:=by omega
  have few:=ha.few
  have hg:a[i]?=some a[i]:=List.getElem?_eq_getElem hlt
  have g:(i:Int) < (a.length:Int):=by omega
  have g0:(0:Int)≤(i:Int):=by omega
  have w:wr ((i:Int)+1)=((i+1:Nat):Int):=by rw[qaj (by omega) (by omega)];omega
  by_cases h6:a[i].k=6
  ·obtain⟨h3,h4⟩:0≤a[i].a∧a[i].a < i:=by
    rcases qbf ha hg with h | ⟨_,h⟩ | ⟨h,_⟩
    ·omega
    ·exact h
    ·omega
   have hn:=nd_pub ha hg h6
   have hlen:=hp.len
   have ga:a[i].a < (ps.length:Int):=by omega
   have hset:qbx (qak ps) a[i].a.toNat 0 [.int .i64 i]=qak (ps.modify a[i].a.toNat fun _=>(i:Int)):=by
    unfold qbx qak
    exact qbI (fun x:Int=>[I x]) _ _ (fun _=>rfl) ps a[i].a.toNat
   have hat:∀x:Int,0≤x→x < (a.length:Int)→zAt (ps.modify a[i].a.toNat fun _=>(i:Int)) x=if x=a[i].a then (i:Int) else zAt ps x:=fun x h0 h1=>by
    unfold zAt
    rw[List.getD_eq_getElem?_getD,List.getD_eq_getElem?_getD,List.getElem?_modify]
    by_cases hx:x=a[i].a
    ·rw[if_pos hx,hx,List.getElem?_eq_getElem (by omega)]
     simp
    ·have hne:¬a[i].a.toNat=x.toNat:=by omega
     rw[if_neg hx]
     simp[hne]
   have hp':PubZ a (i+1) (ps.modify a[i].a.toNat fun _=>(i:Int)):=by
    refine⟨by rw[List.length_modify];exact hp.len,fun x hx=>?_,fun x hx=>?_,fun j x hj hjx=>?_⟩
    ·rcases qey hx with h | ⟨_,rfl⟩
     ·exact hp.bd x h
     ·omega
    ·rw[hat x (by omega) (by omega)]
     split
     ·rename_i he
      refine .inr ⟨i,rfl,by omega,?_⟩
      rw[hg,hn,←he]
     ·exact hp.is x hx
    ·have hjl:j < a.length:=(List.getElem?_eq_some_iff.1 hjx).1
     obtain⟨h0,h1⟩:0≤x∧x < j:=by
      rcases qbf ha hjx with h | ⟨_,h⟩ | ⟨h,_⟩
      ·simp at h
      ·exact h
      ·simp at h
     rw[hat x h0 (by omega)]
     by_cases hx:x=a[i].a
     ·rw[if_pos hx]
      have:j=i:=ha.once j i _ hjx (by rw[hg,hn,hx])
      rw[this]
     ·rw[if_neg hx]
      refine hp.all j x ?_ hjx
      rcases Nat.lt_or_ge j i with h | h
      ·exact h
      ·have hji:j=i:=by omega
       subst hji
       rw[hg] at hjx
       cases hjx':a[j]
       rw[hjx'] at hjx hx
       simp at hjx hx
       exact absurd hjx.2.2.1.symm hx
   have ht':AtomI a (i+1) hs0 hs:=by
    refine⟨ht.len,ht.mono,fun j hj hji hk hn=>?_,ht.only⟩
    rcases Nat.lt_or_ge j i with h | h
    ·exact ht.all j hj h hk hn
    ·have hji:j=i:=by omega
     subst hji
     omega
   obtain⟨hs',ps',e,h',h''⟩:=qfF ha r1 d (i+1) hs _ (by omega) hp' ht'
   refine⟨hs',ps',qaa trA ?_,h',h''⟩
   show o92_2.go _ _ _=_
   simp only[o92_2,TT,Nat.reduceEqDiff,↓reduceIte,encA_len,encI_len,g,g0,Int.toNat_natCast,qal a i hlt,Nd.enc,h6,h3,ga,hset,w,e,Int.reduceEq]
  ·have hp':PubZ a (i+1) ps:=⟨hp.len,hp.bd,hp.is,fun j x hj hjx=>by
    rcases Nat.lt_or_ge j i with h | h
    ·exact hp.all j x h hjx
    ·have hji:j=i:=by omega
     subst hji
     rw[hg] at hjx
     cases hjx':a[j]
     rw[hjx'] at hjx h6
     simp at hjx h6
     exact absurd hjx.1 h6⟩
   by_cases hat:a[i].k=1∧a[i].num < 1000
   ·have hset:=qdh hs (i:Int)
    rw[Int.toNat_natCast] at hset
    have gi:(i:Int) < (hs.length:Int):=by rw[ht.len];exact g
    have ht':AtomI a (i+1) hs0 (qdG hs (i:Int)):=by
     refine⟨by rw[qcg];exact ht.len,fun j h=>by rw[qbq,ht.mono j h];rfl,fun j hj hji hk hn=>?_,fun j h=>?_⟩
     ·rw[qbq]
      rcases Nat.lt_or_ge j i with h | h
      ·rw[ht.all j hj h hk hn];rfl
      ·have hji:j=i:=by omega
       subst hji;simp[ht.len,hj]
     ·rw[qbq,Bool.or_eq_true] at h
      rcases h with h | h
      ·exact ht.only j h
      ·simp at h
       obtain⟨h,_⟩:=h
       subst h
       exact .inr ⟨hlt,hat⟩
    obtain⟨hs',ps',e,h',h''⟩:=qfF ha r1 d (i+1) _ ps (by omega) hp' ht'
    refine⟨hs',ps',qaa trA ?_,h',h''⟩
    show o92_2.go _ _ _=_
    simp only[o92_2,TT,Nat.reduceEqDiff,↓reduceIte,encA_len,encBo_len,g,g0,gi,Int.toNat_natCast,qal a i hlt,Nd.enc,hat.1,hat.2,hset,w,e,Int.reduceEq]
   ·have ht':AtomI a (i+1) hs0 hs:=⟨ht.len,ht.mono,fun j hj hji hk hn=>by
     rcases Nat.lt_or_ge j i with h | h
     ·exact ht.all j hj h hk hn
     ·have hji:j=i:=by omega
      subst hji;exact absurd ⟨hk,hn⟩ hat,ht.only⟩
    obtain⟨hs',ps',e,h',h''⟩:=qfF ha r1 d (i+1) hs ps (by omega) hp' ht'
    refine⟨hs',ps',qaa trA ?_,h',h''⟩
    show o92_2.go _ _ _=_
    by_cases h1:a[i].k=1
    ·have h2:¬a[i].num < 1000:=fun h=>hat ⟨h1,h⟩
     simp only[o92_2,TT,Nat.reduceEqDiff,↓reduceIte,encA_len,g,g0,Int.toNat_natCast,qal a i hlt,Nd.enc,h1,h2,w,e,Int.reduceEq]
    ·simp only[o92_2,TT,Nat.reduceEqDiff,↓reduceIte,encA_len,g,g0,Int.toNat_natCast,qal a i hlt,Nd.enc,h6,h1,w,e]
def zNo (ps:List Int):List Int:=ps.map fun x=>if x=0 then -1 else x
theorem zNo_at {ps:List Int} {x:Int} (h0:0≤x) (h1:x < (ps.length:Int)):qfb (zNo ps) x=if zAt ps x=0 then -1 else zAt ps x:=by
 have h:x.toNat < ps.length:=by omega
 simp[qfb,zAt,zNo,List.getD_eq_getElem?_getD,List.getElem?_eq_getElem h]
theorem PubZ.no {a:Ar} (ha:AOk a) {ps:List Int} (h:PubZ a a.length ps):PubI a a.length (zNo ps) where
 len:=by rw[zNo,List.length_map];exact h.len
 bd x hx:=by
  obtain⟨y,hy,rfl⟩:=List.mem_map.1 hx
  have:=h.bd y hy
  by_cases h0:y=0
  ·exact .inl (by simp[h0])
  ·exact .inr ⟨y.toNat,by simp[h0];omega,by omega⟩
 is x hx:=by
  rw[zNo_at (by omega) (by rw[h.len];omega)]
  rcases h.is x hx with h1 | ⟨j,h1,h2,h3⟩
  ·exact .inl (by rw[if_pos h1])
  ·exact .inr ⟨j,by rw[if_neg (by omega)];exact h1,h3⟩
 all j x hj hjx:=by
  have h1:=h.all j x hj hjx
  have hx:0≤x∧x < j:=by
   rcases qbf ha hjx with h | ⟨_,h⟩ | ⟨h,_⟩
   ·simp at h
   ·exact h
   ·simp at h
  rw[zNo_at hx.1 (by rw[h.len];omega),h1,if_neg (by omega)]
theorem madeB_one {hs:List Bool} {ps:List Int} {n:Nd} (h:n.k=1):qcU hs ps n=decide (n.num < 1000):=by unfold qcU;rw[if_pos h]
theorem i_canMake {a:Ar} (ha:AOk a) {hs:List Bool} {ps:List Int} (h1:hs.length=a.length) (hp:PubZ a a.length ps) {k:Nat} (hk:k < a.length) :
  fin trA 1850 [I a[k].k,I a[k].num,I a[k].a,I a[k].b] [qaQ hs,qak ps]=some (0,[B (if a[k].k=1 then false else qcU hs (zNo ps) a[k])],[]):=by
 have hg:a[k]?=some a[k]:=List.getElem?_eq_getElem hk
 have h2:=hp.len
 refine qaa trA ?_
 show o154.go _ _ _=_
 unfold qcU
 rcases qbf ha hg with h | ⟨h,h3,h4⟩ | ⟨h,⟨h3,h4⟩,h5,h6⟩
 ·simp only[o154,TT,Nat.reduceEqDiff,↓reduceIte,h]
 ·have ga:a[k].a < (hs.length:Int):=by omega
  have q1:=qaO hs h3 ga
  rcases h with h | h<;>simp only[o154,TT,Nat.reduceEqDiff,↓reduceIte,encBo_len,h,h3,ga,q1,Int.reduceEq]
 ·have ga:a[k].a < (hs.length:Int):=by omega
  have gb:a[k].b < (hs.length:Int):=by omega
  have pa:a[k].a < (ps.length:Int):=by omega
  have pb:a[k].b < (ps.length:Int):=by omega
  have q1:=qaO hs h3 ga
  have q2:=qaO hs h5 gb
  have q3:=encI_zat ps h3 pa
  have q4:=encI_zat ps h5 pb
  have n1:¬a[k].k=1:=by omega
  have n3:¬a[k].k=3:=by omega
  have n6:¬a[k].k=6:=by omega
  by_cases h7:a[k].k=7
  ·have za:=zNo_at h3 pa
   have zb:=zNo_at h5 pb
   have bd:∀x:Int,0≤x→x < (ps.length:Int)→0≤zAt ps x∧zAt ps x < (hs.length:Int):=fun x h0 hx=>by
    have h:x.toNat < ps.length:=by omega
    have:zAt ps x∈ps:=by
     unfold zAt
     rw[List.getD_eq_getElem?_getD,List.getElem?_eq_getElem h]
     exact List.getElem_mem h
    have:=hp.bd _ this
    omega
   obtain⟨ba0,ba⟩:=bd _ h3 pa
   obtain⟨bb0,bb⟩:=bd _ h5 pb
   have q5:=qaO hs ba0 ba
   have q6:=qaO hs bb0 bb
   rw[za,zb]
   by_cases ca:zAt ps a[k].a=0<;>by_cases cb:zAt ps a[k].b=0
   ·have ca':¬(0:Int) < 0:=by omega
    have m1:¬(0:Int)≤-1:=by omega
    cases xa:hasAt hs a[k].a<;>cases xb:hasAt hs a[k].b <;>
    simp only[o154,TT,Nat.reduceEqDiff,↓reduceIte,encBo_len,encI_len,h7,h3,h5,ga,gb,pa,pb,q1,q2,q3,q4,q5,q6,Int.reduceEq,ca,cb,ca',xa,xb,m1,Bool.true_and,Bool.false_and,Bool.and_true,Bool.and_false,Bool.or_true,Bool.true_or,Bool.or_false,Bool.false_or]
   ·have ca':¬(0:Int) < 0:=by omega
    have m1:¬(0:Int)≤-1:=by omega
    have cb':0 < zAt ps a[k].b:=by omega
    cases xa:hasAt hs a[k].a<;>cases xb:hasAt hs a[k].b<;>cases yb:hasAt hs (zAt ps a[k].b) <;>
    simp only[o154,TT,Nat.reduceEqDiff,↓reduceIte,encBo_len,encI_len,h7,h3,h5,ga,gb,pa,pb,q1,q2,q3,q4,q5,q6,Int.reduceEq,ca,cb,ca',cb',bb0,bb,xa,xb,yb,m1,Bool.true_and,Bool.false_and,Bool.and_true,Bool.and_false,Bool.or_true,Bool.true_or,Bool.or_false,Bool.false_or]
   ·have cb':¬(0:Int) < 0:=by omega
    have m1:¬(0:Int)≤-1:=by omega
    have ca':0 < zAt ps a[k].a:=by omega
    cases xa:hasAt hs a[k].a<;>cases xb:hasAt hs a[k].b<;>cases ya:hasAt hs (zAt ps a[k].a) <;>
    simp only[o154,TT,Nat.reduceEqDiff,↓reduceIte,encBo_len,encI_len,h7,h3,h5,ga,gb,pa,pb,q1,q2,q3,q4,q5,q6,Int.reduceEq,ca,cb,ca',cb',ba0,ba,xa,xb,ya,m1,Bool.true_and,Bool.false_and,Bool.and_true,Bool.and_false,Bool.or_true,Bool.true_or,Bool.or_false,Bool.false_or]
   ·have ca':0 < zAt ps a[k].a:=by omega
    have cb':0 < zAt ps a[k].b:=by omega
    cases xa:hasAt hs a[k].a<;>cases xb:hasAt hs a[k].b<;>cases ya:hasAt hs (zAt ps a[k].a)<;>cases yb:hasAt hs (zAt ps a[k].b) <;>
    simp only[o154,TT,Nat.reduceEqDiff,↓reduceIte,encBo_len,encI_len,h7,h3,h5,ga,gb,pa,pb,q1,q2,q3,q4,q5,q6,Int.reduceEq,ca,cb,ca',cb',ba0,ba,bb0,bb,xa,xb,ya,yb,Bool.true_and,Bool.false_and,Bool.and_true,Bool.and_false,Bool.or_true,Bool.true_or,Bool.or_false,Bool.false_or]
  ·cases xa:hasAt hs a[k].a <;>
   simp only[o154,TT,Nat.reduceEqDiff,↓reduceIte,encBo_len,h7,n1,n3,n6,h3,h5,ga,gb,q1,q2,xa,Bool.true_and,Bool.false_and]
def outL (hs:List Bool) (n:Nd):List Int:=if n.k=2 then [n.a,n.b] else if n.k=8 then [n.b] else if n.k=5 then (if hasAt hs n.a=true then [n.b] else []) else []
theorem i_partsOut {a:Ar} (ha:AOk a) {hs:List Bool} (h1:hs.length=a.length) {k:Nat} (hk:k < a.length) :
  fin trA 1862 [I a[k].k,I a[k].num,I a[k].a,I a[k].b,I k] [qaQ hs]=some (0,[],[qak (if hasAt hs (k:Int)=true then outL hs a[k] else [])]):=by
 have hg:a[k]?=some a[k]:=List.getElem?_eq_getElem hk
 have g0:(0:Int)≤(k:Int):=by omega
 have g1:(k:Int) < (hs.length:Int):=by omega
 have q0:=qaO hs g0 g1
 rw[Int.toNat_natCast] at q0
 refine qaa trA ?_
 show o155.go _ _ _=_
 cases xk:hasAt hs (k:Int) with
 | false=>simp only[o155,TT,Nat.reduceEqDiff,↓reduceIte,encBo_len,g0,g1,Int.toNat_natCast,q0,xk];rfl
 | true =>
  unfold outL
  rcases qbf ha hg with h | ⟨h,h3,h4⟩ | ⟨h,⟨h3,h4⟩,h5,h6⟩
  ·simp only[o155,TT,Nat.reduceEqDiff,↓reduceIte,encBo_len,g0,g1,Int.toNat_natCast,q0,xk,h,Int.reduceEq];rfl
  ·rcases h with h | h<;>(simp only[o155,TT,Nat.reduceEqDiff,↓reduceIte,encBo_len,g0,g1,Int.toNat_natCast,q0,xk,h,Int.reduceEq];rfl)
  ·have ga:a[k].a < (hs.length:Int):=by omega
   have q1:=qaO hs h3 ga
   cases xa:hasAt hs a[k].a<;>rcases h with h | h | h | h | h | h <;>
   (simp only[o155,TT,Nat.reduceEqDiff,↓reduceIte,encBo_len,g0,g1,Int.toNat_natCast,q0,q1,xk,xa,h,h3,ga,Int.reduceEq];rfl)
def qgV (p:Bool × List Bool) (x:Int):Bool × List Bool:=(p.1||!hasAt p.2 x,qdG p.2 x)
theorem qfH {L:List Int} (hl:L.length≤100) (x1 x2:Int) (r0 r1 r3:Rw) {n:Nat} (hL:∀x∈L,0≤x∧x < (n:Int)):∀(d i:Nat) (m:Bool) (hs:List Bool),i+d=L.length→hs.length=n →
  fin trA 1108 [B m,I x1,I x2,I (L.length:Int),I i] [r0,r1,qaQ hs,r3,qak L]=some (0,[B ((L.drop i).foldl qgV (m,hs)).1],[qaQ ((L.drop i).foldl qgV (m,hs)).2])
 | 0,i,m,hs,hi,hn=>by
  refine qaa trA ?_
  show o92_8.go _ _ _=_
  have g:¬(i:Int) < (L.length:Int):=by omega
  rw[List.drop_eq_nil_of_le (by omega)]
  simp only[o92_8,TT,Nat.reduceEqDiff,↓reduceIte,g,List.foldl_nil]
 | d+1,i,m,hs,hi,hn=>by
  have hlt:i < L.length:=by omega
  have g:(i:Int) < (L.length:Int):=by omega
  have g0:(0:Int)≤(i:Int):=by omega
  have w:=qaB (i:=i) (n:=1000) (by omega) (by omega)
  have hb:=hL _ (List.getElem_mem hlt)
  have hb2:L[i] < (hs.length:Int):=by rw[hn];exact hb.2
  have q1:=qaO hs hb.1 hb2
  have hset:=qdh hs L[i]
  refine qaa trA ?_
  show o92_8.go _ _ _=_
  rw[List.drop_eq_getElem_cons hlt,List.foldl_cons]
  cases hx:hasAt hs L[i] with
  | true =>
   have ih:=qfH hl x1 x2 r0 r1 r3 hL d (i+1) m hs (by omega) hn
   have e:qgV (m,hs) L[i]=(m,hs):=by simp[qgV,hx,qfY hx]
   rw[e]
   simp only[o92_8,TT,Nat.reduceEqDiff,↓reduceIte,encI_len,encBo_len,g,g0,Int.toNat_natCast,qam L i hlt,hb.1,hb2,q1,hx,w,ih]
  | false =>
   have ih:=qfH hl x1 x2 r0 r1 r3 hL d (i+1) true (qdG hs L[i]) (by omega) (by rw[qcg];exact hn)
   have e:qgV (m,hs) L[i]=(true,qdG hs L[i]):=by simp[qgV,hx]
   rw[e]
   simp only[o92_8,TT,Nat.reduceEqDiff,↓reduceIte,encI_len,encBo_len,g,g0,Int.toNat_natCast,qam L i hlt,hb.1,hb2,q1,hx,hset,w,ih]
theorem out_parts (hs:List Bool) (n:Nd) (m:Bool):(outL hs n).foldl qgV (m,hs)=((qaU hs n).2||m,(qaU hs n).1):=by
 unfold outL qaU
 by_cases h2:n.k=2
 ·rw[if_pos h2,if_pos h2]
  simp only[List.foldl_cons,List.foldl_nil,qgV]
  cases ha:hasAt hs n.a with
  | true=>rw[qfY ha];cases m<;>simp
  | false=>cases m<;>simp
 rw[if_neg h2,if_neg h2]
 by_cases h8:n.k=8
 ·rw[if_pos h8,if_pos h8]
  simp only[List.foldl_cons,List.foldl_nil,qgV]
  cases m<;>simp
 rw[if_neg h8,if_neg h8]
 by_cases h5:n.k=5
 ·rw[if_pos h5,if_pos h5]
  cases ha:hasAt hs n.a with
  | true=>simp only[if_true,List.foldl_cons,List.foldl_nil,qgV];cases m<;>simp
  | false=>simp
 ·rw[if_neg h5,if_neg h5]
  simp
theorem outL_bd {a:Ar} (ha:AOk a) (hs:List Bool) {k:Nat} (hk:k < a.length):(outL hs a[k]).length≤2∧∀x∈outL hs a[k],0≤x∧x < (a.length:Int):=by
 have hg:a[k]?=some a[k]:=List.getElem?_eq_getElem hk
 unfold outL
 rcases qbf ha hg with h | ⟨h,h3,h4⟩ | ⟨h,⟨h3,h4⟩,h5,h6⟩
 ·simp[h]
 ·rcases h with h | h<;>simp[h]
 ·split
  ·refine⟨by simp,fun x hx=>?_⟩
   simp at hx
   omega
  ·split
   ·refine⟨by simp,fun x hx=>?_⟩
    simp at hx
    omega
   ·split
    ·split
     ·refine⟨by simp,fun x hx=>?_⟩
      simp at hx
      omega
     ·simp
    ·simp
section
variable {a:Ar} (ha:AOk a) {ps:List Int} (hp:PubZ a a.length ps)
include ha hp
theorem i_round {hs:List Bool} (h1:hs.length=a.length) (m:Bool) (r1:Rw) {k:Nat} (hk:k < a.length) :
  ∃L:List Int,fin trA 1862 [I a[k].k,I a[k].num,I a[k].a,I a[k].b,I k] [qaQ hs]=some (0,[],[qak L]) ∧
   fin trA 1108 [B m,I (a.length:Int),I k,I (L.length:Int),I 0] [qag a,r1,qaQ hs,qak ps,qak L]=some (0,[B (if hasAt hs (k:Int)=true then (qaU hs a[k]).2||m else m)],[qaQ (if hasAt hs (k:Int)=true then (qaU hs a[k]).1 else hs)]):=by
 have e1:=i_partsOut ha h1 hk
 obtain⟨b1,b2⟩:=outL_bd ha hs hk
 cases hx:hasAt hs (k:Int) with
 | true =>
  rw[hx,if_pos rfl] at e1
  refine⟨_,e1,?_⟩
  have e2:=qfH (L:=outL hs a[k]) (by omega) a.length k (qag a) r1 (qak ps) (n:=a.length) b2 _ 0 m hs (Nat.zero_add _) h1
  rw[List.drop_zero,out_parts] at e2
  exact e2
 | false =>
  rw[hx,if_neg (by simp)] at e1
  refine⟨_,e1,?_⟩
  have e2:=qfH (L:=[]) (by simp) a.length k (qag a) r1 (qak ps) (n:=a.length) (by simp) 0 0 m hs rfl h1
  exact e2
theorem qeO (r1:Rw):∀(d k:Nat) (hs:List Bool) (s:Bool),hs.length=a.length→k+d=a.length →
  ∃hs' s',fin trA 1109 [B s,I (a.length:Int),I k] [qag a,r1,qaQ hs,qak ps]=some (0,[B s'],[qaQ hs'])∧Grow a (zNo ps) hs hs'∧qcO hs'≤qcO hs∧(s'=true→s=true∨qcO hs' < qcO hs) ∧
   (s'=false→s=false∧hs'=hs∧∀j (hj:j < a.length),k≤j→(hs.getD j false=false→a[j].k=1∨qcU hs (zNo ps) a[j]=false)∧(hs.getD j false=true→(qaU hs a[j]).2=false))
 | 0,k,hs,s,h1,hk=>by
  refine⟨hs,s,qaa trA ?_,.refl hs,Nat.le_refl _,fun h=>.inl h,fun h=>⟨h,rfl,fun j hj hkj=>by omega⟩⟩
  show o92_6.go _ _ _=_
  have g:¬(k:Int) < (a.length:Int):=by omega
  simp only[o92_6,TT,Nat.reduceEqDiff,↓reduceIte,g]
 | d+1,k,hs,s,h1,hk=>by
  have hlt:k < a.length:=by omega
  have few:=ha.few
  have g:(k:Int) < (a.length:Int):=by omega
  have g1:(k:Int) < (hs.length:Int):=by omega
  have g0:(0:Int)≤(k:Int):=by omega
  have w:wr ((k:Int)+1)=((k+1:Nat):Int):=by rw[qaj (by omega) (by omega)];omega
  have q1:=qaO hs g0 g1
  have hx:hasAt hs (k:Int)=hs.getD k false:=by unfold hasAt;rw[Int.toNat_natCast]
  have hsr:=qdh hs (k:Int)
  rw[Int.toNat_natCast] at q1 hsr
  have eA:=qal a k hlt
  cases xk:hasAt hs (k:Int) with
  | true =>
   obtain⟨l1,cn1,cn2,cn3,cn4⟩:=qgx ha h1 hlt
   have gp:Grow a (zNo ps) hs (qaU hs a[k]).1:=⟨l1,cn4,fun P c q j hj=>c.parts hs k hlt q (by rw[←hx];exact xk) j hj⟩
   obtain⟨L,e1,e2⟩:=i_round ha hp h1 s r1 hlt
   rw[xk,if_pos rfl,if_pos rfl] at e2
   cases pk:(qaU hs a[k]).2 with
   | true =>
    obtain⟨hs',s',e,gr,c1,c2,c3⟩:=qeO r1 d (k+1) (qaU hs a[k]).1 true (by omega) (by omega)
    have:=cn2 pk
    rw[pk,Bool.true_or] at e2
    refine⟨hs',s',qaa trA ?_,gp.trans gr,by omega,fun _=>.inr (by omega),fun q=>absurd (c3 q).1 (by simp)⟩
    show o92_6.go _ _ _=_
    simp only[o92_6,TT,Nat.reduceEqDiff,↓reduceIte,encA_len,encBo_len,encI_len,g,g0,g1,Int.toNat_natCast,eA,Nd.enc,q1,xk,e1,e2,w,e]
   | false =>
    rw[pk,Bool.false_or,cn3 pk] at e2
    obtain⟨hs',s',e,gr,c1,c2,c3⟩:=qeO r1 d (k+1) hs s h1 (by omega)
    refine⟨hs',s',qaa trA ?_,gr,c1,c2,fun q=>?_⟩
    ·show o92_6.go _ _ _=_
     simp only[o92_6,TT,Nat.reduceEqDiff,↓reduceIte,encA_len,encBo_len,encI_len,g,g0,g1,Int.toNat_natCast,eA,Nd.enc,q1,xk,e1,e2,w,e]
    ·obtain⟨p1,p2,p3⟩:=c3 q
     refine⟨p1,p2,fun j hj hkj=>?_⟩
     by_cases hjk:j=k
     ·subst hjk
      refine⟨fun hf=>?_,fun _=>pk⟩
      rw[←hx,xk] at hf;cases hf
     ·exact p3 j hj (by omega)
  | false =>
   have e3:=i_canMake ha h1 hp hlt
   cases mk:(if a[k].k=1 then false else qcU hs (zNo ps) a[k]) with
   | true =>
    have mk':qcU hs (zNo ps) a[k]=true:=by
     split at mk
     ·cases mk
     ·exact mk
    have hc:=(setT_cnt hs (k:Int)).2 xk (by rw[Int.toNat_natCast];omega)
    have h1':(qdG hs (k:Int)).length=a.length:=by rw[qcg];exact h1
    obtain⟨l1,cn1,cn2,cn3,cn4⟩:=qgx ha h1' hlt
    have hk':hasAt (qdG hs (k:Int)) (k:Int)=true:=by
     unfold hasAt
     rw[Int.toNat_natCast,qbq]
     simp[h1,hlt]
    have gs:Grow a (zNo ps) hs (qdG hs (k:Int)):=⟨qcg _ _,fun j q=>by rw[qbq,q];rfl,fun P c q j hj=>by
     rw[qbq,Bool.or_eq_true] at hj
     rcases hj with hj | hj
     ·exact q j hj
     ·simp at hj
      rw[hj.1]
      exact c.made hs k hlt q mk'⟩
    have gp:Grow a (zNo ps) (qdG hs (k:Int)) (qaU (qdG hs (k:Int)) a[k]).1:=⟨l1,cn4,fun P c q j hj=>c.parts _ k hlt q (by unfold hasAt at hk';rw[Int.toNat_natCast] at hk';exact hk') j hj⟩
    obtain⟨L,e1,e2⟩:=i_round ha hp h1' true r1 hlt
    rw[hk',if_pos rfl,if_pos rfl,Bool.or_true] at e2
    obtain⟨hs',s',e,gr,c1,c2,c3⟩:=qeO r1 d (k+1) (qaU (qdG hs (k:Int)) a[k]).1 true (by omega) (by omega)
    refine⟨hs',s',qaa trA ?_,gs.trans (gp.trans gr),by omega,fun _=>.inr (by omega),fun q=>absurd (c3 q).1 (by simp)⟩
    show o92_6.go _ _ _=_
    rw[mk] at e3
    simp only[o92_6,TT,Nat.reduceEqDiff,↓reduceIte,encA_len,encBo_len,encI_len,g,g0,g1,Int.toNat_natCast,eA,Nd.enc,q1,xk,e3,hsr,e1,e2,w,e]
   | false =>
    obtain⟨L,e1,e2⟩:=i_round ha hp h1 s r1 hlt
    rw[xk,if_neg (by simp),if_neg (by simp)] at e2
    obtain⟨hs',s',e,gr,c1,c2,c3⟩:=qeO r1 d (k+1) hs s h1 (by omega)
    refine⟨hs',s',qaa trA ?_,gr,c1,c2,fun q=>?_⟩
    ·show o92_6.go _ _ _=_
     rw[mk] at e3
     simp only[o92_6,TT,Nat.reduceEqDiff,↓reduceIte,encA_len,encBo_len,encI_len,g,g0,g1,Int.toNat_natCast,eA,Nd.enc,q1,xk,e3,e1,e2,w,e]
    ·obtain⟨p1,p2,p3⟩:=c3 q
     refine⟨p1,p2,fun j hj hkj=>?_⟩
     by_cases hjk:j=k
     ·subst hjk
      refine⟨fun _=>?_,fun hf=>?_⟩
      ·split at mk
       ·rename_i h;exact .inl h
       ·exact .inr mk
      ·rw[←hx,xk] at hf;cases hf
     ·exact p3 j hj (by omega)
def FullZ (a:Ar) (ps:List Int) (hs:List Bool):Prop:=∀j (hj:j < a.length),(hs.getD j false=false→a[j].k=1∨qcU hs ps a[j]=false)∧(hs.getD j false=true→(qaU hs a[j]).2=false)
theorem i_reach4_end (r1:Rw) (hs:List Bool):fin trA 1110 [B false] [qag a,r1,qaQ hs,qak ps]=some (0,[],[qaQ hs]):=by
 refine qaa trA ?_
 show o92_4.go _ _ _=_
 simp only[o92_4,TT,Nat.reduceEqDiff,↓reduceIte]
theorem i_reach4 (r1:Rw):∀(n:Nat) (hs:List Bool),qcO hs≤n→hs.length=a.length→∃hs',fin trA 1110 [B true] [qag a,r1,qaQ hs,qak ps]=some (0,[],[qaQ hs'])∧Grow a (zNo ps) hs hs'∧FullZ a (zNo ps) hs':=by
 intro n
 induction n using Nat.strongRecOn with
 | ind n ih =>
  intro hs hn h1
  obtain⟨h6,s6,e6,g6,b1,b2,b3⟩:=qeO ha hp r1 a.length 0 hs false h1 (by omega)
  rw[show((0:Nat):Int)=0 from rfl] at e6
  have step:∀R,fin trA 1110 [B s6] [qag a,r1,qaQ h6,qak ps]=some (0,[],[R])→fin trA 1110 [B true] [qag a,r1,qaQ hs,qak ps]=some (0,[],[R]):=fun R e=>by
   refine qaa trA ?_
   show o92_4.go _ _ _=_
   simp only[o92_4,TT,Nat.reduceEqDiff,↓reduceIte,encA_len,e6,e]
  cases s6 with
  | false =>
   obtain⟨p1,p2,p3⟩:=b3 rfl
   refine⟨h6,step _ (i_reach4_end ha hp r1 h6),g6,?_⟩
   rw[p2]
   exact fun j hj=>p3 j hj (Nat.zero_le _)
  | true =>
   have hlt:qcO h6 < qcO hs:=by
    rcases b2 rfl with h | h
    ·cases h
    ·exact h
   obtain⟨h',e,g,f⟩:=ih (qcO h6) (by omega) h6 (Nat.le_refl _) (by rw[g6.len];exact h1)
   exact⟨h',step _ e,g6.trans g,f⟩
end
theorem i_reach {a:Ar} (ha:AOk a) (hao:fin trA 1142 [] [qag a]=some (0,[B true],[])) {known:List Int} (hk:known.length≤100000):∃ps hs,fin trA 1111 [] [qag a,qak known]=some (0,[],[qaQ hs])∧Had a known ps hs:=by
 have few:=ha.few
 obtain⟨h0,e1,l0,m0,k0,s0⟩:=i_reach0 (a:=a) hk [] few known.length 0 (List.replicate a.length false) (by omega) (by simp)
 rw[show((0:Nat):Int)=0 from rfl,List.drop_zero] at *
 have z0:PubZ a 0 (List.replicate a.length 0):=by
  refine⟨by simp,fun x hx=>?_,fun x hx=>.inl ?_,fun j x hj=>by omega⟩
  ·obtain⟨h1,h2⟩:=List.mem_replicate.1 hx
   omega
  ·unfold zAt
   simp[List.getD_eq_getElem?_getD,List.getElem?_replicate,hx]
 have t0:AtomI a 0 h0 h0:=⟨l0,fun _ h=>h,fun j hj h=>by omega,fun _ h=>.inl h⟩
 obtain⟨h2,ps,e2,z2,t2⟩:=qfF ha [] a.length 0 h0 _ (by omega) z0 t0
 rw[show((0:Nat):Int)=0 from rfl] at e2
 obtain⟨hs,e3,g3,f3⟩:=i_reach4 ha z2 [] (qcO h2) h2 (Nat.le_refl _) t2.len
 refine⟨zNo ps,hs,qaa trA ?_,PubZ.no ha z2,by rw[g3.len];exact t2.len,fun x hx h0 h1=>g3.mono _ (t2.mono _ (k0 x hx h0 h1)),⟨fun j hj hf=>?_,fun j hj hf=>(f3 j hj).2 hf⟩,fun P c hP=>g3.least P c fun j hj=>?_⟩
 ·show o92.go _ _ _=_
  have g0:(0:Int)≤(a.length:Int):=by omega
  have g1:(a.length:Int)≤100000000:=by omega
  have hrep:List.replicate a.length [Value.bool false]=qaQ (List.replicate a.length false):=by simp[qaQ]
  have hrep2:List.replicate a.length [Value.int .i64 0]=qak (List.replicate a.length 0):=by simp[qak]
  simp only[o92,TT,Nat.reduceEqDiff,↓reduceIte,hao,encA_len,encI_len,g0,g1,Int.toNat_natCast,hrep,hrep2,e1,e2,e3]
 ·rcases (f3 j hj).1 hf with h | h
  ·rw[madeB_one h]
   refine decide_eq_false fun hn=>?_
   have:=g3.mono _ (t2.all j hj hj h hn)
   rw[this] at hf;cases hf
  ·exact h
 ·rcases t2.only j hj with h | ⟨hjl,h1,h2⟩
  ·rcases s0 j h with h | h
   ·simp[List.getD_eq_getElem?_getD,List.getElem?_replicate] at h
    split at h<;>simp at h
   ·exact hP j h
  ·exact c.made [] j hjl (fun i hi=>by simp at hi) (by rw[madeB_one h1];exact decide_eq_true h2)
theorem madeB_mono {hs hs':List Bool} {N:Nat} (m:∀x:Int,0≤x→x < (N:Int)→hasAt hs x=true→hasAt hs' x=true) {ps:List Int} (hp:∀x:Int,0≤x→x < (N:Int)→qfb ps x < (N:Int)) {n:Nd}
  (hn:n.k=1∨((n.k=3∨n.k=6)∧0≤n.a∧n.a < N)∨((n.k=2∨n.k=4∨n.k=5∨n.k=7∨n.k=8∨n.k=9)∧(0≤n.a∧n.a < N)∧0≤n.b∧n.b < N)) (k:qcU hs ps n=true):qcU hs' ps n=true:=by
 unfold qcU at k ⊢
 rcases hn with c | ⟨c,c3,c4⟩ | ⟨c,⟨c3,c4⟩,c5,c6⟩
 ·rw[if_pos c] at k ⊢;exact k
 ·rcases c with c | c<;>(simp only[c,Int.reduceEq,if_true,if_false] at k ⊢;exact m _ c3 c4 k)
 ·have g1:¬n.k=1:=by omega
  have g3:¬n.k=3:=by omega
  have g6:¬n.k=6:=by omega
  rw[if_neg g1,if_neg g3,if_neg g6] at k ⊢
  split
  ·rename_i c7
   rw[if_pos c7] at k
   simp only[Bool.or_eq_true,Bool.and_eq_true,decide_eq_true_eq] at k ⊢
   rcases k with ⟨k1,k2,k3⟩ | ⟨k1,k2,k3⟩
   ·exact .inl ⟨m _ c3 c4 k1,k2,m _ k2 (hp _ c5 c6) k3⟩
   ·exact .inr ⟨m _ c5 c6 k1,k2,m _ k2 (hp _ c3 c4) k3⟩
  ·rename_i c7
   rw[if_neg c7] at k
   simp only[Bool.and_eq_true] at k ⊢
   exact⟨m _ c3 c4 k.1,m _ c5 c6 k.2⟩
theorem parts_sub {hs:List Bool} {n:Nd} {j:Nat} (h:(qaU hs n).1.getD j false=true):hs.getD j false=true∨(n.k=2∧(j=n.a.toNat∨j=n.b.toNat))∨(n.k=8∧j=n.b.toNat)∨(n.k=5∧hasAt hs n.a=true∧j=n.b.toNat):=by
 unfold qaU at h
 split at h
 ·rename_i c
  simp only[qbq,Bool.or_eq_true,Bool.and_eq_true,decide_eq_true_eq] at h
  rcases h with (h | h) | h
  ·exact .inl h
  ·exact .inr (.inl ⟨c,.inl h.1⟩)
  ·exact .inr (.inl ⟨c,.inr h.1⟩)
 ·split at h
  ·rename_i c
   simp only[qbq,Bool.or_eq_true,Bool.and_eq_true,decide_eq_true_eq] at h
   rcases h with h | h
   ·exact .inl h
   ·exact .inr (.inr (.inl ⟨c,h.1⟩))
  ·split at h
   ·rename_i c
    split at h
    ·rename_i q
     simp only[qbq,Bool.or_eq_true,Bool.and_eq_true,decide_eq_true_eq] at h
     rcases h with h | h
     ·exact .inl h
     ·exact .inr (.inr (.inr ⟨c,q,h.1⟩))
    ·exact .inl h
   ·exact .inl h
theorem parts_all {hs:List Bool} {n:Nd} (h:(qaU hs n).2=false):(n.k=2→hasAt hs n.a=true∧hasAt hs n.b=true)∧(n.k=8→hasAt hs n.b=true)∧(n.k=5→hasAt hs n.a=true→hasAt hs n.b=true):=by
 unfold qaU at h
 split at h
 ·rename_i c
  simp at h
  exact⟨fun _=>h,fun q=>by omega,fun q=>by omega⟩
 ·rename_i c2
  split at h
  ·rename_i c
   simp at h
   exact⟨fun q=>by omega,fun _=>h,fun q=>by omega⟩
  ·rename_i c8
   split at h
   ·refine⟨fun q=>absurd q c2,fun q=>absurd q c8,fun _ q=>?_⟩
    rw[if_pos q] at h
    simpa using h
   ·rename_i c5
    exact⟨fun q=>absurd q c2,fun q=>absurd q c8,fun q=>absurd q c5⟩
theorem pubI_same {a:Ar} {ps ps':List Int} (h:PubI a a.length ps) (h':PubI a a.length ps') {x:Int} (h0:0≤x) (h1:x < (a.length:Int)):qfb ps x=qfb ps' x:=by
 obtain⟨n,rfl⟩:∃n:Nat,x=n:=⟨x.toNat,by omega⟩
 have hn:n < a.length:=by omega
 rcases h.is n hn with e | ⟨j,e,hj⟩
 ·rcases h'.is n hn with e' | ⟨j',e',hj'⟩
  ·rw[e,e']
  ·have:=h.all j' n (List.getElem?_eq_some_iff.1 hj').1 hj'
   rw[e',this]
 ·have:=h'.all j n (List.getElem?_eq_some_iff.1 hj).1 hj
  rw[e,this]
theorem Had.sub {a:Ar} (ha:AOk a) {known ps ps':List Int} {hs hs':List Bool} (h:Had a known ps hs) (h':Had a known ps' hs'):∀j,hs.getD j false=true→hs'.getD j false=true:=by
 intro j hj
 have hjl:j < a.length:=by
  rcases Nat.lt_or_ge j a.length with q | q
  ·exact q
  ·rw[List.getD_eq_getElem?_getD,List.getElem?_eq_none (by rw[h.len];exact q)] at hj
   cases hj
 refine h.least (fun j=>j < a.length→hs'.getD j false=true) ⟨fun q k hk hq hm _=>?_,fun q k hk hq hqk j hj hjl=>?_⟩ (fun j hj hjl=>?_) j hj hjl
 ·have hg:a[k]?=some a[k]:=List.getElem?_eq_getElem hk
  cases hx:hs'.getD k false with
  | true=>rfl
  | false =>
   have e1:=h'.full.1 k hk hx
   have hn:=qbf ha hg
   have e2:=madeB_mono (N:=a.length) (hs':=hs') (fun x h0 h1 q=>hq _ q (by omega)) (fun x h0 h1=>psAt_bd (fun y hy=>by
    rcases h.pubs.bd y hy with q | ⟨i,q,hi⟩<;>omega) x) (by
    rcases hn with c | ⟨c,c3,c4⟩ | ⟨c,⟨c3,c4⟩,c5,c6⟩
    ·exact .inl c
    ·exact .inr (.inl ⟨c,c3,by omega⟩)
    ·exact .inr (.inr ⟨c,⟨c3,by omega⟩,c5,by omega⟩)) hm
   have e3:qcU hs' ps a[k]=qcU hs' ps' a[k]:=by
    unfold qcU
    rcases hn with c | ⟨c,c3,c4⟩ | ⟨c,⟨c3,c4⟩,c5,c6⟩
    ·rw[if_pos c,if_pos c]
    ·rcases c with c | c<;>simp[c]
    ·rw[pubI_same h.pubs h'.pubs c3 (by omega),pubI_same h.pubs h'.pubs c5 (by omega)]
   rw[e3,e1] at e2
   cases e2
 ·have hg:a[k]?=some a[k]:=List.getElem?_eq_getElem hk
  obtain⟨p2,p8,p5⟩:=parts_all (h'.full.2 k hk (hq k hqk hk))
  rcases parts_sub hj with c | ⟨c,c' | c'⟩ | ⟨c,e⟩ | ⟨c,e1,e2⟩
  ·exact hq j c hjl
  ·rw[c'];exact(p2 c).1
  ·rw[c'];exact(p2 c).2
  ·rw[e];exact p8 c
  ·rw[e2]
   refine p5 c (hq _ e1 ?_)
   rcases qbf ha hg with c | ⟨c,c3,c4⟩ | ⟨c,⟨c3,c4⟩,c5,c6⟩<;>omega
 ·have:=h'.kept _ hj (by omega) (by omega)
  rwa [Int.toNat_natCast] at this
theorem Had.same {a:Ar} (ha:AOk a) {known ps ps':List Int} {hs hs':List Bool} (h:Had a known ps hs) (h':Had a known ps' hs'):hs=hs':=by
 apply List.ext_getElem (h.len.trans h'.len.symm)
 intro i h1 h2
 have e1:=h.sub ha h' i
 have e2:=h'.sub ha h i
 rw[List.getD_eq_getElem?_getD,List.getD_eq_getElem?_getD,List.getElem?_eq_getElem h1,List.getElem?_eq_getElem h2] at e1 e2
 simp at e1 e2
 cases hx:hs[i]<;>cases hy:hs'[i]<;>simp_all
end Go.Proofs.YtipomcnbjlfekaaGreat.Rs
