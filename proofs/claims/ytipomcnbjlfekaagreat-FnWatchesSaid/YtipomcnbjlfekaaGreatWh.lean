import Derived.Test.YtipomcnbjlfekaaGreatWd
import Derived.Test.YtipomcnbjlfekaaGreatWe
import Derived.Test.YtipomcnbjlfekaaGreatWg
/- Parts of the proof, merged by a program. -/
namespace Go.Proofs.YtipomcnbjlfekaaGreat.Rs
set_option maxRecDepth 100000
set_option linter.all false
open Go.RowKit
structure Nd where
 k:Int
 num:Int
 a:Int
 b:Int
deriving DecidableEq
def Nd.enc (n:Nd):List Value:=[I n.k,I n.num,I n.a,I n.b]
abbrev Ar:=List Nd
def qag (l:Ar):Rw:=l.map Nd.enc
theorem encA_len (l:Ar):(qag l).length=l.length:=List.length_map ..
theorem encA_app (l m:Ar):qag l++qag m=qag (l++m):=(List.map_append ..).symm
theorem qal (l:Ar) (i:Nat) (h:i < l.length):(qag l).getD i []=(l[i]).enc:=by
 simp[qag,List.getD_eq_getElem?_getD,List.getElem?_eq_getElem h]
def inB (x a b:Int):Bool:=decide (a≤x)&&decide (x≤b)
theorem f_in (x a b:Int):fin trA 686 [I x,I a,I b] []=some (0,[B (inB x a b)],[]):=by
 refine qaa trA ?_
 show o57.go _ _ _=_
 simp only[o57,TS,Nat.reduceEqDiff,↓reduceIte]
 by_cases h:a≤x<;>simp[h,inB]
def qbB (k:Int):Bool:=decide (k=3)||decide (k=6)
theorem f_one (k:Int):fin trA 1262 [I k] []=some (0,[B (qbB k)],[]):=by
 refine qaa trA ?_
 show o105.go _ _ _=_
 simp only[o105,TS,Nat.reduceEqDiff,↓reduceIte]
 by_cases h:k=3<;>simp[h,qbB]
def Nd.right (n:Nd) (k:Int):Bool :=
 if inB n.k 1 9=false then false
 else if n.k=1 then inB n.num 0 999999&&(decide (n.a=0)&&decide (n.b=0))
 else if n.num≠0 then false
 else if inB n.a 0 (wr (k - 1))=false then false
 else if qbB n.k=true then decide (n.b=0)
 else inB n.b 0 (wr (k - 1))
theorem qgl (k num a b p:Int):fin trA 1514 [I k,I num,I a,I b,I p] []=some (0,[B (Nd.right ⟨k,num,a,b⟩ p)],[]):=by
 refine qaa trA ?_
 show o126.go _ _ _=_
 simp only[o126,TS,Nat.reduceEqDiff,↓reduceIte,f_in,f_one,Nd.right]
 cases inB k 1 9<;>cases inB num 0 999999<;>cases inB a 0 (wr (p - 1))<;>cases qbB k<;>by_cases h1:k=1<;>by_cases h2:num=0<;>by_cases h3:a=0<;>simp[h1,h2,h3]
def atFrom (n:Nd):Ar→Int→Option Int
 | [],_=>none
 | x :: l,i=>if x=n then some i else atFrom n l (i+1)
def at_ (l:Ar) (n:Nd):Int:=(atFrom n l 0).getD (-1)
theorem nd_eq (x n:Nd):(decide (x.k=n.k)&&(decide (x.num=n.num)&&(decide (x.a=n.a)&&(decide (x.b=n.b)&&true))))=decide (x=n):=by
 cases x;cases n;simp
theorem f_at0 (l:Ar) (n:Nd) (u:Int) (hl:l.length≤100000000):∀(d i:Nat),i+d=l.length→fin trA 1910 [I n.k,I n.num,I n.a,I n.b,I u,I i] [qag l]=some (match atFrom n (l.drop i) i with | some j=>(1,[I j],[]) | none=>(0,[],[])):=by
 intro d
 induction d with
 | zero =>
  intro i hi
  refine qaa trA ?_
  show o159_0.go _ _ _=_
  rw[List.drop_eq_nil_of_le (by omega)]
  simp only[o159_0,TS,Nat.reduceEqDiff,↓reduceIte,encA_len,atFrom]
  rw[if_neg (by omega)]
 | succ d ih =>
  intro i hi
  refine qaa trA ?_
  show o159_0.go _ _ _=_
  have hlt:i < l.length:=by omega
  have e:wr ((i:Int)+1)=((i+1:Nat):Int):=by rw[qaj (by omega) (by omega)];omega
  rw[List.drop_eq_getElem_cons hlt]
  simp only[o159_0,TS,Nat.reduceEqDiff,↓reduceIte,encA_len,atFrom,Int.toNat_natCast,qal l i hlt,Nd.enc,nd_eq,e,ih (i+1) (by omega)]
  rw[if_pos (by omega),if_pos (by omega),if_pos (by omega)]
  by_cases hx:l[i]=n
  ·simp only[hx,↓reduceIte]
  ·simp only[hx,↓reduceIte]
   rw[show((i+1:Nat):Int)=(i:Int)+1 by omega]
   cases atFrom n (l.drop (i+1)) ((i:Int)+1)<;>simp only[TS,Nat.reduceEqDiff,↓reduceIte]
theorem f_at (l:Ar) (n:Nd) (hl:l.length≤100000000):fin trA 1911 [I n.k,I n.num,I n.a,I n.b] [qag l]=some (0,[I (at_ l n)],[]):=by
 refine qaa trA ?_
 show o159.go _ _ _=_
 have h:=f_at0 l n 0 hl l.length 0 (by omega)
 rw[List.drop_zero,show((0:Nat):Int)=0 from rfl] at h
 simp only[o159,TS,Nat.reduceEqDiff,↓reduceIte,h]
 unfold at_
 cases atFrom n l 0<;>simp[TS,Nat.reduceEqDiff,↓reduceIte]
def put (l:Ar) (n:Nd):Ar × Int :=
 if n.right l.length=false then (l,-1)
 else if 0≤at_ l n∨(3000:Int)≤(l.length:Int) then (l,at_ l n)
 else (l++[n],l.length)
theorem f_put (l:Ar) (k num a b:Int) (hl:l.length≤90000000):fin trA 1250 [I k,I num,I a,I b] [qag l]=some (0,[I (put l ⟨k,num,a,b⟩).2],[qag (put l ⟨k,num,a,b⟩).1]):=by
 refine qaa trA ?_
 show o104.go _ _ _=_
 have h:=f_at l ⟨k,num,a,b⟩ (by omega)
 have e:[[I k,I num,I a,I b]]=qag [⟨k,num,a,b⟩]:=rfl
 simp only[o104,TS,Nat.reduceEqDiff,↓reduceIte,qgl,encA_len,h]
 simp only[put]
 cases Nd.right ⟨k,num,a,b⟩ l.length
 ·simp
 ·by_cases h1:0≤at_ l ⟨k,num,a,b⟩
  ·simp[h1]
  ·by_cases h2:(3000:Int)≤(l.length:Int)
   ·simp[h1,h2]
   ·have h3:((l++[(⟨k,num,a,b⟩:Nd)]).length:Int)=(l.length:Int)+1:=by simp
    rw[e,encA_app,encA_len,h3,qaj (by omega) (by omega)]
    simp[h1,h2,show(l.length:Int)+1≤100000000 by omega]
theorem f_atom (l:Ar) (x:Int) (hl:l.length≤90000000):fin trA 530 [I x] [qag l]=some (0,[I (put l ⟨1,x,0,0⟩).2],[qag (put l ⟨1,x,0,0⟩).1]):=by
 refine qaa trA ?_
 show o44.go _ _ _=_
 simp only[o44,TS,Nat.reduceEqDiff,↓reduceIte,f_put _ _ _ _ _ hl]
structure AOk (a:Ar):Prop where
 right:∀(i:Nat) (n:Nd),a[i]?=some n→n.right i=true
 once:∀(i j:Nat) (n:Nd),a[i]?=some n→a[j]?=some n→i=j
 few:a.length≤3000
inductive Tm' where
 | atom (n:Int)
 | un (k:Int) (t:Tm')
 | bin (k:Int) (t u:Tm')
deriving DecidableEq
def Den (a:Ar):Int→Tm'→Prop
 | k,.atom n=>0≤k∧a[k.toNat]?=some ⟨1,n,0,0⟩
 | k,.un c t=>0≤k∧∃i,a[k.toNat]?=some ⟨c,0,i,0⟩∧(c=3∨c=6)∧Den a i t
 | k,.bin c t u=>0≤k∧∃i j,a[k.toNat]?=some ⟨c,0,i,j⟩∧(c=2∨c=4∨c=5∨c=7∨c=8∨c=9)∧Den a i t∧Den a j u
theorem Den.nonneg {a:Ar} {k:Int}:∀{t},Den a k t→0≤k
 | .atom _,h=>h.1
 | .un ..,h=>h.1
 | .bin ..,h=>h.1
theorem Den.lt {a:Ar} {k:Int} {t:Tm'} (h:Den a k t):k.toNat < a.length:=by
 cases t with
 | atom n=>exact(List.getElem?_eq_some_iff.1 h.2).1
 | un c t=>obtain⟨_,i,h,_⟩:=h;exact(List.getElem?_eq_some_iff.1 h).1
 | bin c t u=>obtain⟨_,i,j,h,_⟩:=h;exact(List.getElem?_eq_some_iff.1 h).1
theorem pre_get {a a':Ar} (h:a <+: a') {i:Nat} {n:Nd} (hi:a[i]?=some n):a'[i]?=some n:=by
 obtain⟨s,rfl⟩:=h
 rw[List.getElem?_append_left (List.getElem?_eq_some_iff.1 hi).1,hi]
theorem Den.mono {a a':Ar} (h:a <+: a'):∀{t:Tm'} {k:Int},Den a k t→Den a' k t
 | .atom n,k,⟨h0,h1⟩=>⟨h0,pre_get h h1⟩
 | .un c t,k,⟨h0,i,h1,hc,h2⟩=>⟨h0,i,pre_get h h1,hc,h2.mono h⟩
 | .bin c t u,k,⟨h0,i,j,h1,hc,h2,h3⟩=>⟨h0,i,j,pre_get h h1,hc,h2.mono h,h3.mono h⟩
theorem Den.fun {a:Ar}:∀{t t':Tm'} {k:Int},Den a k t→Den a k t'→t=t'
 | .atom n,.atom n',k,h,h'=>by have:=h.2.symm.trans h'.2;simp at this;rw[this]
 | .atom n,.un c t,k,h,⟨_,i,h1,hc,_⟩=>by have:=h.2.symm.trans h1;simp at this;omega
 | .atom n,.bin c t u,k,h,⟨_,i,j,h1,hc,_⟩=>by have:=h.2.symm.trans h1;simp at this;omega
 | .un c t,.atom n,k,⟨_,i,h1,hc,_⟩,h=>by have:=h.2.symm.trans h1;simp at this;omega
 | .bin c t u,.atom n,k,⟨_,i,j,h1,hc,_⟩,h=>by have:=h.2.symm.trans h1;simp at this;omega
 | .un c t,.un c' t',k,⟨_,i,h1,hc,h2⟩,⟨_,i',h1',hc',h2'⟩=>by
  have:=h1.symm.trans h1';simp at this
  obtain⟨rfl,rfl⟩:=this
  rw[h2.fun h2']
 | .un c t,.bin c' t' u',k,⟨_,i,h1,hc,h2⟩,⟨_,i',j',h1',hc',_⟩=>by have:=h1.symm.trans h1';simp at this;omega
 | .bin c t u,.un c' t',k,⟨_,i,j,h1,hc,_⟩,⟨_,i',h1',hc',_⟩=>by have:=h1.symm.trans h1';simp at this;omega
 | .bin c t u,.bin c' t' u',k,⟨_,i,j,h1,hc,h2,h3⟩,⟨_,i',j',h1',hc',h2',h3'⟩=>by
  have:=h1.symm.trans h1';simp at this
  obtain⟨rfl,rfl,rfl⟩:=this
  rw[h2.fun h2',h3.fun h3']
theorem Den.inj {a:Ar} (ha:AOk a):∀{t:Tm'} {k k':Int},Den a k t→Den a k' t→k=k'
 | .atom n,k,k',h,h'=>by have:=ha.once _ _ _ h.2 h'.2;have:=h.1;have:=h'.1;omega
 | .un c t,k,k',⟨h0,i,h1,hc,h2⟩,⟨h0',i',h1',hc',h2'⟩=>by
  obtain rfl:=h2.inj ha h2'
  have:=ha.once _ _ _ h1 h1';omega
 | .bin c t u,k,k',⟨h0,i,j,h1,hc,h2,h3⟩,⟨h0',i',j',h1',hc',h2',h3'⟩=>by
  obtain rfl:=h2.inj ha h2'
  obtain rfl:=h3.inj ha h3'
  have:=ha.once _ _ _ h1 h1';omega
structure Ext (a a':Ar) (c:Nat):Prop where
 pre:a <+: a'
 ok:AOk a'
 len:a'.length≤a.length+c
theorem Ext.refl {a:Ar} (h:AOk a):Ext a a 0:=⟨List.prefix_refl _,h,by omega⟩
theorem Ext.trans {a b c:Ar} {m n:Nat} (h:Ext a b m) (h':Ext b c n):Ext a c (m+n):=⟨h.pre.trans h'.pre,h'.ok,by have:=h.len;have:=h'.len;omega⟩
theorem Ext.le {a b:Ar} {m n:Nat} (h:Ext a b m) (hn:m≤n):Ext a b n:=⟨h.pre,h.ok,by have:=h.len;omega⟩
theorem qde {n:Nd}:∀{l:Ar} {i j:Int},atFrom n l i=some j→i≤j∧l[(j - i).toNat]?=some n
 | x :: l,i,j,h=>by
  unfold atFrom at h
  split at h
  ·rename_i hx;cases h;subst hx;simp
  ·obtain⟨h1,h2⟩:=qde h
   refine⟨by omega,?_⟩
   rw[show(j - i).toNat=(j - (i+1)).toNat+1 by omega,List.getElem?_cons_succ,h2]
theorem qdd {n:Nd}:∀{l:Ar} {i:Int},atFrom n l i=none→∀j:Nat,l[j]?≠some n
 | [],i,h,j=>by simp
 | x :: l,i,h,j=>by
  unfold atFrom at h
  split at h
  ·cases h
  ·rename_i hx
   cases j with
   | zero=>simpa using hx
   | succ j=>simpa using qdd h j
theorem put_ok {a:Ar} {n:Nd} (ha:AOk a) (hn:n.right a.length=true) (hl:a.length < 3000):Ext a (put a n).1 1∧0≤(put a n).2∧(put a n).1[(put a n).2.toNat]?=some n:=by
 unfold put
 rw[hn,if_neg (by simp)]
 unfold at_
 cases e:atFrom n a 0 with
 | some j =>
  obtain⟨h1,h2⟩:=qde e
  rw[Option.getD_some,if_pos (.inl h1)]
  refine⟨(Ext.refl ha).le (by omega),h1,?_⟩
  simpa using h2
 | none =>
  have h:=qdd e
  rw[Option.getD_none,if_neg (by omega)]
  refine⟨⟨List.prefix_append _ _,⟨fun i m hi=>?_,fun i j m hi hj=>?_,by simp;omega⟩,by simp⟩,by simp,by simp⟩
  ·rcases Nat.lt_trichotomy i a.length with g | g | g
   ·rw[List.getElem?_append_left g] at hi;exact ha.right i m hi
   ·subst g;simp at hi;subst hi;exact hn
   ·rw[List.getElem?_eq_none (by simp;omega)] at hi;cases hi
  ·have key:∀(i:Nat),(a++[n])[i]?=some m→(i < a.length∧a[i]?=some m)∨(i=a.length∧m=n):=fun i hi=>by
    rcases Nat.lt_trichotomy i a.length with g | g | g
    ·rw[List.getElem?_append_left g] at hi;exact .inl ⟨g,hi⟩
    ·subst g;simp at hi;exact .inr ⟨rfl,hi.symm⟩
    ·rw[List.getElem?_eq_none (by simp;omega)] at hi;cases hi
   rcases key i hi with ⟨_,pi⟩ | ⟨pi,qi⟩<;>rcases key j hj with ⟨_,pj⟩ | ⟨pj,qj⟩
   ·exact ha.once i j m pi pj
   ·rw[qj] at pi;exact absurd pi (h i)
   ·rw[qi] at pj;exact absurd pj (h j)
   ·omega
theorem put_atom {a:Ar} {n:Int} (ha:AOk a) (h0:0≤n) (h1:n≤999999) (hl:a.length < 3000):Ext a (put a ⟨1,n,0,0⟩).1 1∧Den (put a ⟨1,n,0,0⟩).1 (put a ⟨1,n,0,0⟩).2 (.atom n):=by
 obtain⟨h,h2,h3⟩:=put_ok (n:=⟨1,n,0,0⟩) ha (by simp[Nd.right,inB,h0,h1]) hl
 exact⟨h,h2,h3⟩
theorem put_bin {a:Ar} {c x y:Int} {t u:Tm'} (ha:AOk a) (hc:c=2∨c=4∨c=5∨c=7∨c=8∨c=9) (hx:Den a x t) (hy:Den a y u) (hl:a.length < 3000):Ext a (put a ⟨c,0,x,y⟩).1 1∧Den (put a ⟨c,0,x,y⟩).1 (put a ⟨c,0,x,y⟩).2 (.bin c t u):=by
 have hx0:=hx.nonneg;have hx1:=hx.lt;have hy0:=hy.nonneg;have hy1:=hy.lt
 obtain⟨h,h2,h3⟩:=put_ok (n:=⟨c,0,x,y⟩) ha (by
  have e:wr ((a.length:Int) - 1)=(a.length:Int) - 1:=qaj (by omega) (by omega)
  rcases hc with rfl | rfl | rfl | rfl | rfl | rfl<;>simp[Nd.right,inB,e,qbB]<;>omega) hl
 exact⟨h,h2,x,y,h3,hc,hx.mono h.pre,hy.mono h.pre⟩
def ndAt (a:Ar) (x:Int):Option Nd:=if 0≤x then a[x.toNat]? else none
theorem ndAt_none {a:Ar} {x:Int} (hl:a.length≤90000000) (h:ndAt a x=none):inB x 0 (wr ((a.length:Int) - 1))=false:=by
 rw[qaj (by omega) (by omega)]
 unfold ndAt at h
 split at h
 ·have:=List.getElem?_eq_none_iff.1 h
  simp[inB];omega
 ·simp[inB];omega
theorem qgJ {a:Ar} {x:Int} {n:Nd} (h:ndAt a x=some n):∃(i:Nat) (hi:i < a.length),x=(i:Int)∧a[i]=n:=by
 unfold ndAt at h
 split at h
 ·obtain⟨h1,h2⟩:=List.getElem?_eq_some_iff.1 h
  exact⟨x.toNat,h1,by omega,h2⟩
 ·cases h
theorem inB_lt {a:Ar} {i:Nat} (hl:a.length≤90000000) (hi:i < a.length):inB (i:Int) 0 (wr ((a.length:Int) - 1))=true:=by
 rw[qaj (by omega) (by omega)]
 simp[inB];omega
theorem AOk.le {a:Ar} (ha:AOk a):a.length≤90000000:=by have:=ha.few;omega
def qgL (a:Ar) (x:Int):Bool:=match ndAt a x with | some n=>n.right x | none=>false
theorem qdC (a:Ar) (x:Int) (hl:a.length≤90000000):fin trA 2510 [I x] [qag a]=some (0,[B (qgL a x)],[]):=by
 refine qaa trA ?_
 show o209.go _ _ _=_
 unfold qgL
 cases h:ndAt a x with
 | none =>
  simp only[o209,TS,Nat.reduceEqDiff,↓reduceIte,f_in,encA_len,ndAt_none hl h]
  simp
 | some n =>
  obtain⟨i,hi,rfl,rfl⟩:=qgJ h
  simp only[o209,TS,Nat.reduceEqDiff,↓reduceIte,f_in,encA_len,inB_lt hl hi,Int.toNat_natCast,qal a i hi,Nd.enc,qgl]
  rw[if_pos (by omega),if_pos (by omega)]
def isK (a:Ar) (x k:Int):Bool:=match ndAt a x with | some n=>n.right x&&decide (n.k=k) | none=>false
theorem f_is (a:Ar) (x k:Int) (hl:a.length≤90000000):fin trA 2678 [I x,I k] [qag a]=some (0,[B (isK a x k)],[]):=by
 refine qaa trA ?_
 show o223.go _ _ _=_
 unfold isK
 have hn:=qdC a x hl
 unfold qgL at hn
 cases h:ndAt a x with
 | none =>
  rw[h] at hn
  simp only[o223,TS,Nat.reduceEqDiff,↓reduceIte,hn]
  simp
 | some n =>
  rw[h] at hn
  dsimp only at hn
  obtain⟨i,hi,rfl,rfl⟩:=qgJ h
  have g0:(0:Int)≤(i:Int):=by omega
  have g1:(i:Int) < (a.length:Int):=by omega
  simp only[o223,TS,Nat.reduceEqDiff,↓reduceIte,hn,encA_len,Int.toNat_natCast,qal a i hi,Nd.enc]
  cases Nd.right a[i] (i:Int)<;>simp[g0,hi]
def numOf (a:Ar) (x:Int):Int × Bool:=match ndAt a x with | some n=>if n.right x=true∧n.k=1 then (n.num,true) else (0,false) | none=>(0,false)
theorem f_num0 (a:Ar) (x:Int) (hl:a.length≤90000000):fin trA 2690 [I x] [qag a]=some (0,[I (numOf a x).1,B (numOf a x).2],[]):=by
 refine qaa trA ?_
 show o224.go _ _ _=_
 unfold numOf
 have hn:=f_is a x 1 hl
 unfold isK at hn
 cases h:ndAt a x with
 | none =>
  rw[h] at hn
  simp only[o224,TS,Nat.reduceEqDiff,↓reduceIte,hn]
 | some n =>
  rw[h] at hn
  dsimp only at hn
  obtain⟨i,hi,rfl,rfl⟩:=qgJ h
  have g0:(0:Int)≤(i:Int):=by omega
  have g1:(i:Int) < (a.length:Int):=by omega
  simp only[o224,TS,Nat.reduceEqDiff,↓reduceIte,hn,encA_len,Int.toNat_natCast,qal a i hi,Nd.enc]
  cases Nd.right a[i] (i:Int)<;>by_cases h1:a[i].k=1<;>simp[h1,g0,hi]
def Tm'.kind:Tm'→Int
 | .atom _=>1
 | .un c _=>c
 | .bin c _ _=>c
def Out_ (a:Ar) (x:Int):Prop:=¬(0≤x∧x < (a.length:Int))
theorem ndAt_out {a:Ar} {x:Int} (h:Out_ a x):ndAt a x=none:=by
 unfold ndAt
 split
 ·exact List.getElem?_eq_none (by have:¬(0≤x∧x < (a.length:Int)):=h;omega)
 ·rfl
theorem out_neg (a:Ar):Out_ a (-1):=by intro h;omega
theorem Den.nd {a:Ar} {x:Int} {t:Tm'} (ha:AOk a) (h:Den a x t):∃n,ndAt a x=some n∧n.right x=true∧n.k=t.kind∧(∀m,t=.atom m→n=⟨1,m,0,0⟩):=by
 have key:∀{n},a[x.toNat]?=some n→0≤x→ndAt a x=some n∧n.right x=true:=fun {n} h1 h0=>by
  have:=ha.right _ _ h1
  rw[show((x.toNat:Nat):Int)=x by omega] at this
  exact⟨by unfold ndAt;rw[if_pos h0,h1],this⟩
 cases t with
 | atom m=>obtain⟨h0,h1⟩:=h;obtain⟨k1,k2⟩:=key h1 h0;exact⟨_,k1,k2,rfl,fun m' e=>by cases e;rfl⟩
 | un c t=>obtain⟨h0,i,h1,_,_⟩:=h;obtain⟨k1,k2⟩:=key h1 h0;exact⟨_,k1,k2,rfl,fun m' e=>by cases e⟩
 | bin c t u=>obtain⟨h0,i,j,h1,_,_⟩:=h;obtain⟨k1,k2⟩:=key h1 h0;exact⟨_,k1,k2,rfl,fun m' e=>by cases e⟩
theorem Den.nodeOk {a:Ar} (ha:AOk a) {x:Int} {t:Tm'} (h:Den a x t):qgL a x=true:=by
 obtain⟨n,h1,h2,_⟩:=h.nd ha
 unfold Rs.qgL
 rw[h1]
 exact h2
theorem isK_den {a:Ar} (ha:AOk a) {x:Int} {t:Tm'} (h:Den a x t) (c:Int):isK a x c=decide (t.kind=c):=by
 obtain⟨n,h1,h2,h3,_⟩:=h.nd ha
 unfold isK
 rw[h1]
 simp only[h2,h3,Bool.true_and]
theorem isK_out {a:Ar} {x:Int} (h:Out_ a x) (c:Int):isK a x c=false:=by unfold isK;rw[ndAt_out h]
def Tm'.num:Tm'→Int × Bool
 | .atom n=>(n,true)
 | _=>(0,false)
theorem qes {a:Ar} (ha:AOk a) {x:Int} {t:Tm'} (h:Den a x t):fin trA 2690 [I x] [qag a]=some (0,[I t.num.1,B t.num.2],[]):=by
 rw[f_num0 a x ha.le]
 obtain⟨n,h1,h2,h3,h4⟩:=h.nd ha
 have:numOf a x=t.num:=by
  unfold numOf
  rw[h1]
  cases t with
  | atom m=>rw[h4 m rfl] at h2 ⊢;simp[h2,Tm'.num]
  | un c t =>
   obtain⟨_,_,_,hc,_⟩:=h
   simp only[Tm'.kind] at h3
   have:¬n.k=1:=by omega
   simp[this,Tm'.num]
  | bin c t u =>
   obtain⟨_,_,_,_,hc,_⟩:=h
   simp only[Tm'.kind] at h3
   have:¬n.k=1:=by omega
   simp[this,Tm'.num]
 rw[this]
theorem qfm {a:Ar} (ha:AOk a) {x:Int} {t:Tm'} (h:Den a x t) (n:Int):fin trA 3266 [I x,I n] [qag a]=some (0,[B (decide (t=.atom n))],[]):=by
 refine qaa trA ?_
 show o272.go _ _ _=_
 simp only[o272,TT,Nat.reduceEqDiff,↓reduceIte,qes ha h]
 cases t with
 | atom m=>by_cases hm:m=n<;>simp[Tm'.num,hm]
 | un c t=>simp[Tm'.num]
 | bin c t u=>simp[Tm'.num]
theorem qdc {a:Ar} (ha:AOk a) {k c:Int} {t u:Tm'} (h:Den a k (.bin c t u)):∃(p:Nat) (hp:p < a.length) (i j:Int),k=(p:Int)∧a[p]=⟨c,0,i,j⟩∧Den a i t∧Den a j u:=by
 have hlt:=h.lt
 obtain⟨h0,i,j,h1,hc,h2,h3⟩:=h
 obtain⟨hp,h1'⟩:=List.getElem?_eq_some_iff.1 h1
 exact⟨k.toNat,hp,i,j,by omega,h1',h2,h3⟩
theorem den_un {a:Ar} (ha:AOk a) {k c:Int} {t:Tm'} (h:Den a k (.un c t)):∃(p:Nat) (hp:p < a.length) (i:Int),k=(p:Int)∧a[p]=⟨c,0,i,0⟩∧Den a i t:=by
 have hlt:=h.lt
 obtain⟨h0,i,h1,hc,h2⟩:=h
 obtain⟨hp,h1'⟩:=List.getElem?_eq_some_iff.1 h1
 exact⟨k.toNat,hp,i,by omega,h1',h2⟩
theorem den_ex {a:Ar} (ha:AOk a):∀(n k:Nat),k < n→k < a.length→∃t,Den a (k:Int) t:=by
 intro n
 induction n with
 | zero=>intro k h;omega
 | succ n ih =>
  intro k hk hl
  have hr:=ha.right k _ (List.getElem?_eq_getElem hl)
  have hg:a[((k:Nat):Int).toNat]?=some a[k]:=by rw[Int.toNat_natCast];exact List.getElem?_eq_getElem hl
  have hw:wr ((k:Int) - 1)=(k:Int) - 1:=by have:=ha.few;exact qaj (by omega) (by omega)
  rcases hx:a[k] with ⟨c,num,x,y⟩
  rw[hx] at hr hg
  unfold Nd.right at hr
  simp only[hw,inB] at hr
  have sub:∀z:Int,0≤z→z≤(k:Int) - 1→∃t,Den a z t:=fun z h0 h1=>by
   obtain⟨t,ht⟩:=ih z.toNat (by omega) (by omega)
   rw[show((z.toNat:Nat):Int)=z by omega] at ht
   exact⟨t,ht⟩
  by_cases h1:c=1
  ·subst h1
   simp at hr
   obtain⟨_,rfl,rfl⟩:=hr
   exact⟨.atom num,by omega,hg⟩
  ·by_cases hn:num=0
   ·subst hn
    by_cases h3:c=3∨c=6
    ·have ho:qbB c=true:=by simp[qbB,h3]
     simp[h1,ho] at hr
     obtain⟨t,ht⟩:=sub x (by omega) (by omega)
     obtain rfl:y=0:=by omega
     exact⟨.un c t,by omega,x,hg,h3,ht⟩
    ·have ho:qbB c=false:=by simp[qbB];omega
     simp[h1,ho] at hr
     obtain⟨t,ht⟩:=sub x (by omega) (by omega)
     obtain⟨u,hu⟩:=sub y (by omega) (by omega)
     exact⟨.bin c t u,by omega,x,y,hg,by omega,ht,hu⟩
   ·simp[h1,hn] at hr
theorem Den.notOut {a:Ar} {x:Int} {t:Tm'} (h:Den a x t):0≤x∧x < (a.length:Int):=by
 have:=h.nonneg;have:=h.lt;omega
def qak (l:List Int):Rw:=l.map fun x=>[I x]
theorem encI_len (l:List Int):(qak l).length=l.length:=List.length_map ..
theorem qam (l:List Int) (i:Nat) (h:i < l.length):(qak l).getD i []=[I l[i]]:=by
 simp[qak,List.getD_eq_getElem?_getD,List.getElem?_eq_getElem h]
inductive Dens (a:Ar):List Int→List Tm'→Prop where
 | nil:Dens a [] []
 | cons {x:Int} {t:Tm'} {xs:List Int} {ts:List Tm'} (h:Den a x t) (hs:Dens a xs ts):Dens a (x :: xs) (t :: ts)
theorem Dens.len {a:Ar}:∀{xs ts},Dens a xs ts→xs.length=ts.length
 | _,_,.nil=>rfl
 | _,_,.cons _ h=>by simp[h.len]
theorem Dens.mono {a a':Ar} (p:a <+: a'):∀{xs ts},Dens a xs ts→Dens a' xs ts
 | _,_,.nil=>.nil
 | _,_,.cons h hs=>.cons (h.mono p) (hs.mono p)
def split:Nat→Tm'→Option (List Tm' × Tm')
 | 0,t=>some ([],t)
 | n+1,.bin c t u=>if c=2 then (split n u).map fun p=>(t :: p.1,p.2) else none
 | _+1,_=>none
def qbe (n:Nat) (t:Tm'):Option (List Tm'):=match split n t with
 | some (l,.atom m)=>if m=0 then some l else none
 | _=>none
theorem f_parts0 {a:Ar} (ha:AOk a) {n:Nat} (hn:n≤100) (r:Bool) (z:Rw):∀(d:Nat) {i:Nat} {k:Int} {t:Tm'} {xs:List Int},i+d=n→xs.length=i→Den a k t →
  (∀l u,split d t=some (l,u)→∃ys k',fin trA 2714 [I k,I n,B r,I i] [qag a,z,qak xs]=some (0,[I k'],[qak (xs++ys)])∧Den a k' u∧Dens a ys l) ∧
  (split d t=none→fin trA 2714 [I k,I n,B r,I i] [qag a,z,qak xs]=some (1,[B false],[[]]))
 | 0,i,k,t,xs,hi,hx,hk=>by
  refine⟨fun l u e=>?_,fun e=>by cases e⟩
  cases e
  refine⟨[],k,qaa trA ?_,hk,.nil⟩
  show o226_0.go _ _ _=_
  simp only[o226_0,TT,Nat.reduceEqDiff,↓reduceIte,List.append_nil]
  rw[if_neg (by omega)]
 | d+1,i,k,t,xs,hi,hx,hk=>by
  have g2:(i:Int) < (n:Int):=by omega
  have hno:t.kind≠2→fin trA 2714 [I k,I n,B r,I i] [qag a,z,qak xs]=some (1,[B false],[[]]):=fun h=>by
   refine qaa trA ?_
   show o226_0.go _ _ _=_
   simp only[o226_0,TT,Nat.reduceEqDiff,↓reduceIte,g2,f_is a _ _ ha.le,isK_den ha hk,h]
  match t,hk,hno with
  | .atom m,hk,hno=>exact⟨fun l u e=>(by cases e),fun _=>hno (by simp[Tm'.kind])⟩
  | .un c t,hk,hno =>
   have hc:=hk.2
   obtain⟨_,_,hc,_⟩:=hc
   exact⟨fun l u e=>(by cases e),fun _=>hno (by simp[Tm'.kind];omega)⟩
  | .bin c t u,hk,hno =>
   by_cases hc:c=2
   ·subst hc
    obtain⟨p,hp,x,y,rfl,hnd,h1,h2⟩:=qdc ha hk
    have h3:isK a (p:Int) 2=true:=by rw[isK_den ha hk];rfl
    obtain⟨ih1,ih2⟩:=f_parts0 ha hn r z d (i:=i+1) (k:=y) (xs:=xs++[x]) (by omega) (by simp[hx]) h2
    have e:wr ((i:Int)+1)=((i+1:Nat):Int):=by rw[qaj (by omega) (by omega)];omega
    have q:qak xs++[[Value.int .i64 x]]=qak (xs++[x]):=by simp[qak]
    have g0:(0:Int)≤(p:Int):=by omega
    have g1:(p:Int) < (a.length:Int):=by omega
    have g3:((xs++[x]).length:Int)≤100000000:=by simp;omega
    refine⟨fun l v e'=>?_,fun e'=>?_⟩
    ·simp only[split,if_true] at e'
     obtain⟨⟨l',v'⟩,hs,he⟩:=Option.map_eq_some_iff.1 e'
     cases he
     obtain⟨ys,k',e1,d1,d2⟩:=ih1 _ _ hs
     refine⟨x :: ys,k',qaa trA ?_,d1,.cons h1 d2⟩
     have q2:xs++[x]++ys=xs++x :: ys:=by simp
     rw[q2] at e1
     show o226_0.go _ _ _=_
     simp only[o226_0,TT,Nat.reduceEqDiff,↓reduceIte,f_is a _ _ ha.le,h3,encA_len,Int.toNat_natCast,qal a p hp,hnd,Nd.enc,q,encI_len,e,g0,g1,g2,g3,e1]
    ·simp only[split,if_true,Option.map_eq_none_iff] at e'
     have e1:=ih2 e'
     refine qaa trA ?_
     show o226_0.go _ _ _=_
     simp only[o226_0,TT,Nat.reduceEqDiff,↓reduceIte,f_is a _ _ ha.le,h3,encA_len,Int.toNat_natCast,qal a p hp,hnd,Nd.enc,q,encI_len,e,g0,g1,g2,g3,e1]
   ·exact⟨fun l v e=>(by simp[split,hc] at e),fun _=>hno (by simp[Tm'.kind,hc])⟩
theorem f_parts {a:Ar} (ha:AOk a) {n:Nat} (hn:n≤100) {k:Int} {t:Tm'} (hk:Den a k t) :
  (∀l,qbe n t=some l→∃ys,fin trA 2715 [I k,I n] [qag a]=some (0,[B true],[qak ys])∧Dens a ys l) ∧
  (qbe n t=none→fin trA 2715 [I k,I n] [qag a]=some (0,[B false],[[]])):=by
 obtain⟨h1,h2⟩:=f_parts0 ha hn false [] n (i:=0) (xs:=[]) (by omega) rfl hk
 rw[show((0:Nat):Int)=0 from rfl,show qak []=[] from rfl] at h1 h2
 have g0:¬(n:Int) < 0:=by omega
 unfold qbe
 cases hs:split n t with
 | none =>
  refine⟨fun l e=>(by cases e),fun _=>qaa trA ?_⟩
  show o226.go _ _ _=_
  simp only[o226,TT,Nat.reduceEqDiff,↓reduceIte,h2 hs]
 | some p =>
  obtain⟨l,u⟩:=p
  obtain⟨ys,k',e1,d1,d2⟩:=h1 l u hs
  rw[List.nil_append] at e1
  have e2:=qes ha d1
  refine⟨fun l' e=>?_,fun e=>qaa trA ?_⟩
  ·cases u with
   | atom m =>
    simp only at e
    split at e
    ·rename_i hm
     cases e
     subst hm
     refine⟨ys,qaa trA ?_,d2⟩
     show o226.go _ _ _=_
     simp only[o226,TT,Nat.reduceEqDiff,↓reduceIte,e1,e2,Tm'.num,g0]
    ·cases e
   | un c t=>cases e
   | bin c t u=>cases e
  ·show o226.go _ _ _=_
   cases u with
   | atom m =>
    simp only at e
    split at e
    ·cases e
    ·rename_i hm
     simp only[o226,TT,Nat.reduceEqDiff,↓reduceIte,e1,e2,Tm'.num,g0,hm]
   | un c t=>simp only[o226,TT,Nat.reduceEqDiff,↓reduceIte,e1,e2,Tm'.num]
   | bin c t u=>simp only[o226,TT,Nat.reduceEqDiff,↓reduceIte,e1,e2,Tm'.num]
theorem qel {a:Ar} (ha:AOk a) {n:Nat} (hn:1≤n) {k:Int} (hk:Out_ a k):fin trA 2715 [I k,I n] [qag a]=some (0,[B false],[[]]):=by
 have g:(0:Int) < (n:Int):=by omega
 have h0:fin trA 2714 [I k,I n,B false,I 0] [qag a,[],[]]=some (1,[B false],[[]]):=by
  refine qaa trA ?_
  show o226_0.go _ _ _=_
  simp only[o226_0,TT,Nat.reduceEqDiff,↓reduceIte,f_is a _ _ ha.le,isK_out hk,g]
 refine qaa trA ?_
 show o226.go _ _ _=_
 simp only[o226,TT,Nat.reduceEqDiff,↓reduceIte,h0]
theorem qat {a:Ar} {n:Int} (ha:AOk a) (h0:0≤n) (h1:n≤999999) (hr:a.length+1≤3000) :
  ∃a' k,fin trA 530 [I n] [qag a]=some (0,[I k],[qag a'])∧Ext a a' 1∧Den a' k (.atom n):=by
 obtain⟨h2,h3⟩:=put_atom ha h0 h1 (by omega)
 exact⟨_,_,f_atom a n ha.le,h2,h3⟩
theorem qbk {a:Ar} {c x y:Int} {t u:Tm'} (ha:AOk a) (hc:c=2∨c=4∨c=5∨c=8∨c=9) (hx:Den a x t) (hy:Den a y u) (hr:a.length+1≤3000) :
  ∃a' k,fin trA 542 [I c,I x,I y] [qag a]=some (0,[I k],[qag a'])∧Ext a a' 1∧Den a' k (.bin c t u):=by
 obtain⟨h1,h2⟩:=put_bin (c:=c) ha (by omega) hx hy (by omega)
 refine⟨_,_,qaa trA ?_,h1,h2⟩
 show o45.go _ _ _=_
 have hx0:=hx.nonneg;have hy0:=hy.nonneg
 have ho:qbB c=false:=by simp[qbB];omega
 have g1:¬c=1:=by omega
 have g2:¬c=7:=by omega
 have g3:¬x < 0:=by omega
 have g4:¬y < 0:=by omega
 simp only[o45,TT,Nat.reduceEqDiff,↓reduceIte,f_one,ho,g1,g2,g3,g4,f_put _ _ _ _ _ ha.le]
theorem put_un {a:Ar} {c x:Int} {t:Tm'} (ha:AOk a) (hc:c=3∨c=6) (hx:Den a x t) (hl:a.length < 3000):Ext a (put a ⟨c,0,x,0⟩).1 1∧Den (put a ⟨c,0,x,0⟩).1 (put a ⟨c,0,x,0⟩).2 (.un c t):=by
 have hx0:=hx.nonneg;have hx1:=hx.lt
 obtain⟨h,h2,h3⟩:=put_ok (n:=⟨c,0,x,0⟩) ha (by
  have e:wr ((a.length:Int) - 1)=(a.length:Int) - 1:=qaj (by omega) (by omega)
  rcases hc with rfl | rfl<;>simp[Nd.right,inB,e,qbB]<;>omega) hl
 exact⟨h,h2,x,h3,hc,hx.mono h.pre⟩
theorem qbM {a:Ar} {c x y:Int} {t:Tm'} (ha:AOk a) (hc:c=3∨c=6) (hx:Den a x t) (hy:0≤y) (hr:a.length+1≤3000) :
  ∃a' k,fin trA 542 [I c,I x,I y] [qag a]=some (0,[I k],[qag a'])∧Ext a a' 1∧Den a' k (.un c t):=by
 obtain⟨h1,h2⟩:=put_un (c:=c) ha hc hx (by omega)
 refine⟨_,_,qaa trA ?_,h1,h2⟩
 show o45.go _ _ _=_
 have hx0:=hx.nonneg
 have ho:qbB c=true:=by simp[qbB];omega
 have g1:¬c=1:=by omega
 have g2:¬c=7:=by omega
 have g3:¬x < 0:=by omega
 have g4:¬(0:Int) < 0:=by omega
 simp only[o45,TT,Nat.reduceEqDiff,↓reduceIte,f_one,ho,g1,g2,g3,g4,f_put _ _ _ _ _ ha.le]
def Tm'.list:List Tm'→Tm'
 | []=>.atom 0
 | t :: l=>.bin 2 t (Tm'.list l)
theorem f_list0 {xs:List Int} {ts:List Tm'} (hlen:xs.length=ts.length) (hm:xs.length≤100) (u:Int):∀(i:Nat) {a:Ar} {k:Int},i≤xs.length→AOk a→(∀j (h:j < xs.length) (h':j < ts.length),Den a xs[j] ts[j])→Den a k (Tm'.list (ts.drop i))→a.length+i≤3000 →
  ∃a' k',fin trA 1274 [I u,I k,I ((i:Int) - 1)] [qag a,qak xs]=some (0,[I k'],[qag a'])∧Ext a a' i∧Den a' k' (Tm'.list ts)
 | 0,a,k,hi,ha,hx,hk,hl=>by
  refine⟨a,k,qaa trA ?_,Ext.refl ha,hk⟩
  show o106_0.go _ _ _=_
  simp only[o106_0,TS,Nat.reduceEqDiff,↓reduceIte]
  rw[if_neg (by omega)]
 | i+1,a,k,hi,ha,hx,hk,hl=>by
  have h1:i < xs.length:=by omega
  have h2:i < ts.length:=by omega
  obtain⟨a1,k1,e1,x1,d1⟩:=qbk (c:=2) ha (by omega) (hx i h1 h2) hk (by omega)
  have l1:=x1.len
  obtain⟨a2,k2,e2,x2,d2⟩:=f_list0 hlen hm u i (a:=a1) (k:=k1) (by omega) x1.ok (fun j h h'=>(hx j h h').mono x1.pre) (by rw[List.drop_eq_getElem_cons h2];exact d1) (by omega)
  refine⟨a2,k2,qaa trA ?_,(x1.trans x2).le (by omega),d2⟩
  show o106_0.go _ _ _=_
  have e:wr ((i:Int) - 1)=(i:Int) - 1:=qaj (by omega) (by omega)
  rw[show((i+1:Nat):Int) - 1=(i:Int) by omega]
  have g0:(0:Int)≤(i:Int):=by omega
  have g1:(i:Int) < (xs.length:Int):=by omega
  simp only[o106_0,TS,Nat.reduceEqDiff,↓reduceIte,encI_len,Int.toNat_natCast,qam xs i h1,e1,e,e2,g0,g1]
theorem Dens.get {a:Ar}:∀{xs ts},Dens a xs ts→∀j (h:j < xs.length) (h':j < ts.length),Den a xs[j] ts[j]
 | _,_,.nil,j,h,_=>absurd h (by simp)
 | _,_,.cons d ds,0,_,_=>d
 | _,_,.cons d ds,j+1,h,h'=>ds.get j (by simpa using h) (by simpa using h')
theorem qcc {a:Ar} {xs:List Int} {ts:List Tm'} (ha:AOk a) (hx:Dens a xs ts) (hm:xs.length≤100) (hl:a.length+xs.length+1≤3000) :
  ∃a' k',fin trA 1275 [] [qag a,qak xs]=some (0,[I k'],[qag a'])∧Ext a a' (1+xs.length)∧Den a' k' (Tm'.list ts):=by
 obtain⟨a1,k1,e1,x1,d1⟩:=qat (n:=0) ha (by omega) (by omega) (by omega)
 have l1:=x1.len
 obtain⟨a2,k2,e2,x2,d2⟩:=f_list0 hx.len hm 0 xs.length (a:=a1) (k:=k1) (by omega) x1.ok (fun j h h'=>(hx.get j h h').mono x1.pre) (by rw[List.drop_eq_nil_of_le (by have:=hx.len;omega)];exact d1) (by omega)
 refine⟨a2,k2,qaa trA ?_,x1.trans x2,d2⟩
 show o106.go _ _ _=_
 have e:wr ((xs.length:Int) - 1)=(xs.length:Int) - 1:=qaj (by omega) (by omega)
 simp only[o106,TS,Nat.reduceEqDiff,↓reduceIte,e1,encI_len,e,e2]
abbrev Tm'.pair (t u:Tm'):Tm':=.bin 2 t u
abbrev Tm'.hash (t:Tm'):Tm':=.un 3 t
abbrev Tm'.kdf (t u:Tm'):Tm':=.bin 4 t u
abbrev Tm'.seal_ (t u:Tm'):Tm':=.bin 5 t u
abbrev Tm'.pub (t:Tm'):Tm':=.un 6 t
abbrev Tm'.sign (t u:Tm'):Tm':=.bin 8 t u
abbrev Tm'.mac (t u:Tm'):Tm':=.bin 9 t u
def Tm'.key (t:Tm') (n:Int):Tm':=.bin 4 t (.atom n)
def Tm'.turn:Nat→Tm'→Tm'
 | 0,t=>t
 | d+1,t=>(t.key 30).turn d
def Tm'.record (key:Tm') (e s:Int) (body:Tm'):Tm':=.list [.atom e,.atom s,.seal_ key (.list [.atom e,.atom s,body])]
def handT (sh psk both:Tm'):Tm':=.kdf (.pair sh psk) (.hash both)
def doneT (s:Tm') (side:Int) (said:Tm'):Tm':=.mac (s.key (10+side)) (.hash said)
def appT (s said:Tm'):Tm':=.kdf (s.key 20) (.hash said)
def qdu (secret addr:Int) (hello:Tm'):Tm':=.mac (.atom secret) (.list [.atom addr,.hash hello])
def longT (name:Int):Tm':=.atom (2000+name)
def pskT (x y:Int):Tm':=if x > y then .atom (3000+10*y+x) else .atom (3000+10*x+y)
def certT (name:Int):Tm':=.sign (.atom 1000) (.list [.atom 60,.atom name,.pub (longT name)])
def qdt (mode name:Int) (nonce pub:Tm'):Tm':=.list [.atom 61,.atom mode,.atom name,nonce,pub]
def qgq (nonce pub:Tm'):Tm':=.list [.atom 62,nonce,pub]
def qav (kind:Int) (ts:List Tm'):Tm':=.list (.atom kind :: ts)
def wordsT (side:Int) (said:Tm'):Tm':=.list [.atom (80+side),.hash said]
def ackT (hand:Tm') (lease:Int) (said:Tm'):Tm':=.seal_ (hand.key 40) (.list [.atom lease,.hash said])
theorem qeK {a:Ar} {x:Int} {X:Tm'} {n:Int} (ha:AOk a) (h_x:Den a x X) (h0_n:0≤n) (h1_n:n≤900000) (hr:a.length+2≤3000) :
  ∃a' k,fin trA 2870 [I x,I n] [qag a]=some (0,[I k],[qag a'])∧Ext a a' 2∧Den a' k (X.key n):=by
 obtain⟨a1,k1,e1,x1,d_k1⟩:=qat (n:=n) ha (by omega) (by omega) (by omega)
 have l1:=x1.len
 have h_x:=h_x.mono x1.pre
 obtain⟨a2,k2,e2,x2,d_k2⟩:=qbk (c:=4) x1.ok (by omega) h_x d_k1 (by omega)
 have l2:=x2.len
 have h_x:=h_x.mono x2.pre
 have d_k1:=d_k1.mono x2.pre
 refine⟨a2,k2,qaa trA ?_,(x1.trans x2).le (by first | omega | (simp only[List.length_cons,List.length_nil];omega)),d_k2⟩
 show o239.go _ _ _=_
 simp only[o239,TT,Nat.reduceEqDiff,↓reduceIte,e1,e2]
theorem f_hand {a:Ar} {s:Int} {S:Tm'} {p:Int} {P:Tm'} {b:Int} {B:Tm'}  (ha:AOk a) (h_s:Den a s S) (h_p:Den a p P) (h_b:Den a b B)  (hr:a.length+3≤3000) :
  ∃a' k,fin trA 3338 [I s,I p,I b] [qag a]=some (0,[I k],[qag a'])∧Ext a a' 3∧Den a' k (handT S P B):=by
 obtain⟨a1,k1,e1,x1,d_k1⟩:=qbk (c:=2) ha (by omega) h_s h_p (by omega)
 have l1:=x1.len
 have h_s:=h_s.mono x1.pre
 have h_p:=h_p.mono x1.pre
 have h_b:=h_b.mono x1.pre
 obtain⟨a2,k2,e2,x2,d_k2⟩:=qbM (c:=3) (y:=0) x1.ok (by omega) h_b (by omega) (by omega)
 have l2:=x2.len
 have h_s:=h_s.mono x2.pre
 have h_p:=h_p.mono x2.pre
 have h_b:=h_b.mono x2.pre
 have d_k1:=d_k1.mono x2.pre
 obtain⟨a3,k3,e3,x3,d_k3⟩:=qbk (c:=4) x2.ok (by omega) d_k1 d_k2 (by omega)
 have l3:=x3.len
 have h_s:=h_s.mono x3.pre
 have h_p:=h_p.mono x3.pre
 have h_b:=h_b.mono x3.pre
 have d_k1:=d_k1.mono x3.pre
 have d_k2:=d_k2.mono x3.pre
 refine⟨a3,k3,qaa trA ?_,(x1.trans (x2.trans x3)).le (by first | omega | (simp only[List.length_cons,List.length_nil];omega)),d_k3⟩
 show o278.go _ _ _=_
 simp only[o278,TT,Nat.reduceEqDiff,↓reduceIte,e1,e2,e3]
theorem f_done {a:Ar} {s:Int} {S:Tm'} {d:Int} {D:Tm'} {n:Int} (ha:AOk a) (h_s:Den a s S) (h_d:Den a d D) (h0_n:0≤n) (h1_n:n≤100) (hr:a.length+4≤3000) :
  ∃a' k,fin trA 3362 [I s,I n,I d] [qag a]=some (0,[I k],[qag a'])∧Ext a a' 4∧Den a' k (doneT S n D):=by
 obtain⟨a1,k1,e1,x1,d_k1⟩:=qeK ha h_s (n:=10+n) (by omega) (by omega) (by omega)
 have l1:=x1.len
 have h_s:=h_s.mono x1.pre
 have h_d:=h_d.mono x1.pre
 obtain⟨a2,k2,e2,x2,d_k2⟩:=qbM (c:=3) (y:=0) x1.ok (by omega) h_d (by omega) (by omega)
 have l2:=x2.len
 have h_s:=h_s.mono x2.pre
 have h_d:=h_d.mono x2.pre
 have d_k1:=d_k1.mono x2.pre
 obtain⟨a3,k3,e3,x3,d_k3⟩:=qbk (c:=9) x2.ok (by omega) d_k1 d_k2 (by omega)
 have l3:=x3.len
 have h_s:=h_s.mono x3.pre
 have h_d:=h_d.mono x3.pre
 have d_k1:=d_k1.mono x3.pre
 have d_k2:=d_k2.mono x3.pre
 refine⟨a3,k3,qaa trA ?_,(x1.trans (x2.trans x3)).le (by first | omega | (simp only[List.length_cons,List.length_nil];omega)),d_k3⟩
 show o280.go _ _ _=_
 have w1:wr (10+n)=10+n:=qaj (by omega) (by omega)
 simp only[o280,TT,Nat.reduceEqDiff,↓reduceIte,w1,e1,e2,e3]
theorem f_app {a:Ar} {s:Int} {S:Tm'} {d:Int} {D:Tm'}  (ha:AOk a) (h_s:Den a s S) (h_d:Den a d D)  (hr:a.length+4≤3000) :
  ∃a' k,fin trA 2858 [I s,I d] [qag a]=some (0,[I k],[qag a'])∧Ext a a' 4∧Den a' k (appT S D):=by
 obtain⟨a1,k1,e1,x1,d_k1⟩:=qeK ha h_s (n:=20) (by omega) (by omega) (by omega)
 have l1:=x1.len
 have h_s:=h_s.mono x1.pre
 have h_d:=h_d.mono x1.pre
 obtain⟨a2,k2,e2,x2,d_k2⟩:=qbM (c:=3) (y:=0) x1.ok (by omega) h_d (by omega) (by omega)
 have l2:=x2.len
 have h_s:=h_s.mono x2.pre
 have h_d:=h_d.mono x2.pre
 have d_k1:=d_k1.mono x2.pre
 obtain⟨a3,k3,e3,x3,d_k3⟩:=qbk (c:=4) x2.ok (by omega) d_k1 d_k2 (by omega)
 have l3:=x3.len
 have h_s:=h_s.mono x3.pre
 have h_d:=h_d.mono x3.pre
 have d_k1:=d_k1.mono x3.pre
 have d_k2:=d_k2.mono x3.pre
 refine⟨a3,k3,qaa trA ?_,(x1.trans (x2.trans x3)).le (by first | omega | (simp only[List.length_cons,List.length_nil];omega)),d_k3⟩
 show o238.go _ _ _=_
 simp only[o238,TT,Nat.reduceEqDiff,↓reduceIte,e1,e2,e3]
theorem f_cookie {a:Ar} {h:Int} {H:Tm'} {c n:Int} (ha:AOk a) (h_h:Den a h H) (h0_c:0≤c) (h1_c:c≤900000) (h0_n:0≤n) (h1_n:n≤900000) (hr:a.length+7≤3000) :
  ∃a' k,fin trA 3098 [I c,I n,I h] [qag a]=some (0,[I k],[qag a'])∧Ext a a' 7∧Den a' k (qdu c n H):=by
 obtain⟨a1,k1,e1,x1,d_k1⟩:=qat (n:=c) ha (by omega) (by omega) (by omega)
 have l1:=x1.len
 have h_h:=h_h.mono x1.pre
 obtain⟨a2,k2,e2,x2,d_k2⟩:=qat (n:=n) x1.ok (by omega) (by omega) (by omega)
 have l2:=x2.len
 have h_h:=h_h.mono x2.pre
 have d_k1:=d_k1.mono x2.pre
 obtain⟨a3,k3,e3,x3,d_k3⟩:=qbM (c:=3) (y:=0) x2.ok (by omega) h_h (by omega) (by omega)
 have l3:=x3.len
 have h_h:=h_h.mono x3.pre
 have d_k1:=d_k1.mono x3.pre
 have d_k2:=d_k2.mono x3.pre
 obtain⟨a4,k4,e4,x4,d_k4⟩:=qcc x3.ok (.cons d_k2 (.cons d_k3 .nil)) (by simp) (by simp;omega)
 have l4:=x4.len
 simp only[List.length_cons,List.length_nil] at l4
 have h_h:=h_h.mono x4.pre
 have d_k1:=d_k1.mono x4.pre
 have d_k2:=d_k2.mono x4.pre
 have d_k3:=d_k3.mono x4.pre
 obtain⟨a5,k5,e5,x5,d_k5⟩:=qbk (c:=9) x4.ok (by omega) d_k1 d_k4 (by omega)
 have l5:=x5.len
 have h_h:=h_h.mono x5.pre
 have d_k1:=d_k1.mono x5.pre
 have d_k2:=d_k2.mono x5.pre
 have d_k3:=d_k3.mono x5.pre
 have d_k4:=d_k4.mono x5.pre
 refine⟨a5,k5,qaa trA ?_,(x1.trans (x2.trans (x3.trans (x4.trans x5)))).le (by first | omega | (simp only[List.length_cons,List.length_nil];omega)),d_k5⟩
 show o258.go _ _ _=_
 simp only[qak,List.map_cons,List.map_nil] at e4
 simp only[o258,TT,Nat.reduceEqDiff,↓reduceIte,e1,e2,e3,e4,e5]
theorem f_long {a:Ar} {n:Int} (ha:AOk a) (h0:0≤n) (h1:n≤9) (hr:a.length+1≤3000) :
  ∃a' k,fin trA 1010 [I n] [qag a]=some (0,[I k],[qag a'])∧Ext a a' 1∧Den a' k (longT n):=by
 obtain⟨a1,k1,e1,x1,d1⟩:=qat (n:=2000+n) ha (by omega) (by omega) (by omega)
 refine⟨a1,k1,qaa trA ?_,x1,d1⟩
 show o84.go _ _ _=_
 have w1:wr (2000+n)=2000+n:=qaj (by omega) (by omega)
 have g:inB n 0 9=true:=by simp[inB];omega
 simp only[o84,TT,Nat.reduceEqDiff,↓reduceIte,f_in,g,w1,e1]
theorem f_psk {a:Ar} {x y:Int} (ha:AOk a) (h0:0≤x) (h1:x≤9) (h2:0≤y) (h3:y≤9) (hr:a.length+1≤3000) :
  ∃a' k,fin trA 1022 [I x,I y] [qag a]=some (0,[I k],[qag a'])∧Ext a a' 1∧Den a' k (pskT x y):=by
 have g:inB x 0 9=true:=by simp[inB];omega
 have g':inB y 0 9=true:=by simp[inB];omega
 by_cases hxy:y < x
 ·obtain⟨a1,k1,e1,x1,d1⟩:=qat (n:=3000+10*y+x) ha (by omega) (by omega) (by omega)
  refine⟨a1,k1,qaa trA ?_,x1,by unfold pskT;rw[if_pos hxy];exact d1⟩
  show o85.go _ _ _=_
  have w1:wr (10*y)=10*y:=qaj (by omega) (by omega)
  have w2:wr (3000+10*y)=3000+10*y:=qaj (by omega) (by omega)
  have w3:wr (3000+10*y+x)=3000+10*y+x:=qaj (by omega) (by omega)
  simp only[o85,TT,Nat.reduceEqDiff,↓reduceIte,f_in,g,g',hxy,w1,w2,w3,e1]
 ·obtain⟨a1,k1,e1,x1,d1⟩:=qat (n:=3000+10*x+y) ha (by omega) (by omega) (by omega)
  refine⟨a1,k1,qaa trA ?_,x1,by unfold pskT;rw[if_neg hxy];exact d1⟩
  show o85.go _ _ _=_
  have w1:wr (10*x)=10*x:=qaj (by omega) (by omega)
  have w2:wr (3000+10*x)=3000+10*x:=qaj (by omega) (by omega)
  have w3:wr (3000+10*x+y)=3000+10*x+y:=qaj (by omega) (by omega)
  simp only[o85,TT,Nat.reduceEqDiff,↓reduceIte,f_in,g,g',hxy,w1,w2,w3,e1]
theorem f_cert {a:Ar}  {n:Int} (ha:AOk a)  (h0_n:0≤n) (h1_n:n≤9) (hr:a.length+10≤3000) :
  ∃a' k,fin trA 998 [I n] [qag a]=some (0,[I k],[qag a'])∧Ext a a' 10∧Den a' k (certT n):=by
 obtain⟨a1,k1,e1,x1,d_k1⟩:=qat (n:=1000) ha (by omega) (by omega) (by omega)
 have l1:=x1.len
 obtain⟨a2,k2,e2,x2,d_k2⟩:=qat (n:=60) x1.ok (by omega) (by omega) (by omega)
 have l2:=x2.len
 have d_k1:=d_k1.mono x2.pre
 obtain⟨a3,k3,e3,x3,d_k3⟩:=qat (n:=n) x2.ok (by omega) (by omega) (by omega)
 have l3:=x3.len
 have d_k1:=d_k1.mono x3.pre
 have d_k2:=d_k2.mono x3.pre
 obtain⟨a4,k4,e4,x4,d_k4⟩:=f_long x3.ok (n:=n) (by omega) (by omega) (by omega)
 have l4:=x4.len
 have d_k1:=d_k1.mono x4.pre
 have d_k2:=d_k2.mono x4.pre
 have d_k3:=d_k3.mono x4.pre
 obtain⟨a5,k5,e5,x5,d_k5⟩:=qbM (c:=6) (y:=0) x4.ok (by omega) d_k4 (by omega) (by omega)
 have l5:=x5.len
 have d_k1:=d_k1.mono x5.pre
 have d_k2:=d_k2.mono x5.pre
 have d_k3:=d_k3.mono x5.pre
 have d_k4:=d_k4.mono x5.pre
 obtain⟨a6,k6,e6,x6,d_k6⟩:=qcc x5.ok (.cons d_k2 (.cons d_k3 (.cons d_k5 .nil))) (by simp) (by simp;omega)
 have l6:=x6.len
 simp only[List.length_cons,List.length_nil] at l6
 have d_k1:=d_k1.mono x6.pre
 have d_k2:=d_k2.mono x6.pre
 have d_k3:=d_k3.mono x6.pre
 have d_k4:=d_k4.mono x6.pre
 have d_k5:=d_k5.mono x6.pre
 obtain⟨a7,k7,e7,x7,d_k7⟩:=qbk (c:=8) x6.ok (by omega) d_k1 d_k6 (by omega)
 have l7:=x7.len
 have d_k1:=d_k1.mono x7.pre
 have d_k2:=d_k2.mono x7.pre
 have d_k3:=d_k3.mono x7.pre
 have d_k4:=d_k4.mono x7.pre
 have d_k5:=d_k5.mono x7.pre
 have d_k6:=d_k6.mono x7.pre
 refine⟨a7,k7,qaa trA ?_,(x1.trans (x2.trans (x3.trans (x4.trans (x5.trans (x6.trans x7)))))).le (by first | omega | (simp only[List.length_cons,List.length_nil];omega)),d_k7⟩
 show o83.go _ _ _=_
 simp only[qak,List.map_cons,List.map_nil] at e6
 simp only[o83,TT,Nat.reduceEqDiff,↓reduceIte,e1,e2,e3,e4,e5,e6,e7]
theorem qgt {a:Ar} {c:Int} {C:Tm'} {p:Int} {P:Tm'} {m n:Int} (ha:AOk a) (h_c:Den a c C) (h_p:Den a p P) (h0_m:0≤m) (h1_m:m≤900000) (h0_n:0≤n) (h1_n:n≤900000) (hr:a.length+9≤3000) :
  ∃a' k,fin trA 554 [I m,I n,I c,I p] [qag a]=some (0,[I k],[qag a'])∧Ext a a' 9∧Den a' k (qdt m n C P):=by
 obtain⟨a1,k1,e1,x1,d_k1⟩:=qat (n:=61) ha (by omega) (by omega) (by omega)
 have l1:=x1.len
 have h_c:=h_c.mono x1.pre
 have h_p:=h_p.mono x1.pre
 obtain⟨a2,k2,e2,x2,d_k2⟩:=qat (n:=m) x1.ok (by omega) (by omega) (by omega)
 have l2:=x2.len
 have h_c:=h_c.mono x2.pre
 have h_p:=h_p.mono x2.pre
 have d_k1:=d_k1.mono x2.pre
 obtain⟨a3,k3,e3,x3,d_k3⟩:=qat (n:=n) x2.ok (by omega) (by omega) (by omega)
 have l3:=x3.len
 have h_c:=h_c.mono x3.pre
 have h_p:=h_p.mono x3.pre
 have d_k1:=d_k1.mono x3.pre
 have d_k2:=d_k2.mono x3.pre
 obtain⟨a4,k4,e4,x4,d_k4⟩:=qcc x3.ok (.cons d_k1 (.cons d_k2 (.cons d_k3 (.cons h_c (.cons h_p .nil))))) (by simp) (by simp;omega)
 have l4:=x4.len
 simp only[List.length_cons,List.length_nil] at l4
 have h_c:=h_c.mono x4.pre
 have h_p:=h_p.mono x4.pre
 have d_k1:=d_k1.mono x4.pre
 have d_k2:=d_k2.mono x4.pre
 have d_k3:=d_k3.mono x4.pre
 refine⟨a4,k4,qaa trA ?_,(x1.trans (x2.trans (x3.trans x4))).le (by first | omega | (simp only[List.length_cons,List.length_nil];omega)),d_k4⟩
 show o46.go _ _ _=_
 simp only[qak,List.map_cons,List.map_nil] at e4
 simp only[o46,TT,Nat.reduceEqDiff,↓reduceIte,e1,e2,e3,e4]
theorem f_server {a:Ar} {c:Int} {C:Tm'} {p:Int} {P:Tm'}  (ha:AOk a) (h_c:Den a c C) (h_p:Den a p P)  (hr:a.length+5≤3000) :
  ∃a' k,fin trA 2534 [I c,I p] [qag a]=some (0,[I k],[qag a'])∧Ext a a' 5∧Den a' k (qgq C P):=by
 obtain⟨a1,k1,e1,x1,d_k1⟩:=qat (n:=62) ha (by omega) (by omega) (by omega)
 have l1:=x1.len
 have h_c:=h_c.mono x1.pre
 have h_p:=h_p.mono x1.pre
 obtain⟨a2,k2,e2,x2,d_k2⟩:=qcc x1.ok (.cons d_k1 (.cons h_c (.cons h_p .nil))) (by simp) (by simp;omega)
 have l2:=x2.len
 simp only[List.length_cons,List.length_nil] at l2
 have h_c:=h_c.mono x2.pre
 have h_p:=h_p.mono x2.pre
 have d_k1:=d_k1.mono x2.pre
 refine⟨a2,k2,qaa trA ?_,(x1.trans x2).le (by first | omega | (simp only[List.length_cons,List.length_nil];omega)),d_k2⟩
 show o211.go _ _ _=_
 simp only[qak,List.map_cons,List.map_nil] at e2
 simp only[o211,TT,Nat.reduceEqDiff,↓reduceIte,e1,e2]
theorem f_words {a:Ar} {s:Int} {S:Tm'} {n:Int} (ha:AOk a) (h_s:Den a s S) (h0_n:0≤n) (h1_n:n≤100) (hr:a.length+5≤3000) :
  ∃a' k,fin trA 3350 [I n,I s] [qag a]=some (0,[I k],[qag a'])∧Ext a a' 5∧Den a' k (wordsT n S):=by
 obtain⟨a1,k1,e1,x1,d_k1⟩:=qat (n:=80+n) ha (by omega) (by omega) (by omega)
 have l1:=x1.len
 have h_s:=h_s.mono x1.pre
 obtain⟨a2,k2,e2,x2,d_k2⟩:=qbM (c:=3) (y:=0) x1.ok (by omega) h_s (by omega) (by omega)
 have l2:=x2.len
 have h_s:=h_s.mono x2.pre
 have d_k1:=d_k1.mono x2.pre
 obtain⟨a3,k3,e3,x3,d_k3⟩:=qcc x2.ok (.cons d_k1 (.cons d_k2 .nil)) (by simp) (by simp;omega)
 have l3:=x3.len
 simp only[List.length_cons,List.length_nil] at l3
 have h_s:=h_s.mono x3.pre
 have d_k1:=d_k1.mono x3.pre
 have d_k2:=d_k2.mono x3.pre
 refine⟨a3,k3,qaa trA ?_,(x1.trans (x2.trans x3)).le (by first | omega | (simp only[List.length_cons,List.length_nil];omega)),d_k3⟩
 show o279.go _ _ _=_
 simp only[qak,List.map_cons,List.map_nil] at e3
 have w1:wr (80+n)=80+n:=qaj (by omega) (by omega)
 simp only[o279,TT,Nat.reduceEqDiff,↓reduceIte,w1,e1,e2,e3]
theorem f_ack {a:Ar} {h:Int} {H:Tm'} {s:Int} {S:Tm'} {n:Int} (ha:AOk a) (h_h:Den a h H) (h_s:Den a s S) (h0_n:0≤n) (h1_n:n≤900000) (hr:a.length+8≤3000) :
  ∃a' k,fin trA 3314 [I h,I n,I s] [qag a]=some (0,[I k],[qag a'])∧Ext a a' 8∧Den a' k (ackT H n S):=by
 obtain⟨a1,k1,e1,x1,d_k1⟩:=qeK ha h_h (n:=40) (by omega) (by omega) (by omega)
 have l1:=x1.len
 have h_h:=h_h.mono x1.pre
 have h_s:=h_s.mono x1.pre
 obtain⟨a2,k2,e2,x2,d_k2⟩:=qat (n:=n) x1.ok (by omega) (by omega) (by omega)
 have l2:=x2.len
 have h_h:=h_h.mono x2.pre
 have h_s:=h_s.mono x2.pre
 have d_k1:=d_k1.mono x2.pre
 obtain⟨a3,k3,e3,x3,d_k3⟩:=qbM (c:=3) (y:=0) x2.ok (by omega) h_s (by omega) (by omega)
 have l3:=x3.len
 have h_h:=h_h.mono x3.pre
 have h_s:=h_s.mono x3.pre
 have d_k1:=d_k1.mono x3.pre
 have d_k2:=d_k2.mono x3.pre
 obtain⟨a4,k4,e4,x4,d_k4⟩:=qcc x3.ok (.cons d_k2 (.cons d_k3 .nil)) (by simp) (by simp;omega)
 have l4:=x4.len
 simp only[List.length_cons,List.length_nil] at l4
 have h_h:=h_h.mono x4.pre
 have h_s:=h_s.mono x4.pre
 have d_k1:=d_k1.mono x4.pre
 have d_k2:=d_k2.mono x4.pre
 have d_k3:=d_k3.mono x4.pre
 obtain⟨a5,k5,e5,x5,d_k5⟩:=qbk (c:=5) x4.ok (by omega) d_k1 d_k4 (by omega)
 have l5:=x5.len
 have h_h:=h_h.mono x5.pre
 have h_s:=h_s.mono x5.pre
 have d_k1:=d_k1.mono x5.pre
 have d_k2:=d_k2.mono x5.pre
 have d_k3:=d_k3.mono x5.pre
 have d_k4:=d_k4.mono x5.pre
 refine⟨a5,k5,qaa trA ?_,(x1.trans (x2.trans (x3.trans (x4.trans x5)))).le (by first | omega | (simp only[List.length_cons,List.length_nil];omega)),d_k5⟩
 show o276.go _ _ _=_
 simp only[qak,List.map_cons,List.map_nil] at e4
 simp only[o276,TT,Nat.reduceEqDiff,↓reduceIte,e1,e2,e3,e4,e5]
theorem qgc {a:Ar} {p:Int} {P:Tm'} {n:Int} (ha:AOk a) (h_p:Den a p P) (h0_n:0≤n) (h1_n:n≤900000) (hr:a.length+4≤3000) :
  ∃a' k,fin trA 578 [I n] [qag a,[[I p]]]=some (0,[I k],[qag a'])∧Ext a a' 4∧Den a' k (qav n [P]):=by
 obtain⟨a1,k1,e1,x1,d_k1⟩:=qat (n:=n) ha (by omega) (by omega) (by omega)
 have l1:=x1.len
 have h_p:=h_p.mono x1.pre
 obtain⟨a2,k2,e2,x2,d_k2⟩:=qcc x1.ok (.cons d_k1 (.cons h_p .nil)) (by simp) (by simp;omega)
 have l2:=x2.len
 simp only[List.length_cons,List.length_nil] at l2
 have h_p:=h_p.mono x2.pre
 have d_k1:=d_k1.mono x2.pre
 refine⟨a2,k2,qaa trA ?_,(x1.trans x2).le (by first | omega | (simp only[List.length_cons,List.length_nil];omega)),d_k2⟩
 show o48.go _ _ _=_
 simp only[qak,List.map_cons,List.map_nil] at e2
 simp only[o48,TT,Nat.reduceEqDiff,↓reduceIte,e1,e2]
 simp
theorem qbt {a:Ar} {p:Int} {P:Tm'} {q:Int} {Q:Tm'} {n:Int} (ha:AOk a) (h_p:Den a p P) (h_q:Den a q Q) (h0_n:0≤n) (h1_n:n≤900000) (hr:a.length+5≤3000) :
  ∃a' k,fin trA 578 [I n] [qag a,[[I p],[I q]]]=some (0,[I k],[qag a'])∧Ext a a' 5∧Den a' k (qav n [P,Q]):=by
 obtain⟨a1,k1,e1,x1,d_k1⟩:=qat (n:=n) ha (by omega) (by omega) (by omega)
 have l1:=x1.len
 have h_p:=h_p.mono x1.pre
 have h_q:=h_q.mono x1.pre
 obtain⟨a2,k2,e2,x2,d_k2⟩:=qcc x1.ok (.cons d_k1 (.cons h_p (.cons h_q .nil))) (by simp) (by simp;omega)
 have l2:=x2.len
 simp only[List.length_cons,List.length_nil] at l2
 have h_p:=h_p.mono x2.pre
 have h_q:=h_q.mono x2.pre
 have d_k1:=d_k1.mono x2.pre
 refine⟨a2,k2,qaa trA ?_,(x1.trans x2).le (by first | omega | (simp only[List.length_cons,List.length_nil];omega)),d_k2⟩
 show o48.go _ _ _=_
 simp only[qak,List.map_cons,List.map_nil] at e2
 simp only[o48,TT,Nat.reduceEqDiff,↓reduceIte,e1,e2]
 simp
theorem f_epoch0 {e:Nat} (he:e≤8) (u:Int):∀(d i:Nat) {a:Ar} {x:Int} {t:Tm'},i+d=e→AOk a→Den a x t→a.length+2*d≤3000 →
  ∃a' k,fin trA 2882 [I x,I e,I u,I i] [qag a]=some (0,[I k],[qag a'])∧Ext a a' (2*d)∧Den a' k (t.turn d)
 | 0,i,a,x,t,hi,ha,hx,hl=>by
  refine⟨a,x,qaa trA ?_,Ext.refl ha,hx⟩
  show o240_0.go _ _ _=_
  simp only[o240_0,TS,Nat.reduceEqDiff,↓reduceIte]
  rw[if_neg (by omega)]
 | d+1,i,a,x,t,hi,ha,hx,hl=>by
  obtain⟨a1,k1,e1,x1,d1⟩:=qeK (n:=30) ha hx (by omega) (by omega) (by omega)
  have l1:=x1.len
  obtain⟨a2,k2,e2,x2,d2⟩:=f_epoch0 he u d (i+1) (by omega) x1.ok d1 (by omega)
  refine⟨a2,k2,qaa trA ?_,(x1.trans x2).le (by omega),d2⟩
  show o240_0.go _ _ _=_
  have e:wr ((i:Int)+1)=((i+1:Nat):Int):=by rw[qaj (by omega) (by omega)];omega
  simp only[o240_0,TS,Nat.reduceEqDiff,↓reduceIte,e1,e,e2]
  rw[if_pos (by omega)]
theorem f_epoch {e:Nat} (he:e≤8) {a:Ar} {x:Int} {t:Tm'} (ha:AOk a) (hx:Den a x t) (hl:a.length+16≤3000) :
  ∃a' k,fin trA 2883 [I x,I e] [qag a]=some (0,[I k],[qag a'])∧Ext a a' 16∧Den a' k (t.turn e):=by
 obtain⟨a1,k1,e1,x1,d1⟩:=f_epoch0 he 0 e 0 (by omega) ha hx (by omega)
 refine⟨a1,k1,qaa trA ?_,x1.le (by omega),d1⟩
 show o240.go _ _ _=_
 have h1:inB (e:Int) 0 8=true:=by simp[inB];omega
 rw[show((0:Nat):Int)=0 from rfl] at e1
 simp only[o240,TT,Nat.reduceEqDiff,↓reduceIte,f_in,h1,qdC a x ha.le,hx.nodeOk ha,e1]
theorem f_record {a:Ar} {x:Int} {X:Tm'} {b:Int} {B':Tm'} {e s:Int} (ha:AOk a) (h_x:Den a x X) (h_b:Den a b B') (he:0≤e∧e≤8) (hs:0≤s∧s≤9999) (hr:a.length+11≤3000) :
  ∃a' k,fin trA 2894 [I x,I e,I s,I b] [qag a]=some (0,[I k],[qag a'])∧Ext a a' 11∧Den a' k (Tm'.record X e s B'):=by
 have h_xok:=h_x.nodeOk ha
 have h_bok:=h_b.nodeOk ha
 obtain⟨a1,k1,e1,x1,d_k1⟩:=qat (n:=e) ha (by omega) (by omega) (by omega)
 have l1:=x1.len
 have h_x:=h_x.mono x1.pre
 have h_b:=h_b.mono x1.pre
 obtain⟨a2,k2,e2,x2,d_k2⟩:=qat (n:=s) x1.ok (by omega) (by omega) (by omega)
 have l2:=x2.len
 have h_x:=h_x.mono x2.pre
 have h_b:=h_b.mono x2.pre
 have d_k1:=d_k1.mono x2.pre
 obtain⟨a3,k3,e3,x3,d_k3⟩:=qcc x2.ok (.cons d_k1 (.cons d_k2 (.cons h_b .nil))) (by simp) (by simp;omega)
 have l3:=x3.len
 simp only[List.length_cons,List.length_nil] at l3
 have h_x:=h_x.mono x3.pre
 have h_b:=h_b.mono x3.pre
 have d_k1:=d_k1.mono x3.pre
 have d_k2:=d_k2.mono x3.pre
 obtain⟨a4,k4,e4,x4,d_k4⟩:=qbk (c:=5) x3.ok (by omega) h_x d_k3 (by omega)
 have l4:=x4.len
 have h_x:=h_x.mono x4.pre
 have h_b:=h_b.mono x4.pre
 have d_k1:=d_k1.mono x4.pre
 have d_k2:=d_k2.mono x4.pre
 have d_k3:=d_k3.mono x4.pre
 obtain⟨a5,k5,e5,x5,d_k5⟩:=qcc x4.ok (.cons d_k1 (.cons d_k2 (.cons d_k4 .nil))) (by simp) (by simp;omega)
 have l5:=x5.len
 simp only[List.length_cons,List.length_nil] at l5
 have h_x:=h_x.mono x5.pre
 have h_b:=h_b.mono x5.pre
 have d_k1:=d_k1.mono x5.pre
 have d_k2:=d_k2.mono x5.pre
 have d_k3:=d_k3.mono x5.pre
 have d_k4:=d_k4.mono x5.pre
 refine⟨a5,k5,qaa trA ?_,(x1.trans (x2.trans (x3.trans (x4.trans x5)))).le (by first | omega | (simp only[List.length_cons,List.length_nil];omega)),d_k5⟩
 show o241.go _ _ _=_
 simp only[qak,List.map_cons,List.map_nil] at e3 e5
 have g1:inB e 0 8=true:=by simp[inB];omega
 have g2:inB s 0 9999=true:=by simp[inB];omega
 simp only[o241,TT,Nat.reduceEqDiff,↓reduceIte,f_in,g1,g2,qdC a _ ha.le,h_xok,h_bok,e1,e2,e3,e4,e5]
def qer (s d h v:Int):Tm':=.list [.atom 90,.atom s,.atom d,.atom h,.atom v,.atom (s+d+h+v)]
def qaX (s d h v:Int):Bool:=inB s 0 255&&(inB d 0 255&&(inB h 1 9&&inB v 0 999))
theorem f_packetOk (s d h v:Int):fin trA 2654 [I s,I d,I h,I v] []=some (0,[B (qaX s d h v)],[]):=by
 refine qaa trA ?_
 show o221.go _ _ _=_
 simp only[o221,TT,Nat.reduceEqDiff,↓reduceIte,f_in,qaX]
 cases inB s 0 255<;>cases inB d 0 255<;>cases inB h 1 9<;>simp
theorem f_packet {a:Ar}  {s d h v:Int} (ha:AOk a)  (hp:qaX s d h v=true) (hr:a.length+13≤3000) :
  ∃a' k,fin trA 2342 [I s,I d,I h,I v] [qag a]=some (0,[I k],[qag a'])∧Ext a a' 13∧Den a' k (qer s d h v):=by
 have hq:=hp
 simp[qaX,inB] at hq
 obtain⟨a1,k1,e1,x1,d_k1⟩:=qat (n:=90) ha (by omega) (by omega) (by omega)
 have l1:=x1.len
 obtain⟨a2,k2,e2,x2,d_k2⟩:=qat (n:=s) x1.ok (by omega) (by omega) (by omega)
 have l2:=x2.len
 have d_k1:=d_k1.mono x2.pre
 obtain⟨a3,k3,e3,x3,d_k3⟩:=qat (n:=d) x2.ok (by omega) (by omega) (by omega)
 have l3:=x3.len
 have d_k1:=d_k1.mono x3.pre
 have d_k2:=d_k2.mono x3.pre
 obtain⟨a4,k4,e4,x4,d_k4⟩:=qat (n:=h) x3.ok (by omega) (by omega) (by omega)
 have l4:=x4.len
 have d_k1:=d_k1.mono x4.pre
 have d_k2:=d_k2.mono x4.pre
 have d_k3:=d_k3.mono x4.pre
 obtain⟨a5,k5,e5,x5,d_k5⟩:=qat (n:=v) x4.ok (by omega) (by omega) (by omega)
 have l5:=x5.len
 have d_k1:=d_k1.mono x5.pre
 have d_k2:=d_k2.mono x5.pre
 have d_k3:=d_k3.mono x5.pre
 have d_k4:=d_k4.mono x5.pre
 obtain⟨a6,k6,e6,x6,d_k6⟩:=qat (n:=s+d+h+v) x5.ok (by omega) (by omega) (by omega)
 have l6:=x6.len
 have d_k1:=d_k1.mono x6.pre
 have d_k2:=d_k2.mono x6.pre
 have d_k3:=d_k3.mono x6.pre
 have d_k4:=d_k4.mono x6.pre
 have d_k5:=d_k5.mono x6.pre
 obtain⟨a7,k7,e7,x7,d_k7⟩:=qcc x6.ok (.cons d_k1 (.cons d_k2 (.cons d_k3 (.cons d_k4 (.cons d_k5 (.cons d_k6 .nil)))))) (by simp) (by simp;omega)
 have l7:=x7.len
 simp only[List.length_cons,List.length_nil] at l7
 have d_k1:=d_k1.mono x7.pre
 have d_k2:=d_k2.mono x7.pre
 have d_k3:=d_k3.mono x7.pre
 have d_k4:=d_k4.mono x7.pre
 have d_k5:=d_k5.mono x7.pre
 have d_k6:=d_k6.mono x7.pre
 refine⟨a7,k7,qaa trA ?_,(x1.trans (x2.trans (x3.trans (x4.trans (x5.trans (x6.trans x7)))))).le (by first | omega | (simp only[List.length_cons,List.length_nil];omega)),d_k7⟩
 show o195.go _ _ _=_
 simp only[qak,List.map_cons,List.map_nil] at e7
 have w1:wr (s+d)=s+d:=qaj (by omega) (by omega)
 have w2:wr (s+d+h)=s+d+h:=qaj (by omega) (by omega)
 have w3:wr (s+d+h+v)=s+d+h+v:=qaj (by omega) (by omega)
 simp only[o195,TT,Nat.reduceEqDiff,↓reduceIte,f_packetOk,hp,w1,w2,w3,e1,e2,e3,e4,e5,e6,e7]
theorem Den.iff {a:Ar} (ha:AOk a) {x y:Int} {t u:Tm'} (h:Den a x t) (k:Den a y u):x=y↔t=u :=
 ⟨fun e=>by subst e;exact h.fun k,fun e=>by subst e;exact h.inj ha k⟩
theorem split_len:∀{n:Nat} {t:Tm'} {l:List Tm'} {u:Tm'},split n t=some (l,u)→l.length=n
 | 0,t,l,u,h=>by cases h;rfl
 | n+1,.atom _,l,u,h=>by cases h
 | n+1,.un _ _,l,u,h=>by cases h
 | n+1,.bin c t v,l,u,h=>by
  unfold split at h
  split at h
  ·obtain⟨⟨l',v'⟩,hs,he⟩:=Option.map_eq_some_iff.1 h
   cases he
   simp[split_len hs]
  ·cases h
theorem qcV {n:Nat} {t:Tm'} {l:List Tm'} (h:qbe n t=some l):l.length=n:=by
 unfold qbe at h
 split at h
 ·rename_i l' m hs
  split at h
  ·cases h;exact split_len hs
  ·cases h
 ·cases h
theorem Dens.nil' {a:Ar} {ys:List Int} (h:Dens a ys []):ys=[]:=by cases h;rfl
theorem Dens.cons' {a:Ar} {ys:List Int} {t:Tm'} {ts:List Tm'} (h:Dens a ys (t :: ts)):∃x xs,ys=x :: xs∧Den a x t∧Dens a xs ts:=by
 cases h with
 | cons h hs=>exact⟨_,_,rfl,h,hs⟩
theorem qdI {a:Ar} (ha:AOk a) {n:Nat} (hn:n≤100) {k:Int} {t:Tm'} (hk:Den a k t) {l:List Tm'} (h:qbe n t=some l):∃ys,fin trA 2715 [I k,I n] [qag a]=some (0,[B true],[qak ys])∧Dens a ys l:=(f_parts ha hn hk).1 l h
theorem qbZ {a:Ar} (ha:AOk a) {n:Nat} (hn:n≤100) {k:Int} {t:Tm'} (hk:Den a k t) (h:qbe n t=none):fin trA 2715 [I k,I n] [qag a]=some (0,[B false],[[]]):=(f_parts ha hn hk).2 h
theorem qch {a:Ar} (ha:AOk a) {k:Int} {t:Tm'} (hk:Den a k t):(∃u v w x y z,qbe 3 t=some [u,v,w]∧fin trA 2715 [I k,I 3] [qag a]=some (0,[B true],[[[I x],[I y],[I z]]])∧Den a x u∧Den a y v∧Den a z w)∨(qbe 3 t=none∧fin trA 2715 [I k,I 3] [qag a]=some (0,[B false],[[]])):=by
 cases h:qbe 3 t with
 | none=>exact .inr ⟨rfl,qbZ ha (n:=3) (by omega) hk h⟩
 | some l =>
  have hl:=qcV h
  match l,hl with
  | [u,v,w],_ =>
   obtain⟨ys,e,d⟩:=qdI ha (n:=3) (by omega) hk h
   obtain⟨x,ys,rfl,d1,d⟩:=d.cons'
   obtain⟨y,ys,rfl,d2,d⟩:=d.cons'
   obtain⟨z,ys,rfl,d3,d⟩:=d.cons'
   obtain rfl:=d.nil'
   exact .inl ⟨u,v,w,x,y,z,rfl,e,d1,d2,d3⟩
theorem qcH {a:Ar} (ha:AOk a) {x:Int} {t:Tm'} (h:Den a x t) (c:Int):fin trA 2678 [I x,I c] [qag a]=some (0,[B (decide (t.kind=c))],[]):=by rw[f_is a _ _ ha.le,isK_den ha h]
theorem f_isOut {a:Ar} (ha:AOk a) {x:Int} (h:Out_ a x) (c:Int):fin trA 2678 [I x,I c] [qag a]=some (0,[B false],[]):=by rw[f_is a _ _ ha.le,isK_out h]
theorem qdF {a:Ar} {x c:Int} {t:Tm'} (h:Den a x t) (hk:t.kind=c) (hc:c≠1∧c≠3∧c≠6):∃u v,t=.bin c u v:=by
 cases t with
 | atom m=>exact absurd hk.symm hc.1
 | un d t=>obtain⟨_,_,_,hd,_⟩:=h;simp only[Tm'.kind] at hk;omega
 | bin d t u=>simp only[Tm'.kind] at hk;subst hk;exact⟨_,_,rfl⟩
theorem kind_un {a:Ar} {x c:Int} {t:Tm'} (h:Den a x t) (hk:t.kind=c) (hc:c=3∨c=6):∃u,t=.un c u:=by
 cases t with
 | atom m=>simp only[Tm'.kind] at hk;omega
 | un d t=>simp only[Tm'.kind] at hk;subst hk;exact⟨_,rfl⟩
 | bin d t u=>obtain⟨_,_,_,_,hd,_⟩:=h;simp only[Tm'.kind] at hk;omega
def qdg (key:Tm'):Tm'→Option Tm'
 | .bin c k b=>if c=5∧k=key then some b else none
 | _=>none
theorem f_open {a:Ar} (ha:AOk a) {x k:Int} {key t:Tm'} (hx:Den a x key) (hk:Den a k t) :
  (∀b,qdg key t=some b→∃j,fin trA 3374 [I x,I k] [qag a]=some (0,[I j,B true],[])∧Den a j b) ∧
  (qdg key t=none→fin trA 3374 [I x,I k] [qag a]=some (0,[I (-1),B false],[])):=by
 by_cases h5:t.kind=5
 ·obtain⟨u,v,rfl⟩:=qdF hk h5 (by omega)
  obtain⟨p,hp,i,j,rfl,hnd,d1,d2⟩:=qdc ha hk
  have g0:(0:Int)≤(p:Int):=by omega
  have g1:(p:Int) < (a.length:Int):=by omega
  have hi:=d1.iff ha hx
  by_cases hu:u=key
  ·subst hu
   obtain rfl:i=x:=hi.2 rfl
   refine⟨fun b hb=>?_,fun hb=>by simp[qdg] at hb⟩
   simp[qdg] at hb
   subst hb
   refine⟨j,qaa trA ?_,d2⟩
   show o281.go _ _ _=_
   simp only[o281,TT,Nat.reduceEqDiff,↓reduceIte,qcH ha hk,h5,encA_len,Int.toNat_natCast,qal a p hp,hnd,Nd.enc,g0,g1]
  ·have hix:¬i=x:=fun e=>hu (hi.1 e)
   refine⟨fun b hb=>by simp[qdg,hu] at hb,fun _=>qaa trA ?_⟩
   show o281.go _ _ _=_
   simp only[o281,TT,Nat.reduceEqDiff,↓reduceIte,qcH ha hk,h5,encA_len,Int.toNat_natCast,qal a p hp,hnd,Nd.enc,g0,g1,hix]
 ·refine⟨fun b hb=>?_,fun _=>qaa trA ?_⟩
  ·cases t with
   | bin c u v =>
    simp only[Tm'.kind] at h5
    simp[qdg,h5] at hb
   | atom m=>cases hb
   | un c u=>cases hb
  ·show o281.go _ _ _=_
   simp only[o281,TT,Nat.reduceEqDiff,↓reduceIte,qcH ha hk,h5]
def qdb (pub:Tm'):Tm'→Option Tm'
 | .bin c k b=>if c=8∧pub=.un 6 k then some b else none
 | _=>none
theorem f_signed {a:Ar} (ha:AOk a) {x k:Int} {pub t:Tm'} (hx:Den a x pub) (hk:Den a k t) :
  (∀b,qdb pub t=some b→∃j,fin trA 3410 [I x,I k] [qag a]=some (0,[I j,B true],[])∧Den a j b) ∧
  (qdb pub t=none→fin trA 3410 [I x,I k] [qag a]=some (0,[I (-1),B false],[])):=by
 by_cases h6:pub.kind=6
 ·obtain⟨s,rfl⟩:=kind_un hx h6 (.inr rfl)
  obtain⟨q,hq,l,rfl,hnq,d3⟩:=den_un ha hx
  by_cases h8:t.kind=8
  ·obtain⟨u,v,rfl⟩:=qdF hk h8 (by omega)
   obtain⟨p,hp,i,j,rfl,hnd,d1,d2⟩:=qdc ha hk
   have g0:(0:Int)≤(p:Int):=by omega
   have g1:(p:Int) < (a.length:Int):=by omega
   have g2:(0:Int)≤(q:Int):=by omega
   have g3:(q:Int) < (a.length:Int):=by omega
   have hi:=d1.iff ha d3
   by_cases hu:u=s
   ·subst hu
    obtain rfl:i=l:=hi.2 rfl
    refine⟨fun b hb=>?_,fun hb=>by simp[qdb] at hb⟩
    simp[qdb] at hb
    subst hb
    refine⟨j,qaa trA ?_,d2⟩
    show o284.go _ _ _=_
    simp only[o284,TT,Nat.reduceEqDiff,↓reduceIte,qcH ha hk,qcH ha hx,h6,h8,encA_len,Int.toNat_natCast,qal a p hp,qal a q hq,hnd,hnq,Nd.enc,g0,g1,g2,g3]
   ·have hix:¬i=l:=fun e=>hu (hi.1 e)
    refine⟨fun b hb=>by simp[qdb] at hb;exact absurd hb.1.symm hu,fun _=>qaa trA ?_⟩
    show o284.go _ _ _=_
    simp only[o284,TT,Nat.reduceEqDiff,↓reduceIte,qcH ha hk,qcH ha hx,h6,h8,encA_len,Int.toNat_natCast,qal a p hp,qal a q hq,hnd,hnq,Nd.enc,g0,g1,g2,g3,hix]
  ·refine⟨fun b hb=>?_,fun _=>qaa trA ?_⟩
   ·cases t with
    | bin c u v =>
     simp only[Tm'.kind] at h8
     simp[qdb,h8] at hb
    | atom m=>cases hb
    | un c u=>cases hb
   ·show o284.go _ _ _=_
    simp only[o284,TT,Nat.reduceEqDiff,↓reduceIte,qcH ha hk,qcH ha hx,h6,h8]
 ·refine⟨fun b hb=>?_,fun _=>qaa trA ?_⟩
  ·cases t with
   | bin c u v =>
    simp only[qdb] at hb
    split at hb
    ·rename_i hc;rw[hc.2] at h6;exact absurd rfl h6
    ·cases hb
   | atom m=>cases hb
   | un c u=>cases hb
  ·show o284.go _ _ _=_
   simp only[o284,TT,Nat.reduceEqDiff,↓reduceIte,qcH ha hx,h6]
theorem f_signed_out {a:Ar} (ha:AOk a) {x k:Int} (hx:Out_ a x):fin trA 3410 [I x,I k] [qag a]=some (0,[I (-1),B false],[]):=by
 refine qaa trA ?_
 show o284.go _ _ _=_
 simp only[o284,TT,Nat.reduceEqDiff,↓reduceIte,f_isOut ha hx]
def Tm'.nonce:Tm'→Bool
 | .atom n=>decide (1000≤n)
 | _=>false
theorem f_nonce {a:Ar} (ha:AOk a) {x:Int} {t:Tm'} (h:Den a x t):fin trA 3278 [I x] [qag a]=some (0,[B t.nonce],[]):=by
 refine qaa trA ?_
 show o273.go _ _ _=_
 simp only[o273,TT,Nat.reduceEqDiff,↓reduceIte,qes ha h]
 cases t with
 | atom m=>by_cases hm:1000≤m<;>simp[Tm'.num,Tm'.nonce,hm]
 | un c t=>simp[Tm'.num,Tm'.nonce]
 | bin c t u=>simp[Tm'.num,Tm'.nonce]
def qdq (t:Tm'):Option (Int × Int):=match qbe 3 t with
 | some [u,v,_]=>if u.num.2=true∧v.num.2=true∧inB u.num.1 0 8=true∧inB v.num.1 0 9999=true then some (u.num.1,v.num.1) else none
 | _=>none
theorem f_head {a:Ar} (ha:AOk a) {k:Int} {t:Tm'} (hk:Den a k t) :
  (∀e s,qdq t=some (e,s)→fin trA 2726 [I k] [qag a]=some (0,[I e,I s,B true],[])) ∧
  (qdq t=none→fin trA 2726 [I k] [qag a]=some (0,[I 0,I 0,B false],[])):=by
 rcases qch ha hk with ⟨u,v,w,x,y,z,e0,e1,d1,d2,d3⟩ | ⟨e0,e1⟩
 ·have e2:=qes ha d1
  have e3:=qes ha d2
  simp only[qdq,e0]
  refine⟨fun e s h=>qaa trA ?_,fun h=>qaa trA ?_⟩
  ·split at h
   ·rename_i hc
    obtain⟨c1,c2,c3,c4⟩:=hc
    cases h
    show o227.go _ _ _=_
    simp only[o227,TT,Nat.reduceEqDiff,↓reduceIte,e1,e2,e3,f_in,c1,c2,c3,c4,TN,Nat.reduceAdd,Int.reduceLT,Int.reduceLE,Int.reduceToNat]
   ·cases h
  ·split at h
   ·cases h
   ·rename_i hc
    show o227.go _ _ _=_
    cases c1:u.num.2 with
    | false=>simp only[o227,TT,Nat.reduceEqDiff,↓reduceIte,e1,e2,e3,f_in,c1,TN,Nat.reduceAdd,Int.reduceLT,Int.reduceLE,Int.reduceToNat]
    | true =>
     cases c2:v.num.2 with
     | false=>simp only[o227,TT,Nat.reduceEqDiff,↓reduceIte,e1,e2,e3,f_in,c1,c2,TN,Nat.reduceAdd,Int.reduceLT,Int.reduceLE,Int.reduceToNat]
     | true =>
      cases c3:inB u.num.1 0 8 with
      | false=>simp only[o227,TT,Nat.reduceEqDiff,↓reduceIte,e1,e2,e3,f_in,c1,c2,c3,TN,Nat.reduceAdd,Int.reduceLT,Int.reduceLE,Int.reduceToNat]
      | true =>
       cases c4:inB v.num.1 0 9999 with
       | false=>simp only[o227,TT,Nat.reduceEqDiff,↓reduceIte,e1,e2,e3,f_in,c1,c2,c3,c4,TN,Nat.reduceAdd,Int.reduceLT,Int.reduceLE,Int.reduceToNat]
       | true=>exact absurd ⟨c1,c2,c3,c4⟩ hc
 ·simp only[qdq,e0]
  refine⟨fun e s h=>(by cases h),fun _=>qaa trA ?_⟩
  show o227.go _ _ _=_
  simp only[o227,TT,Nat.reduceEqDiff,↓reduceIte,e1]
def qbw (key t:Tm'):Option Tm':=match qdq t,qbe 3 t with
 | some _,some [u,v,c]=>match (qdg key c).bind (qbe 3) with
  | some [u',v',b]=>if u'=u∧v'=v then some b else none
  | _=>none
 | _,_=>none
theorem f_openRec {a:Ar} (ha:AOk a) {x k:Int} {key t:Tm'} (hx:Den a x key) (hk:Den a k t) :
  (∀b,qbw key t=some b→∃j,fin trA 3242 [I x,I k] [qag a]=some (0,[I j,B true],[])∧Den a j b) ∧
  (qbw key t=none→fin trA 3242 [I x,I k] [qag a]=some (0,[I (-1),B false],[])):=by
 obtain⟨eh1,eh2⟩:=f_head ha hk
 cases hh:qdq t with
 | none =>
  have e0:=eh2 hh
  simp only[qbw,hh]
  refine⟨fun b h=>(by cases h),fun _=>qaa trA ?_⟩
  show o270.go _ _ _=_
  simp only[o270,TT,Nat.reduceEqDiff,↓reduceIte,e0]
 | some es =>
  obtain⟨e,s⟩:=es
  have e0:=eh1 e s hh
  rcases qch ha hk with ⟨u,v,w,x1,y1,z1,p0,e1,d1,d2,d3⟩ | ⟨p0,e1⟩
  ·obtain⟨o1,o2⟩:=f_open ha hx d3
   cases ho:qdg key w with
   | none =>
    have e2:=o2 ho
    have e3:fin trA 2715 [I (-1),I 3] [qag a]=some (0,[B false],[[]]):=qel ha (n:=3) (by omega) (out_neg a)
    simp only[qbw,hh,p0,ho,Option.bind_none]
    refine⟨fun b h=>(by cases h),fun _=>qaa trA ?_⟩
    show o270.go _ _ _=_
    simp only[o270,TT,Nat.reduceEqDiff,↓reduceIte,e0,e1,e2,e3,TN,Nat.reduceAdd,Int.reduceLT,Int.reduceLE,Int.reduceToNat]
   | some c =>
    obtain⟨j,e2,dj⟩:=o1 c ho
    rcases qch ha dj with ⟨u',v',w',x2,y2,z2,q0,e3,g1,g2,g3⟩ | ⟨q0,e3⟩
    ·simp only[qbw,hh,p0,ho,Option.bind_some,q0]
     have hu:=g1.iff ha d1
     have hv:=g2.iff ha d2
     by_cases c1:u'=u
     ·have c1':x2=x1:=hu.2 c1
      by_cases c2:v'=v
      ·have c2':y2=y1:=hv.2 c2
       rw[if_pos ⟨c1,c2⟩]
       refine⟨fun b h=>?_,fun h=>(by cases h)⟩
       cases h
       refine⟨z2,qaa trA ?_,g3⟩
       show o270.go _ _ _=_
       simp only[o270,TT,Nat.reduceEqDiff,↓reduceIte,e0,e1,e2,e3,c1',c2',TN,Nat.reduceAdd,Int.reduceLT,Int.reduceLE,Int.reduceToNat]
      ·have c2':¬y2=y1:=fun h=>c2 (hv.1 h)
       rw[if_neg (fun h=>c2 h.2)]
       refine⟨fun b h=>(by cases h),fun _=>qaa trA ?_⟩
       show o270.go _ _ _=_
       simp only[o270,TT,Nat.reduceEqDiff,↓reduceIte,e0,e1,e2,e3,c1',c2',TN,Nat.reduceAdd,Int.reduceLT,Int.reduceLE,Int.reduceToNat]
     ·have c1':¬x2=x1:=fun h=>c1 (hu.1 h)
      rw[if_neg (fun h=>c1 h.1)]
      refine⟨fun b h=>(by cases h),fun _=>qaa trA ?_⟩
      show o270.go _ _ _=_
      simp only[o270,TT,Nat.reduceEqDiff,↓reduceIte,e0,e1,e2,e3,c1',TN,Nat.reduceAdd,Int.reduceLT,Int.reduceLE,Int.reduceToNat]
    ·simp only[qbw,hh,p0,ho,Option.bind_some,q0]
     refine⟨fun b h=>(by cases h),fun _=>qaa trA ?_⟩
     show o270.go _ _ _=_
     simp only[o270,TT,Nat.reduceEqDiff,↓reduceIte,e0,e1,e2,e3,TN,Nat.reduceAdd,Int.reduceLT,Int.reduceLE,Int.reduceToNat]
  ·simp only[qdq,p0] at hh
   cases hh
def certR:Tm'→Option (Int × Tm')
 | .bin c s b=>if c=8∧s=.atom 1000 then match qbe 3 b with
  | some [w,who,p]=>if w=.atom 60∧p.kind=6∧who.num.2=true∧inB who.num.1 0 9=true then some (who.num.1,p) else none
  | _=>none
  else none
 | _=>none
theorem f_certIn {a:Ar} (ha:AOk a) {k:Int} {t:Tm'} (hk:Den a k t) :
  (∀n p,certR t=some (n,p)→∃j,fin trA 3398 [I k] [qag a]=some (0,[I n,I j,B true],[])∧Den a j p) ∧
  (certR t=none→fin trA 3398 [I k] [qag a]=some (0,[I 0,I (-1),B false],[])):=by
 by_cases h8:t.kind=8
 ·obtain⟨s,b,rfl⟩:=qdF hk h8 (by omega)
  obtain⟨p,hp,i,j,rfl,hnd,d1,d2⟩:=qdc ha hk
  have g0:(0:Int)≤(p:Int):=by omega
  have g1:(p:Int) < (a.length:Int):=by omega
  have e1:=qfm ha d1 1000
  have e0:fin trA 2678 [I (p:Int),I 8] [qag a]=some (0,[B true],[]):=by rw[qcH ha hk,h8];rfl
  by_cases hs:s=.atom 1000
  ·simp only[certR,hs,and_self,if_true]
   rcases qch ha d2 with ⟨u,v,w,x,y,z,p0,e2,c1,c2,c3⟩ | ⟨p0,e2⟩
   ·have e3:=qfm ha c1 60
    have e4:=qcH ha c3 6
    have e5:=qes ha c2
    simp only[p0]
    by_cases q1:u=.atom 60
    ·by_cases q2:w.kind=6
     ·cases q3:v.num.2 with
      | false =>
       rw[if_neg (by simp)]
       refine⟨fun _ _ h=>(by cases h),fun _=>qaa trA ?_⟩
       show o283.go _ _ _=_
       simp only[o283,TT,Nat.reduceEqDiff,↓reduceIte,e0,encA_len,Int.toNat_natCast,qal a p hp,hnd,Nd.enc,g0,g1,e1,hs,e2,e3,q1,e4,q2,e5,q3,TN,Nat.reduceAdd,Int.reduceLT,Int.reduceLE,Int.reduceToNat]
      | true =>
       cases q4:inB v.num.1 0 9 with
       | false =>
        rw[if_neg (by simp)]
        refine⟨fun _ _ h=>(by cases h),fun _=>qaa trA ?_⟩
        show o283.go _ _ _=_
        simp only[o283,TT,Nat.reduceEqDiff,↓reduceIte,e0,encA_len,Int.toNat_natCast,qal a p hp,hnd,Nd.enc,g0,g1,e1,hs,e2,e3,q1,e4,q2,e5,q3,f_in,q4,TN,Nat.reduceAdd,Int.reduceLT,Int.reduceLE,Int.reduceToNat]
       | true =>
        rw[if_pos ⟨q1,q2,rfl,rfl⟩]
        refine⟨fun n p' h=>?_,fun h=>(by cases h)⟩
        cases h
        refine⟨z,qaa trA ?_,c3⟩
        show o283.go _ _ _=_
        simp only[o283,TT,Nat.reduceEqDiff,↓reduceIte,e0,encA_len,Int.toNat_natCast,qal a p hp,hnd,Nd.enc,g0,g1,e1,hs,e2,e3,q1,e4,q2,e5,q3,f_in,q4,TN,Nat.reduceAdd,Int.reduceLT,Int.reduceLE,Int.reduceToNat]
     ·rw[if_neg (fun h=>q2 h.2.1)]
      refine⟨fun _ _ h=>(by cases h),fun _=>qaa trA ?_⟩
      show o283.go _ _ _=_
      simp only[o283,TT,Nat.reduceEqDiff,↓reduceIte,e0,encA_len,Int.toNat_natCast,qal a p hp,hnd,Nd.enc,g0,g1,e1,hs,e2,e3,q1,e4,q2,TN,Nat.reduceAdd,Int.reduceLT,Int.reduceLE,Int.reduceToNat]
    ·rw[if_neg (fun h=>q1 h.1)]
     refine⟨fun _ _ h=>(by cases h),fun _=>qaa trA ?_⟩
     show o283.go _ _ _=_
     simp only[o283,TT,Nat.reduceEqDiff,↓reduceIte,e0,encA_len,Int.toNat_natCast,qal a p hp,hnd,Nd.enc,g0,g1,e1,hs,e2,e3,q1,TN,Nat.reduceAdd,Int.reduceLT,Int.reduceLE,Int.reduceToNat]
   ·simp only[p0]
    refine⟨fun _ _ h=>(by cases h),fun _=>qaa trA ?_⟩
    show o283.go _ _ _=_
    simp only[o283,TT,Nat.reduceEqDiff,↓reduceIte,e0,encA_len,Int.toNat_natCast,qal a p hp,hnd,Nd.enc,g0,g1,e1,hs,e2]
  ·simp only[certR,hs,and_false,if_false]
   refine⟨fun _ _ h=>(by cases h),fun _=>qaa trA ?_⟩
   show o283.go _ _ _=_
   simp only[o283,TT,Nat.reduceEqDiff,↓reduceIte,e0,encA_len,Int.toNat_natCast,qal a p hp,hnd,Nd.enc,g0,g1,e1,hs]
 ·have hn:certR t=none:=by
   cases t with
   | bin c u v =>
    simp only[Tm'.kind] at h8
    simp[certR,h8]
   | atom m=>rfl
   | un c u=>rfl
  rw[hn]
  refine⟨fun _ _ h=>(by cases h),fun _=>qaa trA ?_⟩
  show o283.go _ _ _=_
  simp only[o283,TT,Nat.reduceEqDiff,↓reduceIte,qcH ha hk,h8]
def qdj (t:Tm'):Option (Tm' × Tm'):=match qbe 3 t with
 | some [w,c,p]=>if w=.atom 62∧c.nonce=true∧p.kind=6 then some (c,p) else none
 | _=>none
theorem f_serverIn {a:Ar} (ha:AOk a) {k:Int} {t:Tm'} (hk:Den a k t) :
  (∀c p,qdj t=some (c,p)→∃x y,fin trA 3182 [I k] [qag a]=some (0,[I x,I y,B true],[])∧Den a x c∧Den a y p) ∧
  (qdj t=none→fin trA 3182 [I k] [qag a]=some (0,[I (-1),I (-1),B false],[])):=by
 rcases qch ha hk with ⟨u,v,w,x,y,z,p0,e2,c1,c2,c3⟩ | ⟨p0,e2⟩
 ·have e3:=qfm ha c1 62
  have e4:=f_nonce ha c2
  have e5:=qcH ha c3 6
  simp only[qdj,p0]
  by_cases q1:u=.atom 62
  ·cases q2:v.nonce with
   | false =>
    rw[if_neg (by simp)]
    refine⟨fun _ _ h=>(by cases h),fun _=>qaa trA ?_⟩
    show o265.go _ _ _=_
    simp only[o265,TT,Nat.reduceEqDiff,↓reduceIte,e2,e3,q1,e4,q2,TN,Nat.reduceAdd,Int.reduceLT,Int.reduceLE,Int.reduceToNat]
   | true =>
    by_cases q3:w.kind=6
    ·rw[if_pos ⟨q1,rfl,q3⟩]
     refine⟨fun c p h=>?_,fun h=>(by cases h)⟩
     cases h
     refine⟨y,z,qaa trA ?_,c2,c3⟩
     show o265.go _ _ _=_
     simp only[o265,TT,Nat.reduceEqDiff,↓reduceIte,e2,e3,q1,e4,q2,e5,q3,TN,Nat.reduceAdd,Int.reduceLT,Int.reduceLE,Int.reduceToNat]
    ·rw[if_neg (fun h=>q3 h.2.2)]
     refine⟨fun _ _ h=>(by cases h),fun _=>qaa trA ?_⟩
     show o265.go _ _ _=_
     simp only[o265,TT,Nat.reduceEqDiff,↓reduceIte,e2,e3,q1,e4,q2,e5,q3,TN,Nat.reduceAdd,Int.reduceLT,Int.reduceLE,Int.reduceToNat]
  ·rw[if_neg (fun h=>q1 h.1)]
   refine⟨fun _ _ h=>(by cases h),fun _=>qaa trA ?_⟩
   show o265.go _ _ _=_
   simp only[o265,TT,Nat.reduceEqDiff,↓reduceIte,e2,e3,q1,TN,Nat.reduceAdd,Int.reduceLT,Int.reduceLE,Int.reduceToNat]
 ·simp only[qdj,p0]
  refine⟨fun _ _ h=>(by cases h),fun _=>qaa trA ?_⟩
  show o265.go _ _ _=_
  simp only[o265,TT,Nat.reduceEqDiff,↓reduceIte,e2]
structure Hi where
 mode:Int
 name:Int
 nonce:Tm'
 pub:Tm'
def qds (t:Tm'):Option Hi:=match qbe 5 t with
 | some [w,m,n,c,p]=>if w=.atom 61∧c.nonce=true∧p.kind=6∧m.num.2=true∧n.num.2=true∧inB m.num.1 1 2=true∧inB n.num.1 0 9=true then some ⟨m.num.1,n.num.1,c,p⟩ else none
 | _=>none
theorem f_helloIn {a:Ar} (ha:AOk a) {k:Int} {t:Tm'} (hk:Den a k t) :
  (∀h,qds t=some h→∃x y,fin trA 3086 [I k] [qag a]=some (0,[I h.mode,I h.name,I x,I y,B true],[])∧Den a x h.nonce∧Den a y h.pub) ∧
  (qds t=none→fin trA 3086 [I k] [qag a]=some (0,[I 0,I 0,I 0,I 0,B false],[])):=by
 cases p0:qbe 5 t with
 | none =>
  have e2:fin trA 2715 [I k,I 5] [qag a]=some (0,[B false],[[]]):=qbZ ha (n:=5) (by omega) hk p0
  simp only[qds,p0]
  refine⟨fun _ h=>(by cases h),fun _=>qaa trA ?_⟩
  show o257.go _ _ _=_
  simp only[o257,TT,Nat.reduceEqDiff,↓reduceIte,e2]
 | some l =>
  have hl:=qcV p0
  match l,hl,p0 with
  | [w,m,n,c,p],_,p0 =>
   obtain⟨ys,e,d⟩:=qdI ha (n:=5) (by omega) hk p0
   obtain⟨x1,ys,rfl,d1,d⟩:=d.cons'
   obtain⟨x2,ys,rfl,d2,d⟩:=d.cons'
   obtain⟨x3,ys,rfl,d3,d⟩:=d.cons'
   obtain⟨x4,ys,rfl,d4,d⟩:=d.cons'
   obtain⟨x5,ys,rfl,d5,d⟩:=d.cons'
   obtain rfl:=d.nil'
   have e2:fin trA 2715 [I k,I 5] [qag a]=some (0,[B true],[[[I x1],[I x2],[I x3],[I x4],[I x5]]]):=e
   have e3:=qfm ha d1 61
   have e4:=f_nonce ha d4
   have e5:=qcH ha d5 6
   have e6:=qes ha d2
   have e7:=qes ha d3
   simp only[qds,p0]
   have no:∀{P:Prop} [Decidable P],¬P→(fin trA 3086 [I k] [qag a]=some (0,[I 0,I 0,I 0,I 0,B false],[])) →
     (∀h,(if P then some (⟨m.num.1,n.num.1,c,p⟩:Hi) else none)=some h→∃x y,fin trA 3086 [I k] [qag a]=some (0,[I h.mode,I h.name,I x,I y,B true],[])∧Den a x h.nonce∧Den a y h.pub) ∧
     ((if P then some (⟨m.num.1,n.num.1,c,p⟩:Hi) else none)=none→fin trA 3086 [I k] [qag a]=some (0,[I 0,I 0,I 0,I 0,B false],[])):=by
    intro P _ hP hf
    rw[if_neg hP]
    exact⟨fun _ h=>(by cases h),fun _=>hf⟩
   by_cases q1:w=.atom 61
   ·cases q2:c.nonce with
    | false =>
     refine no (by simp) (qaa trA ?_)
     show o257.go _ _ _=_
     simp only[o257,TT,Nat.reduceEqDiff,↓reduceIte,e2,e3,q1,e4,q2,TN,Nat.reduceAdd,Int.reduceLT,Int.reduceLE,Int.reduceToNat]
    | true =>
     by_cases q3:p.kind=6
     ·cases q4:m.num.2 with
      | false =>
       refine no (by simp) (qaa trA ?_)
       show o257.go _ _ _=_
       simp only[o257,TT,Nat.reduceEqDiff,↓reduceIte,e2,e3,q1,e4,q2,e5,q3,e6,e7,q4,TN,Nat.reduceAdd,Int.reduceLT,Int.reduceLE,Int.reduceToNat]
      | true =>
       cases q5:n.num.2 with
       | false =>
        refine no (by simp) (qaa trA ?_)
        show o257.go _ _ _=_
        simp only[o257,TT,Nat.reduceEqDiff,↓reduceIte,e2,e3,q1,e4,q2,e5,q3,e6,e7,q4,q5,TN,Nat.reduceAdd,Int.reduceLT,Int.reduceLE,Int.reduceToNat]
       | true =>
        cases q6:inB m.num.1 1 2 with
        | false =>
         refine no (by simp) (qaa trA ?_)
         show o257.go _ _ _=_
         simp only[o257,TT,Nat.reduceEqDiff,↓reduceIte,e2,e3,q1,e4,q2,e5,q3,e6,e7,q4,q5,f_in,q6,TN,Nat.reduceAdd,Int.reduceLT,Int.reduceLE,Int.reduceToNat]
        | true =>
         cases q7:inB n.num.1 0 9 with
         | false =>
          refine no (by simp) (qaa trA ?_)
          show o257.go _ _ _=_
          simp only[o257,TT,Nat.reduceEqDiff,↓reduceIte,e2,e3,q1,e4,q2,e5,q3,e6,e7,q4,q5,f_in,q6,q7,TN,Nat.reduceAdd,Int.reduceLT,Int.reduceLE,Int.reduceToNat]
         | true =>
          rw[if_pos ⟨q1,rfl,q3,rfl,rfl,rfl,rfl⟩]
          refine⟨fun h hh=>?_,fun h=>(by cases h)⟩
          cases hh
          refine⟨x4,x5,qaa trA ?_,d4,d5⟩
          show o257.go _ _ _=_
          simp only[o257,TT,Nat.reduceEqDiff,↓reduceIte,e2,e3,q1,e4,q2,e5,q3,e6,e7,q4,q5,f_in,q6,q7,TN,Nat.reduceAdd,Int.reduceLT,Int.reduceLE,Int.reduceToNat]
     ·refine no (fun h=>q3 h.2.2.1) (qaa trA ?_)
      show o257.go _ _ _=_
      simp only[o257,TT,Nat.reduceEqDiff,↓reduceIte,e2,e3,q1,e4,q2,e5,q3,TN,Nat.reduceAdd,Int.reduceLT,Int.reduceLE,Int.reduceToNat]
   ·refine no (fun h=>q1 h.1) (qaa trA ?_)
    show o257.go _ _ _=_
    simp only[o257,TT,Nat.reduceEqDiff,↓reduceIte,e2,e3,q1,TN,Nat.reduceAdd,Int.reduceLT,Int.reduceLE,Int.reduceToNat]
def qgR (k:Int):Nat:=if k=71 then 2 else if k=73 then 2 else if k=76 then 2 else if k=72 then 1 else if k=74 then 1 else if k=75 then 1 else 0
theorem f_many (k:Int):fin trA 2702 [I k] []=some (0,[I (qgR k)],[]):=by
 refine qaa trA ?_
 show o225.go _ _ _=_
 simp only[o225,TT,Nat.reduceEqDiff,↓reduceIte,qgR]
 by_cases h1:k=71
 ·simp[h1]
 by_cases h2:k=73
 ·simp[h2]
 by_cases h3:k=76
 ·simp[h3]
 by_cases h4:k=72
 ·simp[h4]
 by_cases h5:k=74
 ·simp[h5]
 by_cases h6:k=75
 ·simp[h6]
 simp[h1,h2,h3,h4,h5,h6]
theorem many_le (k:Int):qgR k≤2:=by unfold qgR;repeat (first | omega | split)
def qaN:Tm'→Option (Int × List Tm')
 | .bin c h r=>if c=2∧h.num.2=true∧qgR h.num.1≠0 then match qbe (qgR h.num.1+1) (.bin 2 h r) with
  | some (_ :: ps)=>if h.num.1=76∧(ps.headD (.un 0 (.atom 0))).num.2=false then none else some (h.num.1,ps)
  | _=>none
  else none
 | _=>none
theorem f_letterIn {a:Ar} (ha:AOk a) {k:Int} {t:Tm'} (hk:Den a k t) :
  (∀n ps,qaN t=some (n,ps)→∃x ys,fin trA 2378 [I k] [qag a]=some (1,[I n,I 1,I (ps.length:Int)],[qak (x :: ys)])∧Dens a ys ps∧ps.length=qgR n∧1≤ps.length) ∧
  (qaN t=none→fin trA 2378 [I k] [qag a]=some (0,[],[[]])):=by
 by_cases h2:t.kind=2
 ·obtain⟨h,r,rfl⟩:=qdF hk h2 (by omega)
  obtain⟨p,hp,i,j,rfl,hnd,d1,d2⟩:=qdc ha hk
  have g0:(0:Int)≤(p:Int):=by omega
  have g1:(p:Int) < (a.length:Int):=by omega
  have e1:=qes ha d1
  have e0:fin trA 2678 [I (p:Int),I 2] [qag a]=some (0,[B true],[]):=by rw[qcH ha hk,h2];rfl
  have e2:=f_many h.num.1
  have hm:=many_le h.num.1
  have w1:wr ((qgR h.num.1:Int)+1)=((qgR h.num.1+1:Nat):Int):=by rw[qaj (by omega) (by omega)];omega
  have no:∀(o:Option (Int × List Tm')),o=none→(fin trA 2378 [I (p:Int)] [qag a]=some (0,[],[[]])) →
    (∀n ps,o=some (n,ps)→∃x ys,fin trA 2378 [I (p:Int)] [qag a]=some (1,[I n,I 1,I (ps.length:Int)],[qak (x :: ys)])∧Dens a ys ps∧ps.length=qgR n∧1≤ps.length)∧(o=none→fin trA 2378 [I (p:Int)] [qag a]=some (0,[],[[]])):=by
   intro o ho hf
   subst ho
   exact⟨fun _ _ h=>(by cases h),fun _=>hf⟩
  cases q1:h.num.2 with
  | false =>
   refine no _ (by simp[qaN,q1]) (qaa trA ?_)
   show o198.go _ _ _=_
   cases p0:qbe (qgR h.num.1+1) (.bin 2 h r) with
   | none =>
    have e3:=qbZ ha (by omega) hk p0
    simp only[o198,TT,Nat.reduceEqDiff,↓reduceIte,e0,encA_len,Int.toNat_natCast,qal a p hp,hnd,Nd.enc,g0,g1,e1,e2,w1,e3,q1]
   | some l =>
    obtain⟨ys,e3,d⟩:=qdI ha (by omega) hk p0
    simp only[o198,TT,Nat.reduceEqDiff,↓reduceIte,e0,encA_len,Int.toNat_natCast,qal a p hp,hnd,Nd.enc,g0,g1,e1,e2,w1,e3,q1]
  | true =>
   cases p0:qbe (qgR h.num.1+1) (.bin 2 h r) with
   | none =>
    have e3:=qbZ ha (by omega) hk p0
    refine no _ (by simp[qaN,p0]) (qaa trA ?_)
    show o198.go _ _ _=_
    by_cases q2:qgR h.num.1=0
    ·have q2':(qgR h.num.1:Int)=0:=by omega
     simp only[o198,TT,Nat.reduceEqDiff,↓reduceIte,e0,encA_len,Int.toNat_natCast,qal a p hp,hnd,Nd.enc,g0,g1,e1,e2,w1,e3,q1]
     rw[if_pos q2']
    ·have q2':¬(qgR h.num.1:Int)=0:=by omega
     simp only[o198,TT,Nat.reduceEqDiff,↓reduceIte,e0,encA_len,Int.toNat_natCast,qal a p hp,hnd,Nd.enc,g0,g1,e1,e2,w1,e3,q1,q2']
   | some l =>
    have hl:=qcV p0
    obtain⟨ys,e3,d⟩:=qdI ha (by omega) hk p0
    match l,hl,p0,d with
    | v :: ps,hl,p0,d =>
     obtain⟨x,ys,rfl,d3,d4⟩:=d.cons'
     have hy:=d4.len
     simp only[List.length_cons] at hl
     by_cases q2:qgR h.num.1=0
     ·have q2':(qgR h.num.1:Int)=0:=by omega
      refine no _ (by simp[qaN,q2]) (qaa trA ?_)
      show o198.go _ _ _=_
      simp only[o198,TT,Nat.reduceEqDiff,↓reduceIte,e0,encA_len,Int.toNat_natCast,qal a p hp,hnd,Nd.enc,g0,g1,e1,e2,w1,e3,q1]
      rw[if_pos q2']
     ·have q2':¬(qgR h.num.1:Int)=0:=by omega
      have hlen:((x :: ys).length:Int)=(ps.length:Int)+1:=by simp[hy]
      have w2:wr ((ps.length:Int)+1 - 1)=(ps.length:Int):=by rw[qaj (by omega) (by omega)];omega
      have g3:(1:Int)≤(ps.length:Int)+1:=by omega
      have g4:(1:Int) < (ps.length:Int)+1:=by omega
      have g5:(0:Int)≤(ps.length:Int)+1:=by omega
      by_cases q3:h.num.1=76
      ·match ps,ys,d4,hl with
       | t1 :: ps',y1 :: ys',d4,hl =>
        obtain⟨z,zs,hz,c1,c2⟩:=d4.cons'
        cases hz
        have e4:=qes ha c1
        have hg:(qak (x :: y1 :: ys')).getD 1 []=[I y1]:=rfl
        cases q4:t1.num.2 with
        | false =>
         refine no _ (by simp only[qaN];rw[if_pos ⟨trivial,q1,q2⟩];simp only[p0];exact if_pos ⟨q3,q4⟩) (qaa trA ?_)
         show o198.go _ _ _=_
         simp only[o198,TT,Nat.reduceEqDiff,↓reduceIte,e0,encA_len,Int.toNat_natCast,qal a p hp,hnd,Nd.enc,g0,g1,e1,e2,w1,e3,q1,q2',encI_len,hlen,g4,hg,e4,q4,Int.reduceLE,Int.reduceLT,Int.toNat_one,Int.toNat_zero,Int.le_refl,Int.reduceToNat]
         rw[if_pos q3]
        | true =>
         have hr:qaN (.bin 2 h r)=some (76,t1 :: ps'):=by
          simp only[qaN];rw[if_pos ⟨trivial,q1,q2⟩];simp only[p0];rw[if_neg (fun hh=>by have:=hh.2;simp[q4] at this),q3]
         rw[hr]
         refine⟨fun n ps h=>?_,fun h=>(by cases h)⟩
         cases h
         refine⟨x,y1 :: ys',qaa trA ?_,d4,by rw[←q3];omega,by simp⟩
         show o198.go _ _ _=_
         simp only[o198,TT,Nat.reduceEqDiff,↓reduceIte,e0,encA_len,Int.toNat_natCast,qal a p hp,hnd,Nd.enc,g0,g1,e1,e2,w1,e3,q1,q2',encI_len,hlen,g3,g4,g5,hg,e4,q4,w2,Int.reduceLE,Int.reduceLT,Int.toNat_one,Int.toNat_zero,Int.le_refl,Int.reduceToNat]
         rw[if_pos q3,q3]
       | [],ys,d4,hl=>simp at hl;omega
       | t1 :: ps',[],d4,hl=>cases d4
      ·have hr:qaN (.bin 2 h r)=some (h.num.1,ps):=by
        simp only[qaN];rw[if_pos ⟨trivial,q1,q2⟩];simp only[p0];rw[if_neg (fun hh=>q3 hh.1)]
       rw[hr]
       refine⟨fun n ps' h=>?_,fun h=>(by cases h)⟩
       cases h
       refine⟨x,ys,qaa trA ?_,d4,by omega,by omega⟩
       show o198.go _ _ _=_
       simp only[o198,TT,Nat.reduceEqDiff,↓reduceIte,e0,encA_len,Int.toNat_natCast,qal a p hp,hnd,Nd.enc,g0,g1,e1,e2,w1,e3,q1,q2',q3,encI_len,hlen,g3,g4,g5,w2,Int.reduceLE,Int.reduceLT,Int.toNat_one,Int.toNat_zero,Int.le_refl,Int.reduceToNat]
 ·have hn:qaN t=none:=by
   cases t with
   | bin c u v =>
    simp only[Tm'.kind] at h2
    simp[qaN,h2]
   | atom m=>rfl
   | un c u=>rfl
  rw[hn]
  refine⟨fun _ _ h=>(by cases h),fun _=>qaa trA ?_⟩
  show o198.go _ _ _=_
  simp only[o198,TT,Nat.reduceEqDiff,↓reduceIte,qcH ha hk,h2]
def qbC:Tm'→Nat
 | .atom _=>1
 | .un _ t=>qbC t+1
 | .bin _ t u=>qbC t+qbC u+1
theorem qeX (t:Tm'):1≤qbC t:=by cases t<;>simp[qbC]
def qbr (t:Tm'):Int:=(min (qbC t) 100000:Nat)
theorem csize_atom (n:Int):qbr (.atom n)=1:=rfl
theorem csize_un (c:Int) (t:Tm'):qbr (.un c t)=if 1+qbr t > 100000 then 100000 else 1+qbr t:=by
 unfold qbr
 simp only[qbC]
 split<;>omega
theorem csize_bin (c:Int) (t u:Tm'):qbr (.bin c t u)=if 1+qbr t+qbr u > 100000 then 100000 else 1+qbr t+qbr u:=by
 unfold qbr
 have:=qeX t;have:=qeX u
 simp only[qbC]
 split<;>omega
theorem qcW (t:Tm'):1≤qbr t∧qbr t≤100000:=by unfold qbr;have:=qeX t;omega
structure Szs (a:Ar) (i:Nat) (ss:List Int):Prop where
 len:ss.length=i
 at_:∀(j:Nat) t,j < i→Den a (j:Int) t→ss[j]?=some (qbr t)
theorem Szs.add {a:Ar} (ha:AOk a) {i:Nat} {ss:List Int} (h:Szs a i ss) {t:Tm'} (d:Den a (i:Int) t):Szs a (i+1) (ss++[qbr t]):=by
 refine⟨by simp[h.len],fun j u hj du=>?_⟩
 by_cases hji:j=i
 ·subst hji
  rw[d.fun du,←h.len,List.getElem?_concat_length]
 ·rw[List.getElem?_append_left (by rw[h.len];omega)]
  exact h.at_ j u (by omega) du
theorem Szs.get {a:Ar} {i:Nat} {ss:List Int} (h:Szs a i ss) {x:Int} {t:Tm'} (d:Den a x t) (hx:x < (i:Int)):0≤x∧x < (ss.length:Int)∧(qak ss).getD x.toNat []=[I (qbr t)]:=by
 have h0:=d.nonneg
 have hl:=h.len
 refine⟨h0,by omega,?_⟩
 have hj:x.toNat < ss.length:=by omega
 have:=h.at_ x.toNat t (by omega) (by rw[show((x.toNat:Nat):Int)=x by omega];exact d)
 rw[qam _ _ hj]
 rw[List.getElem?_eq_getElem hj] at this
 rw[Option.some.inj this]
theorem f_sizes0 {a:Ar} (ha:AOk a) {k:Nat} (hk:k < a.length) (z:Rw):∀(d i:Nat) {ss:List Int},i+d=k+1→Szs a i ss→∃ss',fin trA 698 [I k,I i] [qag a,z,qak ss]=some (0,[],[qak ss'])∧Szs a (k+1) ss'
 | 0,i,ss,hi,hs=>by
  obtain rfl:i=k+1:=by omega
  refine⟨ss,qaa trA ?_,hs⟩
  show o58_0.go _ _ _=_
  have g:¬((k+1:Nat):Int)≤(k:Int):=by omega
  simp only[o58_0,TT,Nat.reduceEqDiff,↓reduceIte,g]
 | d+1,i,ss,hi,hs=>by
  have hfew:=ha.few
  have hil:i < a.length:=by omega
  obtain⟨t,ht⟩:=den_ex ha (i+1) i (by omega) hil
  obtain⟨ss',e1,h1⟩:=f_sizes0 ha hk z d (i+1) (by omega) (hs.add ha ht)
  refine⟨ss',qaa trA ?_,h1⟩
  have hlen:=hs.len
  have g1:(i:Int)≤(k:Int):=by omega
  have g2:(i:Int) < (a.length:Int):=by omega
  have g3:(0:Int)≤(i:Int):=by omega
  have w1:wr ((i:Int)+1)=((i+1:Nat):Int):=by rw[qaj (by omega) (by omega)];omega
  have w2:wr ((i:Int) - 1)=(i:Int) - 1:=qaj (by omega) (by omega)
  have hr:=ha.right i _ (List.getElem?_eq_getElem hil)
  have q:∀x:Int,qak ss++[[Value.int .i64 x]]=qak (ss++[x]):=fun x=>by simp[qak]
  have g4:∀x:Int,((ss++[x]).length:Int)≤100000000:=fun x=>by simp;omega
  have hpr:i≠0→∃u,Den a ((i:Int) - 1) u:=fun h0=>by
   obtain⟨u,hu⟩:=den_ex ha i (i - 1) (by omega) (by omega)
   rw[show(((i - 1:Nat):Nat):Int)=(i:Int) - 1 by omega] at hu
   exact⟨u,hu⟩
  show o58_0.go _ _ _=_
  have main:∀(b:Bool),(0 < i→b=true)→(i=0→b=false)→o58_0.go (qbO (fin trA) 698) [I k,I i] [qag a,z,qak ss]=some (0,[],[qak ss']):=by
   intro b hb1 hb2
   cases t with
   | atom m =>
    obtain⟨_,hnd⟩:=ht
    rw[Int.toNat_natCast,List.getElem?_eq_getElem hil] at hnd
    have hnd:=Option.some.inj hnd
    rw[hnd] at hr
    have en:fin trA 1514 [I 1,I m,I 0,I 0,I (i:Int)] []=some (0,[B true],[]):=by rw[qgl,hr]
    rw[csize_atom] at e1
    by_cases h0:i=0
    ·have h0':¬(0:Int) < (i:Int):=by omega
     simp only[o58_0,TT,Nat.reduceEqDiff,↓reduceIte,g1,encA_len,g2,g3,Int.toNat_natCast,qal a i hil,hnd,Nd.enc,en,h0',q,encI_len,g4,w1,e1]
    ·obtain⟨u,hu⟩:=hpr h0
     obtain⟨s1,s2,s3⟩:=hs.get hu (by omega)
     have h0':(0:Int) < (i:Int):=by omega
     have hc:¬qbr u=0:=by have:=qcW u;omega
     simp only[o58_0,TT,Nat.reduceEqDiff,↓reduceIte,g1,encA_len,g2,g3,Int.toNat_natCast,qal a i hil,hnd,Nd.enc,en,h0',w2,s1,s2,s3,hc,q,encI_len,g4,w1,e1]
   | un c v =>
    obtain⟨_,x,hnd,hc3,dx⟩:=ht
    rw[Int.toNat_natCast,List.getElem?_eq_getElem hil] at hnd
    have hnd:=Option.some.inj hnd
    rw[hnd] at hr
    have en:fin trA 1514 [I c,I 0,I x,I 0,I (i:Int)] []=some (0,[B true],[]):=by rw[qgl,hr]
    have c1:¬c=1:=by omega
    have ho:qbB c=true:=by simp[qbB];omega
    have hxi:x < (i:Int):=by
     unfold Nd.right at hr
     have hin:inB c 1 9=true:=by simp[inB];omega
     simp only[hin,c1,if_false,w2,inB] at hr
     simp at hr
     omega
    obtain⟨r1,r2,r3⟩:=hs.get dx hxi
    have hcp:=qcW v
    have w3:wr (1+qbr v)=1+qbr v:=qaj (by omega) (by omega)
    rw[csize_un] at e1
    by_cases h0:i=0
    ·omega
    ·obtain⟨u,hu⟩:=hpr h0
     obtain⟨s1,s2,s3⟩:=hs.get hu (by omega)
     have h0':(0:Int) < (i:Int):=by omega
     have hc:¬qbr u=0:=by have:=qcW u;omega
     by_cases h6:(100000:Int) < 1+qbr v
     ·rw[if_pos h6] at e1
      simp only[o58_0,TT,Nat.reduceEqDiff,↓reduceIte,g1,encA_len,g2,g3,Int.toNat_natCast,qal a i hil,hnd,Nd.enc,en,h0',w2,s1,s2,s3,hc,c1,r1,r2,r3,f_one,ho,w3,h6,q,encI_len,g4,w1,e1]
     ·rw[if_neg h6] at e1
      simp only[o58_0,TT,Nat.reduceEqDiff,↓reduceIte,g1,encA_len,g2,g3,Int.toNat_natCast,qal a i hil,hnd,Nd.enc,en,h0',w2,s1,s2,s3,hc,c1,r1,r2,r3,f_one,ho,w3,h6,q,encI_len,g4,w1,e1]
   | bin c v y =>
    obtain⟨_,x,x2,hnd,hc3,dx,dy⟩:=ht
    rw[Int.toNat_natCast,List.getElem?_eq_getElem hil] at hnd
    have hnd:=Option.some.inj hnd
    rw[hnd] at hr
    have en:fin trA 1514 [I c,I 0,I x,I x2,I (i:Int)] []=some (0,[B true],[]):=by rw[qgl,hr]
    have c1:¬c=1:=by omega
    have ho:qbB c=false:=by simp[qbB];omega
    have hxi:x < (i:Int)∧x2 < (i:Int):=by
     unfold Nd.right at hr
     have hin:inB c 1 9=true:=by simp[inB];omega
     simp only[hin,c1,if_false,w2,inB,ho] at hr
     simp at hr
     omega
    obtain⟨r1,r2,r3⟩:=hs.get dx hxi.1
    obtain⟨t1,t2,t3⟩:=hs.get dy hxi.2
    have hcp:=qcW v
    have hcq:=qcW y
    have w3:wr (1+qbr v)=1+qbr v:=qaj (by omega) (by omega)
    have w4:wr (1+qbr v+qbr y)=1+qbr v+qbr y:=qaj (by omega) (by omega)
    rw[csize_bin] at e1
    by_cases h0:i=0
    ·omega
    ·obtain⟨u,hu⟩:=hpr h0
     obtain⟨s1,s2,s3⟩:=hs.get hu (by omega)
     have h0':(0:Int) < (i:Int):=by omega
     have hc:¬qbr u=0:=by have:=qcW u;omega
     by_cases h6:(100000:Int) < 1+qbr v+qbr y
     ·rw[if_pos h6] at e1
      simp only[o58_0,TT,Nat.reduceEqDiff,↓reduceIte,g1,encA_len,g2,g3,Int.toNat_natCast,qal a i hil,hnd,Nd.enc,en,h0',w2,s1,s2,s3,hc,c1,r1,r2,r3,t1,t2,t3,f_one,ho,w3,w4,h6,q,encI_len,g4,w1,e1]
     ·rw[if_neg h6] at e1
      simp only[o58_0,TT,Nat.reduceEqDiff,↓reduceIte,g1,encA_len,g2,g3,Int.toNat_natCast,qal a i hil,hnd,Nd.enc,en,h0',w2,s1,s2,s3,hc,c1,r1,r2,r3,t1,t2,t3,f_one,ho,w3,w4,h6,q,encI_len,g4,w1,e1]
  by_cases h0:i=0
  ·exact main false (fun h=>by omega) (fun _=>rfl)
  ·exact main true (fun _=>rfl) (fun h=>absurd h h0)
theorem f_sizeOf {a:Ar} (ha:AOk a) {k:Int} {t:Tm'} (hk:Den a k t):fin trA 194 [I k] [qag a]=some (0,[I (qbr t)],[]):=by
 obtain⟨h0,h1⟩:=hk.notOut
 obtain⟨p,rfl⟩:∃p:Nat,k=p:=⟨k.toNat,by omega⟩
 have hp:p < a.length:=by omega
 obtain⟨ss,e1,hs⟩:=f_sizes0 ha hp [] (p+1) 0 (ss:=[]) (by omega) ⟨rfl,fun j t h=>by omega⟩
 have e2:fin trA 699 [I (p:Int)] [qag a]=some (0,[],[qak ss]):=by
  refine qaa trA ?_
  show o58.go _ _ _=_
  rw[show((0:Nat):Int)=0 from rfl,show qak []=[] from rfl] at e1
  simp only[o58,TT,Nat.reduceEqDiff,↓reduceIte,e1]
 obtain⟨s1,s2,s3⟩:=hs.get hk (by omega)
 refine qaa trA ?_
 show o16.go _ _ _=_
 simp only[o16,TT,Nat.reduceEqDiff,↓reduceIte,f_in,encA_len,inB_lt ha.le hp,e2,encI_len,s1,s2,s3]
def qbz (n:Nat):List Nat:=if h:127 < n then (n % 128+128) :: qbz (n / 128) else [n]
termination_by n
theorem qbH {n:Nat} (h:127 < n):qbz n=(n % 128+128) :: qbz (n / 128):=by rw[qbz,dif_pos h]
theorem qaZ {n:Nat} (h:¬127 < n):qbz n=[n]:=by rw[qbz,dif_neg h]
def qbS (l:List Nat):ByteArray:=⟨(l.map UInt8.ofNat).toArray⟩
def rowB (l:List Nat):Rw:=l.map fun (b:Nat)=>[Value.int .u8 (b:Int)]
theorem strV_row (l:List Nat):strV (rowB l)=.string (qbS l):=by
 simp only[strV,rowB,qbS,List.map_map]
 congr 2
theorem bstr_app (l m:List Nat):qbS l++qbS m=qbS (l++m):=by
 apply ByteArray.ext
 simp[qbS]
theorem qao (l:List Nat):(qbS l).size=l.length:=by simp[qbS,ByteArray.size]
theorem cv_u8 {n:Nat} (h:n≤255):cvV .u8 (.int .i64 n)=.int .u8 n:=by
 show Value.int .u8 (IntKind.u8.wrap n)=_
 refine congrArg _ ?_
 rw[IntKind.wrap_u8];omega
theorem f_var0:∀(d n:Nat) (l:List Nat) (v:Value),n≤d→n≤1000000000→l.length+(qbz n).length≤1000→fin trA 2918 [I n,v] [rowB l]=some (0,[I ((qbz n).getLast (by rw[qbz];split<;>simp):Nat)],[rowB (l++(qbz n).dropLast)]):=by
 intro d
 induction d with
 | zero =>
  intro n l v hn hm hl
  obtain rfl:n=0:=by omega
  refine qaa trA ?_
  show o243_0.go _ _ _=_
  simp only[o243_0,TT,Nat.reduceEqDiff,↓reduceIte,qaZ (show ¬127 < 0 by omega)]
  simp
 | succ d ih =>
  intro n l v hn hm hl
  refine qaa trA ?_
  show o243_0.go _ _ _=_
  by_cases h:127 < n
  ·have g:(127:Int) < (n:Int):=by omega
   have w1:(n:Int).tmod 128=((n % 128:Nat):Int):=by rw[Int.tmod_eq_emod_of_nonneg (by omega)];omega
   have w2:wr (((n % 128:Nat):Int)+128)=((n % 128+128:Nat):Int):=by rw[qaj (by omega) (by omega)];omega
   have w3:wr ((n:Int).tdiv 128)=((n / 128:Nat):Int):=by
    have:(n:Int).tdiv 128=((n / 128:Nat):Int):=by rw[Int.tdiv_eq_ediv_of_nonneg (by omega)];omega
    rw[this,qaj (by omega) (by omega)]
   have q:rowB l++[[Value.int .u8 ((n % 128+128:Nat):Int)]]=rowB (l++[n % 128+128]):=by simp[rowB]
   have g2:((rowB (l++[n % 128+128])).length:Int)≤100000000:=by
    simp[rowB];omega
   have e:=ih (n / 128) (l++[n % 128+128]) v (by omega) (by omega) (by rw[qbH h] at hl;simp at hl ⊢;omega)
   have bvq:∀a b:Int,qbm .quo (.int .i64 a) (.int .i64 b)=.int .i64 (wr (a.tdiv b)):=fun _ _=>rfl
   simp only[o243_0,TT,Nat.reduceEqDiff,↓reduceIte,g,w1,w2,bvq,w3,cv_u8 (show n % 128+128≤255 by omega),q,g2,e]
   have hne:qbz (n / 128)≠[]:=by rw[qbz];split<;>simp
   simp only[qbH h,List.getLast_cons hne,List.dropLast_cons_of_ne_nil hne,List.append_assoc,List.cons_append,List.nil_append]
  ·have g:¬(127:Int) < (n:Int):=by omega
   simp only[o243_0,TT,Nat.reduceEqDiff,↓reduceIte,g,qaZ h]
   simp
theorem qce:∀(n:Nat),n≤1000000000→(qbz n).length≤6:=by
 intro n hn
 have step:∀m,127 < m→(qbz m).length=(qbz (m / 128)).length+1:=fun m h=>by rw[qbH h];rfl
 have small:∀m,¬127 < m→(qbz m).length=1:=fun m h=>by rw[qaZ h];rfl
 by_cases h1:127 < n
 ·rw[step n h1]
  by_cases h2:127 < n / 128
  ·rw[step _ h2]
   by_cases h3:127 < n / 128 / 128
   ·rw[step _ h3]
    by_cases h4:127 < n / 128 / 128 / 128
    ·rw[step _ h4,small _ (by omega)];omega
    ·rw[small _ h4];omega
   ·rw[small _ h3];omega
  ·rw[small _ h2];omega
 ·rw[small _ h1];omega
theorem f_var {n:Nat} (hn:n≤1000000000):fin trA 2919 [I n] []=some (0,[.string (qbS (qbz n))],[]):=by
 have hne:qbz n≠[]:=by rw[qbz];split<;>simp
 have e:=f_var0 n n [] (.string ⟨⟨[]⟩⟩) (Nat.le_refl _) hn (by have:=qce n hn;simp;omega)
 have hb:∀m:Nat,(qbz m).getLast (by rw[qbz];split<;>simp)≤255:=by
  intro m
  induction m using Nat.strongRecOn with
  | ind m ih =>
   by_cases h:127 < m
   ·have hne:qbz (m / 128)≠[]:=by rw[qbz];split<;>simp
    simp only[qbH h,List.getLast_cons hne]
    exact ih (m / 128) (by omega)
   ·simp only[qaZ h,List.getLast_singleton];omega
 have q:rowB (qbz n).dropLast++[[Value.int .u8 (((qbz n).getLast hne:Nat):Int)]]=rowB (qbz n):=by
  have:=List.dropLast_concat_getLast hne
  conv=>rhs;rw[←this]
  simp[rowB]
 have g:((rowB (qbz n)).length:Int)≤100000000:=by have:=qce n hn;simp[rowB];omega
 refine qaa trA ?_
 show o243.go _ _ _=_
 rw[show rowB []=[] from rfl,List.nil_append] at e
 simp only[o243,TT,Nat.reduceEqDiff,↓reduceIte,e,cv_u8 (hb n),q,g,strV_row]
def qbK:Tm'→List Nat
 | .atom n=>qbz 1++qbz n.toNat
 | .un c t=>qbz c.toNat++qbK t
 | .bin c t u=>qbz c.toNat++qbK t++qbK u
def Tm'.ok:Tm'→Prop
 | .atom n=>0≤n∧n≤999999
 | .un c t=>(c=3∨c=6)∧t.ok
 | .bin c t u=>(c=2∨c=4∨c=5∨c=7∨c=8∨c=9)∧t.ok∧u.ok
theorem Den.ok {a:Ar} (ha:AOk a):∀{t:Tm'} {k:Int},Den a k t→t.ok
 | .atom n,k,⟨h0,h1⟩=>by
  have:=ha.right _ _ h1
  unfold Nd.right at this
  simp[inB] at this
  exact this
 | .un c t,k,⟨_,_,_,hc,h⟩=>⟨hc,h.ok ha⟩
 | .bin c t u,k,⟨_,_,_,_,hc,h1,h2⟩=>⟨hc,h1.ok ha,h2.ok ha⟩
theorem qdi:∀{t:Tm'},t.ok→(qbK t).length≤20*qbC t
 | .atom n,h=>by
  have h1:=qce 1 (by omega)
  have h2:=qce n.toNat (by have:=h.2;omega)
  simp only[qbK,List.length_append,qbC];omega
 | .un c t,h=>by
  have h1:=qce c.toNat (by have:=h.1;omega)
  have h2:=qdi h.2
  simp only[qbK,List.length_append,qbC];omega
 | .bin c t u,h=>by
  have h1:=qce c.toNat (by have:=h.1;omega)
  have h2:=qdi h.2.1
  have h3:=qdi h.2.2
  simp only[qbK,List.length_append,qbC];omega
theorem bv_sadd (a b:ByteArray):qbm .add (.string a) (.string b)=.string (a++b):=rfl
theorem sizeV_str (a:ByteArray):sizeV (.string a)=a.size:=rfl
theorem f_text {a:Ar} (ha:AOk a):∀{t:Tm'} {k:Int},Den a k t→qbC t≤2000→fin trA 2762 [I k] [qag a]=some (0,[.string (qbS (qbK t))],[])
 | .atom n,k,d,hs=>by
  obtain⟨h0,h1⟩:=d.notOut
  obtain⟨h2,h3⟩:=d.ok ha
  obtain⟨_,hnd⟩:=d
  obtain⟨p,rfl⟩:∃p:Nat,k=p:=⟨k.toNat,by omega⟩
  have hp:p < a.length:=by omega
  rw[Int.toNat_natCast,List.getElem?_eq_getElem hp] at hnd
  have hnd:=Option.some.inj hnd
  have e1:fin trA 2919 [I 1] []=some (0,[.string (qbS (qbz 1))],[]):=f_var (n:=1) (by omega)
  have e2:=f_var (n:=n.toNat) (by omega)
  rw[show((n.toNat:Nat):Int)=n by omega] at e2
  have l1:=qce 1 (by omega)
  have l2:=qce n.toNat (by omega)
  have g1:((qbz 1).length:Int)≤1000000000:=by omega
  have g2:((qbz n.toNat).length:Int)≤1000000000:=by omega
  refine qaa trA ?_
  show o230.go _ _ _=_
  simp only[o230,TT,Nat.reduceEqDiff,↓reduceIte,h0,encA_len,h1,Int.toNat_natCast,qal a p hp,hnd,Nd.enc,e1,e2,bv_sadd,sizeV_str,qao,bstr_app,g1,g2,qbK]
 | .un c t,k,d,hs=>by
  obtain⟨hc,hok⟩:=d.ok ha
  obtain⟨p,hp,i,rfl,hnd,d1⟩:=den_un ha d
  simp only[qbC] at hs
  have e1:=f_var (n:=c.toNat) (by omega)
  rw[show((c.toNat:Nat):Int)=c by omega] at e1
  have e2:=f_text ha d1 (by omega)
  have l1:=qce c.toNat (by omega)
  have l2:=qdi hok
  have g1:((qbz c.toNat).length:Int)≤1000000000:=by omega
  have g2:((qbK t).length:Int)≤1000000000:=by omega
  have h0:(0:Int)≤(p:Int):=by omega
  have h1:(p:Int) < (a.length:Int):=by omega
  have c1:¬c=1:=by omega
  have ho:qbB c=true:=by simp[qbB];omega
  refine qaa trA ?_
  show o230.go _ _ _=_
  simp only[o230,TT,Nat.reduceEqDiff,↓reduceIte,h0,encA_len,h1,Int.toNat_natCast,qal a p hp,hnd,Nd.enc,e1,e2,c1,f_one,ho,bv_sadd,sizeV_str,qao,bstr_app,g1,g2,qbK]
 | .bin c t u,k,d,hs=>by
  obtain⟨hc,hok1,hok2⟩:=d.ok ha
  obtain⟨p,hp,i,j,rfl,hnd,d1,d2⟩:=qdc ha d
  simp only[qbC] at hs
  have e1:=f_var (n:=c.toNat) (by omega)
  rw[show((c.toNat:Nat):Int)=c by omega] at e1
  have e2:=f_text ha d1 (by omega)
  have e3:=f_text ha d2 (by omega)
  have l1:=qce c.toNat (by omega)
  have l2:=qdi hok1
  have l3:=qdi hok2
  have g1:((qbz c.toNat).length:Int)≤1000000000:=by omega
  have g2:((qbK t).length:Int)≤1000000000:=by omega
  have g3:((qbK u).length:Int)≤1000000000:=by omega
  have g4:((qbz c.toNat++qbK t).length:Int)≤1000000000:=by rw[List.length_append];omega
  have h0:(0:Int)≤(p:Int):=by omega
  have h1:(p:Int) < (a.length:Int):=by omega
  have c1:¬c=1:=by omega
  have ho:qbB c=false:=by simp[qbB];omega
  refine qaa trA ?_
  show o230.go _ _ _=_
  simp only[o230,TT,Nat.reduceEqDiff,↓reduceIte,h0,encA_len,h1,Int.toNat_natCast,qal a p hp,hnd,Nd.enc,e1,e2,e3,c1,f_one,ho,bv_sadd,sizeV_str,qao,bstr_app,g1,g2,g3,g4,qbK]
def txt (t:Tm'):List Nat:=if qbC t≤2000 then qbK t else []
theorem qbp {a:Ar} (ha:AOk a) {k:Int} {t:Tm'} (hk:Den a k t):fin trA 2546 [I k] [qag a]=some (0,[.string (qbS (txt t)),B (decide (qbC t≤2000))],[]):=by
 have e1:=f_sizeOf ha hk
 have hp:=qeX t
 refine qaa trA ?_
 show o212.go _ _ _=_
 by_cases h:qbC t≤2000
 ·have e2:=f_text ha hk h
  have g:inB (qbr t) 1 2000=true:=by unfold inB qbr;simp only[Bool.and_eq_true,decide_eq_true_eq];omega
  simp only[o212,TT,Nat.reduceEqDiff,↓reduceIte,e1,f_in,g,e2,txt,h]
 ·have g:inB (qbr t) 1 2000=false:=by unfold inB qbr;simp only[Bool.and_eq_false_iff,decide_eq_false_iff_not];omega
  simp only[o212,TT,Nat.reduceEqDiff,↓reduceIte,e1,f_in,g,txt,h]
  rfl
theorem qgn {a a':Ar} (hp:a <+: a') (ha':AOk a'):fin trA 2306 [I (a.length:Int)] [qag a']=some (0,[],[qag a]):=by
 have hl:=ha'.le
 refine qaa trA ?_
 show o192.go _ _ _=_
 have hle:=hp.length_le
 have e1:wr ((a.length:Int) - 0)=(a.length:Int):=by rw[qaj (by omega) (by omega)];omega
 have e2:(qag a').take a.length=qag a:=by
  obtain⟨s,rfl⟩:=hp
  simp[qag]
 have g0:(0:Int)≤(a.length:Int):=by omega
 simp only[o192,TT,Nat.reduceEqDiff,↓reduceIte,encA_len]
 by_cases g:(a.length:Int) < (a'.length:Int)
 ·have g1:(a.length:Int)≤(a'.length:Int):=by omega
  simp only[TT,Nat.reduceEqDiff,↓reduceIte,g,g0,g1,e1,e2,Int.le_refl,Int.toNat_natCast]
 ·have:a=a':=hp.eq_of_length (by omega)
  subst this
  simp only[TT,Nat.reduceEqDiff,↓reduceIte,g]
theorem f_openSt {a a':Ar} (ha:AOk a) (ha':AOk a') (hp:a <+: a') {x k:Int} {key t:Tm'} (hx:Den a' x key) (hk:Den a k t) :
  (∀b,qdg key t=some b→∃j,fin trA 3374 [I x,I k] [qag a]=some (0,[I j,B true],[])∧fin trA 3374 [I x,I k] [qag a']=some (0,[I j,B true],[])∧Den a j b) ∧
  (qdg key t=none→fin trA 3374 [I x,I k] [qag a]=some (0,[I (-1),B false],[])∧fin trA 3374 [I x,I k] [qag a']=some (0,[I (-1),B false],[])):=by
 obtain⟨o1,o2⟩:=f_open ha' hx (hk.mono hp)
 by_cases h5:t.kind=5
 ·obtain⟨u,v,rfl⟩:=qdF hk h5 (by omega)
  obtain⟨p,hq,i,j,rfl,hnd,d1,d2⟩:=qdc ha hk
  have g0:(0:Int)≤(p:Int):=by omega
  have g1:(p:Int) < (a.length:Int):=by omega
  have hi:=(d1.mono hp).iff ha' hx
  by_cases hu:u=key
  ·subst hu
   obtain rfl:i=x:=hi.2 rfl
   refine⟨fun b hb=>?_,fun hb=>by simp[qdg] at hb⟩
   obtain⟨j',e',d'⟩:=o1 b hb
   simp[qdg] at hb
   subst hb
   obtain rfl:j'=j:=d'.inj ha' (d2.mono hp)
   refine⟨j',qaa trA ?_,e',d2⟩
   show o281.go _ _ _=_
   simp only[o281,TT,Nat.reduceEqDiff,↓reduceIte,qcH ha hk,h5,encA_len,Int.toNat_natCast,qal a p hq,hnd,Nd.enc,g0,g1]
  ·have hix:¬i=x:=fun e=>hu (hi.1 e)
   refine⟨fun b hb=>by simp[qdg,hu] at hb,fun h=>⟨qaa trA ?_,o2 h⟩⟩
   show o281.go _ _ _=_
   simp only[o281,TT,Nat.reduceEqDiff,↓reduceIte,qcH ha hk,h5,encA_len,Int.toNat_natCast,qal a p hq,hnd,Nd.enc,g0,g1,hix]
 ·refine⟨fun b hb=>?_,fun h=>⟨qaa trA ?_,o2 h⟩⟩
  ·cases t with
   | bin c u v =>
    simp only[Tm'.kind] at h5
    simp[qdg,h5] at hb
   | atom m=>cases hb
   | un c u=>cases hb
  ·show o281.go _ _ _=_
   simp only[o281,TT,Nat.reduceEqDiff,↓reduceIte,qcH ha hk,h5]
def qeU (side:Int) (hand:Tm') (mode name:Int) (said t:Tm'):Bool :=
 match (qdg (hand.key side) t).bind (qbe 3) with
 | some [c,s,m]=>decide (m=doneT hand side said)&&(if mode≠1 then decide (c=.atom 0)&&decide (s=.atom 0) else match certR c with
  | some (n,pub)=>decide (n=name∧qdb pub s=some (wordsT side said))
  | none=>false)
 | _=>false
theorem f_look {a:Ar} (ha:AOk a) {side h mode name d k:Int} {H D T:Tm'} (hh:Den a h H) (hd:Den a d D) (hk:Den a k T) (h0:0≤side) (h1:side≤2) (hl:a.length+11≤3000) :
  ∃a',fin trA 3290 [I side,I h,I mode,I name,I d,I k] [qag a]=some (0,[B (qeU side H mode name D T)],[qag a'])∧Ext a a' 11:=by
 obtain⟨a1,x,e1,x1,d1⟩:=qeK ha hh h0 (by omega) (by omega)
 have l1:=x1.len
 obtain⟨o1,o2⟩:=f_openSt ha x1.ok x1.pre d1 hk
 unfold qeU
 cases ho:qdg (H.key side) T with
 | none =>
  obtain⟨e2,e2'⟩:=o2 ho
  have e3:fin trA 2715 [I (-1),I 3] [qag a1]=some (0,[B false],[[]]):=qel x1.ok (n:=3) (by omega) (out_neg a1)
  refine⟨a1,qaa trA ?_,x1.le (by omega)⟩
  show o274.go _ _ _=_
  simp only[o274,qaE,TT,Nat.reduceEqDiff,↓reduceIte,e1,e2,e2',e3,same_self,Option.bind_none]
 | some b =>
  obtain⟨j,e2,e2',dj⟩:=o1 b ho
  simp only[Option.bind_some]
  rcases qch x1.ok (dj.mono x1.pre) with ⟨u,v,w,xu,xv,xw,p0,e3,c1,c2,c3⟩ | ⟨p0,e3⟩
  ·simp only[p0]
   obtain⟨a2,y,e4,x2,d2⟩:=f_done x1.ok (hh.mono x1.pre) (hd.mono x1.pre) h0 (by omega) (by omega)
   have l2:=x2.len
   have gy:=d2.nonneg
   have hy:¬y < 0:=by omega
   have hw:=(c3.mono x2.pre).iff x2.ok d2
   by_cases qw:w=doneT H side D
   ·have qw':xw=y:=hw.2 qw
    by_cases hm:mode=1
    ·have hm':¬¬mode=1:=fun h=>h hm
     obtain⟨k1,k2⟩:=f_certIn x2.ok (c1.mono x2.pre)
     obtain⟨a3,z,e7,x3,d3⟩:=f_words x2.ok ((hd.mono x1.pre).mono x2.pre) h0 (by omega) (by omega)
     have gz:=d3.nonneg
     have hz:z ≥ 0:=gz
     have x4:=(x1.trans (x2.trans x3)).le (show 2+(4+5)≤11 by omega)
     cases hc:certR u with
     | none =>
      have e5:=k2 hc
      have e6:fin trA 3410 [I (-1),I xv] [qag a2]=some (0,[I (-1),B false],[]):=f_signed_out x2.ok (out_neg _)
      refine⟨a3,qaa trA ?_,x4⟩
      show o274.go _ _ _=_
      simp only[o274,qaE,TT,Nat.reduceEqDiff,↓reduceIte,e1,e2,e2',e3,e4,hy,qw,qw',hm,e5,e6,e7,TN,Nat.reduceAdd,Int.reduceLT,Int.reduceLE,Int.reduceToNat,Int.reduceToNat,same_self,Bool.and_false,not_true_eq_false,ne_eq]
     | some np =>
      obtain⟨n,p⟩:=np
      obtain⟨jp,e5,dp⟩:=k1 n p hc
      obtain⟨s1,s2⟩:=f_signed x2.ok dp (c2.mono x2.pre)
      cases hs:qdb p v with
      | none =>
       have e6:=s2 hs
       refine⟨a3,qaa trA ?_,x4⟩
       show o274.go _ _ _=_
       simp only[o274,qaE,TT,Nat.reduceEqDiff,↓reduceIte,e1,e2,e2',e3,e4,hy,qw,qw',hm,e5,e6,e7,hs,TN,Nat.reduceAdd,Int.reduceLT,Int.reduceLE,Int.reduceToNat,Int.reduceToNat,same_self,Bool.and_false,not_true_eq_false,ne_eq,and_false,reduceCtorEq]
      | some q =>
       obtain⟨jq,e6,dq⟩:=s1 q hs
       have hq:=(dq.mono x3.pre).iff x3.ok d3
       refine⟨a3,qaa trA ?_,x4⟩
       show o274.go _ _ _=_
       by_cases qn:n=name
       ·by_cases qq:q=wordsT side D
        ·have qq':jq=z:=hq.2 qq
         simp only[o274,qaE,TT,Nat.reduceEqDiff,↓reduceIte,e1,e2,e2',e3,e4,hy,qw,qw',hm,e5,e6,e7,hs,TN,Nat.reduceAdd,Int.reduceLT,Int.reduceLE,Int.reduceToNat,Int.reduceToNat,same_self,not_true_eq_false,ne_eq,qn,qq,qq',gz,hz,Bool.and_true,and_self]
        ·have qq':¬jq=z:=fun h=>qq (hq.1 h)
         simp only[o274,qaE,TT,Nat.reduceEqDiff,↓reduceIte,e1,e2,e2',e3,e4,hy,qw,qw',hm,e5,e6,e7,hs,TN,Nat.reduceAdd,Int.reduceLT,Int.reduceLE,Int.reduceToNat,Int.reduceToNat,same_self,not_true_eq_false,ne_eq,qn,qq,qq',gz,hz,Bool.and_false,and_false,Option.some.injEq]
       ·simp only[o274,qaE,TT,Nat.reduceEqDiff,↓reduceIte,e1,e2,e2',e3,e4,hy,qw,qw',hm,e5,e6,e7,hs,TN,Nat.reduceAdd,Int.reduceLT,Int.reduceLE,Int.reduceToNat,Int.reduceToNat,same_self,not_true_eq_false,ne_eq,qn,false_and,Bool.and_false]
    ·have e5:=qfm x2.ok (c1.mono x2.pre) 0
     have e6:=qfm x2.ok (c2.mono x2.pre) 0
     refine⟨a2,qaa trA ?_,(x1.trans x2).le (by omega)⟩
     show o274.go _ _ _=_
     by_cases qu:u=.atom 0
     ·simp only[o274,qaE,TT,Nat.reduceEqDiff,↓reduceIte,e1,e2,e2',e3,e4,hy,qw,qw',hm,e5,e6,qu,TN,Nat.reduceAdd,Int.reduceLT,Int.reduceLE,Int.reduceToNat,Int.reduceToNat,same_self,ne_eq,not_false_eq_true,Bool.true_and]
     ·simp only[o274,qaE,TT,Nat.reduceEqDiff,↓reduceIte,e1,e2,e2',e3,e4,hy,qw,qw',hm,e5,e6,qu,TN,Nat.reduceAdd,Int.reduceLT,Int.reduceLE,Int.reduceToNat,Int.reduceToNat,same_self,ne_eq,not_false_eq_true,Bool.false_and,Bool.and_false]
   ·have qw':¬xw=y:=fun h=>qw (hw.1 h)
    refine⟨a2,qaa trA ?_,(x1.trans x2).le (by omega)⟩
    show o274.go _ _ _=_
    simp only[o274,qaE,TT,Nat.reduceEqDiff,↓reduceIte,e1,e2,e2',e3,e4,hy,qw,qw',TN,Nat.reduceAdd,Int.reduceLT,Int.reduceLE,Int.reduceToNat,Int.reduceToNat,same_self,Bool.false_and,ne_eq,not_false_eq_true]
  ·simp only[p0]
   refine⟨a1,qaa trA ?_,x1.le (by omega)⟩
   show o274.go _ _ _=_
   simp only[o274,qaE,TT,Nat.reduceEqDiff,↓reduceIte,e1,e2,e2',e3,same_self]
theorem f_l12Ok {a:Ar} (ha:AOk a) {side h mode name d k:Int} {H D T:Tm'} (hh:Den a h H) (hd:Den a d D) (hk:Den a k T) (h0:0≤side) (h1:side≤2) (hl:a.length+11≤3000) :
  fin trA 3122 [I side,I h,I mode,I name,I d,I k] [qag a]=some (0,[B (qeU side H mode name D T)],[qag a]):=by
 obtain⟨a1,e1,x1⟩:=f_look (mode:=mode) (name:=name) ha hh hd hk h0 h1 hl
 have e2:=qgn x1.pre x1.ok
 refine qaa trA ?_
 show o260.go _ _ _=_
 simp only[o260,TT,Nat.reduceEqDiff,↓reduceIte,e1,encA_len,e2]
theorem f_parts2 {a:Ar} (ha:AOk a) {k:Int} {t:Tm'} (hk:Den a k t):(∃u v x y,qbe 2 t=some [u,v]∧fin trA 2715 [I k,I 2] [qag a]=some (0,[B true],[[[I x],[I y]]])∧Den a x u∧Den a y v)∨(qbe 2 t=none∧fin trA 2715 [I k,I 2] [qag a]=some (0,[B false],[[]])):=by
 cases h:qbe 2 t with
 | none=>exact .inr ⟨rfl,qbZ ha (n:=2) (by omega) hk h⟩
 | some l =>
  have hl:=qcV h
  match l,hl with
  | [u,v],_ =>
   obtain⟨ys,e,d⟩:=qdI ha (n:=2) (by omega) hk h
   obtain⟨x,ys,rfl,d1,d⟩:=d.cons'
   obtain⟨y,ys,rfl,d2,d⟩:=d.cons'
   obtain rfl:=d.nil'
   exact .inl ⟨u,v,x,y,rfl,e,d1,d2⟩
def ackR (hand said t:Tm'):Int × Bool:=match (qdg (hand.key 40) t).bind (qbe 2) with
 | some [p,h]=>if h=.hash said then p.num else (0,false)
 | _=>(0,false)
theorem f_lookAck {a:Ar} (ha:AOk a) {h d k:Int} {H D T:Tm'} (hh:Den a h H) (hd:Den a d D) (hk:Den a k T) (hl:a.length+3≤3000) :
  ∃a',fin trA 3218 [I h,I d,I k] [qag a]=some (0,[I (ackR H D T).1,B (ackR H D T).2],[qag a'])∧Ext a a' 3:=by
 obtain⟨a1,x,e1,x1,d1⟩:=qeK (n:=40) ha hh (by omega) (by omega) (by omega)
 have l1:=x1.len
 obtain⟨a2,y,e4,x2,d2⟩:=qbM (c:=3) (y:=0) x1.ok (by omega) (hd.mono x1.pre) (by omega) (by omega)
 have x3:=x1.trans x2
 have gy:=d2.nonneg
 have hy:¬y < 0:=by omega
 obtain⟨o1,o2⟩:=f_openSt ha x1.ok x1.pre d1 hk
 unfold ackR
 cases ho:qdg (H.key 40) T with
 | none =>
  obtain⟨e2,e2'⟩:=o2 ho
  have e3:fin trA 2715 [I (-1),I 2] [qag a1]=some (0,[B false],[[]]):=qel x1.ok (n:=2) (by omega) (out_neg a1)
  refine⟨a2,qaa trA ?_,x3⟩
  show o268.go _ _ _=_
  simp only[o268,qaE,TT,Nat.reduceEqDiff,↓reduceIte,e1,e2,e2',e3,e4,same_self,Option.bind_none]
 | some b =>
  obtain⟨j,e2,e2',dj⟩:=o1 b ho
  simp only[Option.bind_some]
  rcases f_parts2 x1.ok (dj.mono x1.pre) with ⟨u,v,xu,xv,p0,e3,c1,c2⟩ | ⟨p0,e3⟩
  ·simp only[p0]
   have hv:=(c2.mono x2.pre).iff x2.ok d2
   have e5:=qes x2.ok (c1.mono x2.pre)
   refine⟨a2,qaa trA ?_,x3⟩
   show o268.go _ _ _=_
   by_cases qv:v=.hash D
   ·have qv':xv=y:=hv.2 qv
    simp only[o268,qaE,TT,Nat.reduceEqDiff,↓reduceIte,e1,e2,e2',e3,e4,e5,hy,qv,qv',TN,Nat.reduceAdd,Int.reduceLT,Int.reduceLE,Int.reduceToNat,same_self,ne_eq,not_true_eq_false]
   ·have qv':¬xv=y:=fun h=>qv (hv.1 h)
    simp only[o268,qaE,TT,Nat.reduceEqDiff,↓reduceIte,e1,e2,e2',e3,e4,e5,hy,qv,qv',TN,Nat.reduceAdd,Int.reduceLT,Int.reduceLE,Int.reduceToNat,same_self,ne_eq,not_false_eq_true]
  ·simp only[p0]
   refine⟨a2,qaa trA ?_,x3⟩
   show o268.go _ _ _=_
   simp only[o268,qaE,TT,Nat.reduceEqDiff,↓reduceIte,e1,e2,e2',e3,e4,same_self]
theorem f_ackIn {a:Ar} (ha:AOk a) {h d k:Int} {H D T:Tm'} (hh:Den a h H) (hd:Den a d D) (hk:Den a k T) (hl:a.length+3≤3000) :
  fin trA 3050 [I h,I d,I k] [qag a]=some (0,[I (ackR H D T).1,B (ackR H D T).2],[qag a]):=by
 obtain⟨a1,e1,x1⟩:=f_lookAck ha hh hd hk hl
 have e2:=qgn x1.pre x1.ok
 refine qaa trA ?_
 show o254.go _ _ _=_
 simp only[o254,TT,Nat.reduceEqDiff,↓reduceIte,e1,encA_len,e2]
theorem qek {a:Ar} (ha:AOk a) (r1 r2 r3 r4:Int):∀(n i:Nat) {xs:List Int} {ts:List Tm'} (ok:Bool) (ns:List Int),Dens a xs ts→xs.length≤100→i+n=xs.length→ns.length=i →
  fin trA 3158 [I r1,I r2,I r3,I r4,B false,B ok,I i] [qag a,qak xs,qak ns]=some (0,[B (ok&&(ts.drop i).all fun t=>t.num.2)],[qak (ns++(ts.drop i).map fun t=>t.num.1)])
 | 0,i,xs,ts,ok,ns,hd,hm,hi,hn=>by
  have:=hd.len
  refine qaa trA ?_
  show o263_0.go _ _ _=_
  have g:¬(i:Int) < (xs.length:Int):=by omega
  rw[List.drop_eq_nil_of_le (by omega)]
  simp only[o263_0,TT,Nat.reduceEqDiff,↓reduceIte,encI_len,g,List.all_nil,Bool.and_true,List.map_nil]
 | n+1,i,xs,ts,ok,ns,hd,hm,hi,hn=>by
  have hl:=hd.len
  have hlt:i < xs.length:=by omega
  have hlt':i < ts.length:=by omega
  have hx:=hd.get i hlt hlt'
  have e1:=qes ha hx
  have w:wr ((i:Int)+1)=((i+1:Nat):Int):=by rw[qaj (by omega) (by omega)];omega
  have g:(i:Int) < (xs.length:Int):=by omega
  have g0:(0:Int)≤(i:Int):=by omega
  have q:qak ns++[[Value.int .i64 ts[i].num.1]]=qak (ns++[ts[i].num.1]):=by simp[qak]
  have g3:((ns++[ts[i].num.1]).length:Int)≤100000000:=by simp;omega
  have ih:=fun ok'=>qek ha r1 r2 r3 r4 n (i+1) (xs:=xs) (ts:=ts) ok' (ns++[ts[i].num.1]) hd hm (by omega) (by simp[hn])
  refine qaa trA ?_
  show o263_0.go _ _ _=_
  rw[List.drop_eq_getElem_cons hlt']
  cases ok
  ·simp only[o263_0,TT,Nat.reduceEqDiff,↓reduceIte,encI_len,Int.toNat_natCast,qam xs i hlt,g,g0,e1,q,g3,w,ih,List.all_cons,List.map_cons,Bool.false_and,List.append_assoc]
  ·simp only[o263_0,TT,Nat.reduceEqDiff,↓reduceIte,encI_len,Int.toNat_natCast,qam xs i hlt,g,g0,e1,q,g3,w,ih,List.all_cons,List.map_cons,Bool.true_and,List.append_assoc]
structure Pk where
 src:Int
 dst:Int
 hops:Int
 val:Int
deriving DecidableEq
def qdl (t:Tm'):Option Pk:=match qbe 6 t with
 | some [w,s,d,h,v,z]=>if (w.num.2&&(s.num.2&&(d.num.2&&(h.num.2&&(v.num.2&&z.num.2)))))=true∧w.num.1=90∧qaX s.num.1 d.num.1 h.num.1 v.num.1=true∧z.num.1=s.num.1+d.num.1+h.num.1+v.num.1 then some ⟨s.num.1,d.num.1,h.num.1,v.num.1⟩ else none
 | _=>none
theorem f_packetIn {a:Ar} (ha:AOk a) {k:Int} {T:Tm'} (hk:Den a k T) :
  (∀p,qdl T=some p→fin trA 3159 [I k] [qag a]=some (0,[I p.src,I p.dst,I p.hops,I p.val,B true],[])∧qaX p.src p.dst p.hops p.val=true) ∧
  (qdl T=none→fin trA 3159 [I k] [qag a]=some (0,[I 0,I 0,I 0,I 0,B false],[])):=by
 cases p0:qbe 6 T with
 | none =>
  have e1:fin trA 2715 [I k,I 6] [qag a]=some (0,[B false],[[]]):=qbZ ha (n:=6) (by omega) hk p0
  have e2:=qek ha 0 0 0 0 0 0 (xs:=[]) (ts:=[]) false [] .nil (by simp) (by simp) (by simp)
  simp only[qak,List.map_nil,List.drop_nil,List.all_nil,List.append_nil,Bool.and_true,Int.ofNat_zero,Int.cast_ofNat_Int] at e2
  simp only[qdl,p0]
  refine⟨fun _ h=>(by cases h),fun _=>qaa trA ?_⟩
  show o263.go _ _ _=_
  simp only[o263,TT,Nat.reduceEqDiff,↓reduceIte,e1,e2]
 | some l =>
  have hl:=qcV p0
  match l,hl,p0 with
  | [w,s,d,h,v,z],_,p0 =>
   obtain⟨ys,e,dd⟩:=qdI ha (n:=6) (by omega) hk p0
   have hy:ys.length=6:=dd.len
   have e2:=qek ha 0 0 0 0 6 0 true [] dd (by omega) (by omega) rfl
   have e1:fin trA 2715 [I k,I 6] [qag a]=some (0,[B true],[qak ys]):=e
   have e0:qak ([]:List Int)=[]:=rfl
   simp only[e0,List.drop_zero,List.all_cons,List.all_nil,List.nil_append,Bool.and_true,Bool.true_and,Int.ofNat_zero,Int.cast_ofNat_Int,List.map_cons,List.map_nil] at e2
   simp only[qdl,p0]
   cases q1:w.num.2&&(s.num.2&&(d.num.2&&(h.num.2&&(v.num.2&&z.num.2)))) with
   | false =>
    rw[if_neg (by simp)]
    refine⟨fun _ h=>(by cases h),fun _=>qaa trA ?_⟩
    show o263.go _ _ _=_
    rw[q1] at e2
    simp only[o263,TT,Nat.reduceEqDiff,↓reduceIte,e1,e2]
   | true =>
    rw[q1] at e2
    have r0:qak [w.num.1,s.num.1,d.num.1,h.num.1,v.num.1,z.num.1]=[[I w.num.1],[I s.num.1],[I d.num.1],[I h.num.1],[I v.num.1],[I z.num.1]]:=rfl
    rw[r0] at e2
    have e3:=f_packetOk s.num.1 d.num.1 h.num.1 v.num.1
    by_cases q2:w.num.1=90
    ·cases q3:qaX s.num.1 d.num.1 h.num.1 v.num.1 with
     | false =>
      rw[if_neg (by simp)]
      refine⟨fun _ h=>(by cases h),fun _=>qaa trA ?_⟩
      show o263.go _ _ _=_
      simp only[o263,TT,Nat.reduceEqDiff,↓reduceIte,e1,e2,e3,q2,q3,TN,Nat.reduceAdd,Int.reduceLT,Int.reduceLE,Int.reduceToNat,Int.reduceToNat,ne_eq,not_true_eq_false]
     | true =>
      have q3':=q3
      simp only[qaX,inB,Bool.and_eq_true,decide_eq_true_eq] at q3'
      have w1:wr (wr (wr (s.num.1+d.num.1)+h.num.1)+v.num.1)=s.num.1+d.num.1+h.num.1+v.num.1:=by
       rw[qaj (x:=s.num.1+d.num.1) (by omega) (by omega),qaj (x:=s.num.1+d.num.1+h.num.1) (by omega) (by omega),qaj (by omega) (by omega)]
      by_cases q4:z.num.1=s.num.1+d.num.1+h.num.1+v.num.1
      ·rw[if_pos ⟨rfl,q2,rfl,q4⟩]
       refine⟨fun p hp=>?_,fun h=>(by cases h)⟩
       cases hp
       refine⟨qaa trA ?_,q3⟩
       show o263.go _ _ _=_
       simp only[o263,TT,Nat.reduceEqDiff,↓reduceIte,e1,e2,e3,q2,q3,q4,w1,TN,Nat.reduceAdd,Int.reduceLT,Int.reduceLE,Int.reduceToNat,Int.reduceToNat,ne_eq,not_true_eq_false]
      ·rw[if_neg (fun h=>q4 h.2.2.2)]
       refine⟨fun _ h=>(by cases h),fun _=>qaa trA ?_⟩
       show o263.go _ _ _=_
       simp only[o263,TT,Nat.reduceEqDiff,↓reduceIte,e1,e2,e3,q2,q3,q4,w1,TN,Nat.reduceAdd,Int.reduceLT,Int.reduceLE,Int.reduceToNat,Int.reduceToNat,ne_eq,not_true_eq_false,not_false_eq_true]
    ·rw[if_neg (fun h=>q2 h.2.1)]
     refine⟨fun _ h=>(by cases h),fun _=>qaa trA ?_⟩
     show o263.go _ _ _=_
     simp only[o263,TT,Nat.reduceEqDiff,↓reduceIte,e1,e2,q2,TN,Nat.reduceAdd,Int.reduceLT,Int.reduceLE,Int.reduceToNat,Int.reduceToNat,ne_eq,not_true_eq_false,not_false_eq_true]
end Go.Proofs.YtipomcnbjlfekaaGreat.Rs
