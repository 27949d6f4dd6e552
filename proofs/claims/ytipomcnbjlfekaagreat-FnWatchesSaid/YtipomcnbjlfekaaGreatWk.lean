import Derived.Test.YtipomcnbjlfekaaGreatWj
/- Parts of the proof, merged by a program. -/
namespace Go.Proofs.YtipomcnbjlfekaaGreat.Rs
set_option maxRecDepth 100000
set_option linter.all false
open Go.RowKit
theorem setC (f:Cl × ClG→Cl × ClG) {j:Nat} {cs:List Value} (h:∀s:Cl × ClG,s.1.v.take j++(cs++s.1.v.drop (j+cs.length))=(f s).1.v) (l:List (Cl × ClG)) (i:Nat):qbx (qbE l) i j cs=qbE (l.modify i f):=by
 unfold qbx qbE
 exact qbI (fun s:Cl × ClG=>s.1.v) f _ h l i
theorem setC_ch (l:List (Cl × ClG)) (i:Nat) (c:Ch):qbx (qbE l) i 11 [.int .i64 c.app,.int .i64 c.side,.int .i64 c.ep,.int .i64 c.seq,.int .i64 c.heard,.int .i64 c.nt,.int .i64 c.ns,.int .i64 c.lt,.int .i64 c.ls]=qbE (l.modify i fun s=>({ s.1 with ch:=c },s.2)):=setC _ (fun _=>rfl) l i
theorem qdH (l:List (Cl × ClG)) (i:Nat) (c:Cl) (g:ClG):qbx (qbE l) i 0 [.int .i64 c.name,.int .i64 c.gate,.int .i64 c.mode,.int .i64 c.state,.int .i64 c.draw,.bool c.cookie,.int .i64 c.hello,.int .i64 c.said,.int .i64 c.hand,.int .i64 c.last,.int .i64 c.lease,.int .i64 c.ch.app,.int .i64 c.ch.side,.int .i64 c.ch.ep,.int .i64 c.ch.seq,.int .i64 c.ch.heard,.int .i64 c.ch.nt,.int .i64 c.ch.ns,.int .i64 c.ch.lt,.int .i64 c.ch.ls,.int .i64 c.due,.int .i64 c.wait,.int .i64 c.tries]=qbE (l.modify i fun _=>(c,g)):=setC _ (fun _=>rfl) l i
inductive TurnR (w:Wd) (i:Nat):Gt→List (Cl × ClG)→Prop where
 | same:TurnR w i w.g w.cs
 | gate {j:Nat} (hj:j < w.g.l.length) {c':Ch} (st:w.g.l[j].state=2) (t:Turned w.g.l[j].ch c'):TurnR w i { w.g with l:=w.g.l.modify j fun s=>{ s with ch:=c' } } w.cs
 | client (hi:i < w.cs.length) {c':Ch} (st:w.cs[i].1.state=3) (t:Turned w.cs[i].1.ch c'):TurnR w i w.g (w.cs.modify i fun s=>({ s.1 with ch:=c' },s.2))
theorem f_turn18 {w:Wd} (hg:GtD w.a w.g) (i:Nat) (hi:i < w.cs.length) (num:Int) (he:w.cs[i].1.state=3→w.cs[i].1.ch.ep≤8) :
  ∃g' cs' code,fin trA 1814 (w.vs++[I i,I num]) w.rs=some (0,[I g'.name,I g'.next,I g'.drops,I code],[qax g'.l,qaI g'.p,qaR g'.w,qbb g'.o,qbE cs'])∧TurnR w i g' cs':=by
 have few:=hg.few
 have g0:(0:Int)≤(i:Int):=by omega
 have g1:(i:Int) < (w.cs.length:Int):=by omega
 by_cases h1:num.tmod 2=1
 ·obtain⟨r,e1,_⟩:=f_cid18 (l:=w.g.l) (by omega) w.g.name w.g.next w.g.drops w.now w.draw w.cs[i].1.ch.app (qag w.a) (qbE w.cs) (qak w.ad) (qaI w.g.p) (qaR w.g.w) (qbb w.g.o) (qbs w.net) (qak w.known) (qak w.taken) (qas w.begun) (qas w.dn) (qas w.sent) (qas w.got) (qak w.codes)
  rcases f_turnG hg r with ⟨b,e2⟩ | ⟨j,hj,c',b,_,st,tn,e2⟩
  ·cases b with
   | true =>
    refine⟨_,_,0,qaa trA ?_,.same⟩
    show o151.go _ _ _=_
    simp only[Wd.vs,Wd.rs,o151,TT,Nat.reduceEqDiff,↓reduceIte,encC_len,g0,g1,h1,Int.toNat_natCast,qaY w.cs i hi,Cl.v,e1,e2]
   | false =>
    refine⟨_,_,1,qaa trA ?_,.same⟩
    show o151.go _ _ _=_
    simp only[Wd.vs,Wd.rs,o151,TT,Nat.reduceEqDiff,↓reduceIte,encC_len,g0,g1,h1,Int.toNat_natCast,qaY w.cs i hi,Cl.v,e1,e2]
  ·cases b with
   | true =>
    refine⟨_,_,0,qaa trA ?_,.gate hj st tn⟩
    show o151.go _ _ _=_
    simp only[Wd.vs,Wd.rs,o151,TT,Nat.reduceEqDiff,↓reduceIte,encC_len,g0,g1,h1,Int.toNat_natCast,qaY w.cs i hi,Cl.v,e1,e2]
   | false =>
    refine⟨_,_,1,qaa trA ?_,.gate hj st tn⟩
    show o151.go _ _ _=_
    simp only[Wd.vs,Wd.rs,o151,TT,Nat.reduceEqDiff,↓reduceIte,encC_len,g0,g1,h1,Int.toNat_natCast,qaY w.cs i hi,Cl.v,e1,e2]
 ·by_cases h3:w.cs[i].1.state=3
  ·obtain⟨c',b,e2,tn⟩:=f_turn w.cs[i].1.ch (he h3)
   simp only[Ch.v,List.cons_append,List.nil_append] at e2
   cases b with
   | true =>
    refine⟨_,_,0,qaa trA ?_,.client hi h3 tn⟩
    show o151.go _ _ _=_
    simp only[Wd.vs,Wd.rs,o151,TT,Nat.reduceEqDiff,↓reduceIte,encC_len,g0,g1,h1,h3,Int.toNat_natCast,qaY w.cs i hi,Cl.v,e2,setC_ch]
   | false =>
    refine⟨_,_,1,qaa trA ?_,.client hi h3 tn⟩
    show o151.go _ _ _=_
    simp only[Wd.vs,Wd.rs,o151,TT,Nat.reduceEqDiff,↓reduceIte,encC_len,g0,g1,h1,h3,Int.toNat_natCast,qaY w.cs i hi,Cl.v,e2,setC_ch]
  ·refine⟨_,_,1,qaa trA ?_,.same⟩
   show o151.go _ _ _=_
   simp only[Wd.vs,Wd.rs,o151,TT,Nat.reduceEqDiff,↓reduceIte,encC_len,g0,g1,h1,h3,Int.toNat_natCast,qaY w.cs i hi,Cl.v]
def qfB (tk:List Int) (name:Int):List Int:=if name∈tk then tk else tk++[name]
theorem takeN_len (tk:List Int) (name:Int):(qfB tk name).length≤tk.length+1:=by
 unfold qfB
 split
 ·omega
 ·simp
inductive TakeR (w:Wd) (i:Nat):Ar→List Int→List Int→Prop where
 | client {hi:i < w.cs.length} {a':Ar} {x y:Int} (e:Ext w.a a' 3) (d1:Den a' x (longT w.cs[i].1.name)) (d2:Den a' y (pskT w.cs[i].1.name 9)):TakeR w i a' (w.known++[x,y]) (qfB w.taken w.cs[i].1.name)
 | gate {a':Ar} {x y z:Int} (e:Ext w.a a' 3) (d1:Den a' x (longT 9)) (d2:Den a' y (pskT 9 1)) (d3:Den a' z (pskT 9 2)):TakeR w i a' (w.known++[x,y,z]) (qfB w.taken 9)
theorem f_take18 {w:Wd} (ha:AOk w.a) (hl:w.a.length+3≤3000) (i:Nat) (hi:i < w.cs.length) (num:Int) (hn:0≤w.cs[i].1.name∧w.cs[i].1.name≤9) (b3:w.known.length≤10000) (b6:w.taken.length≤1000) :
  ∃a' known' taken',fin trA 1838 (w.vs++[I i,I num]) w.rs=some (0,[],[qag a',qak known',qak taken'])∧TakeR w i a' known' taken':=by
 have g0:(0:Int)≤(i:Int):=by omega
 have g1:(i:Int) < (w.cs.length:Int):=by omega
 have q1:∀l:List Int,∀x,qak l++[[Value.int .i64 x]]=qak (l++[x]):=fun l x=>by simp[qak]
 by_cases h1:num.tmod 2=0
 ·obtain⟨a1,x,e1,x1,d1⟩:=f_long ha hn.1 hn.2 (by omega)
  have l1:=x1.len
  obtain⟨a2,y,e2,x2,d2⟩:=f_psk x1.ok hn.1 hn.2 (show(0:Int)≤9 by omega) (by omega) (by omega)
  have e3:=fun r8=>qgf b6 w.g.name w.g.next w.g.drops w.now w.draw w.cs[i].1.name (qag a2) (qbE w.cs) (qak w.ad) (qax w.g.l) (qaI w.g.p) (qaR w.g.w) (qbb w.g.o) (qbs w.net) r8 (qas w.begun) (qas w.dn) (qas w.sent) (qas w.got) (qak w.codes)
  have q2:qak w.known++([[Value.int .i64 x]]++[[Value.int .i64 y]])=qak (w.known++[x,y]):=by simp[qak]
  have q3:qak w.known++([[Value.int .i64 x],[Value.int .i64 y]])=qak (w.known++[x,y]):=by simp[qak]
  have g2:((w.known++[x,y]).length:Int)≤100000000:=by simp;omega
  refine⟨a2,_,_,qaa trA ?_,.client (hi:=hi) ((x1.trans x2).le (by omega)) (d1.mono x2.pre) d2⟩
  show o153.go _ _ _=_
  by_cases h4:w.cs[i].1.name∈w.taken
  ·rw[show qfB w.taken w.cs[i].1.name=w.taken by unfold qfB;rw[if_pos h4]]
   simp only[Wd.vs,Wd.rs,o153,TT,Nat.reduceEqDiff,↓reduceIte,encC_len,g0,g1,h1,Int.toNat_natCast,qaY w.cs i hi,Cl.v,e1,e2,q2,q3,encI_len,g2,e3,h4]
  ·rw[show qfB w.taken w.cs[i].1.name=w.taken++[w.cs[i].1.name] by unfold qfB;rw[if_neg h4]]
   have g3:((w.taken++[w.cs[i].1.name]).length:Int)≤100000000:=by simp;omega
   simp only[Wd.vs,Wd.rs,o153,TT,Nat.reduceEqDiff,↓reduceIte,encC_len,g0,g1,h1,Int.toNat_natCast,qaY w.cs i hi,Cl.v,e1,e2,q2,q3,encI_len,g2,e3,h4,q1,g3]
 ·obtain⟨a1,x,e1,x1,d1⟩:=f_long ha (show(0:Int)≤9 by omega) (by omega) (by omega)
  have l1:=x1.len
  obtain⟨a2,y,e2,x2,d2⟩:=f_psk x1.ok (show(0:Int)≤9 by omega) (by omega) (show(0:Int)≤1 by omega) (by omega) (by omega)
  have l2:=x2.len
  obtain⟨a3,z,e4,x3,d3⟩:=f_psk x2.ok (show(0:Int)≤9 by omega) (by omega) (show(0:Int)≤2 by omega) (by omega) (by omega)
  have e3:=fun r8=>qgf b6 w.g.name w.g.next w.g.drops w.now w.draw 9 (qag a3) (qbE w.cs) (qak w.ad) (qax w.g.l) (qaI w.g.p) (qaR w.g.w) (qbb w.g.o) (qbs w.net) r8 (qas w.begun) (qas w.dn) (qas w.sent) (qas w.got) (qak w.codes)
  have q2:qak w.known++([[Value.int .i64 x]]++[[Value.int .i64 y]]++[[Value.int .i64 z]])=qak (w.known++[x,y,z]):=by simp[qak]
  have q3:qak w.known++([[Value.int .i64 x],[Value.int .i64 y],[Value.int .i64 z]])=qak (w.known++[x,y,z]):=by simp[qak]
  have g2:((w.known++[x,y,z]).length:Int)≤100000000:=by simp;omega
  refine⟨a3,_,_,qaa trA ?_,.gate ((x1.trans (x2.trans x3)).le (by omega)) (d1.mono (x2.pre.trans x3.pre)) (d2.mono x3.pre) d3⟩
  show o153.go _ _ _=_
  by_cases h4:(9:Int)∈w.taken
  ·rw[show qfB w.taken 9=w.taken by unfold qfB;rw[if_pos h4]]
   simp only[Wd.vs,Wd.rs,o153,TT,Nat.reduceEqDiff,↓reduceIte,encC_len,g0,g1,h1,e1,e2,e4,q2,q3,encI_len,g2,e3,h4]
  ·rw[show qfB w.taken 9=w.taken++[9] by unfold qfB;rw[if_neg h4]]
   have g3:((w.taken++[(9:Int)]).length:Int)≤100000000:=by simp;omega
   simp only[Wd.vs,Wd.rs,o153,TT,Nat.reduceEqDiff,↓reduceIte,encC_len,g0,g1,h1,e1,e2,e4,q2,q3,encI_len,g2,e3,h4,q1,g3]
theorem f_packet_no {a:Ar} {s d h v:Int} (hp:qaX s d h v=false):fin trA 2342 [I s,I d,I h,I v] [qag a]=some (0,[I (-1)],[qag a]):=by
 refine qaa trA ?_
 show o195.go _ _ _=_
 simp only[o195,TT,Nat.reduceEqDiff,↓reduceIte,f_packetOk,hp]
theorem qft (n:Int) (R:Tm'):qaN (qav 76 [.atom n,R])=some (76,[.atom n,R]):=rfl
inductive SendR (w:Wd) (i:Nat):Ar→List Mail_→List Int→List Nt→List (Cl × ClG)→Prop where
 | no:SendR w i w.a w.net w.known w.sent w.cs
 | yes (hi:i < w.cs.length) (hj:i < w.ad.length) {src dst val body t cid:Int} {a':Ar} (st:w.cs[i].1.state=3) (pk:qaX src dst 3 val=true) (c:cid=0∨∃s∈w.g.l,s.state=2∧s.ch.app=w.cs[i].1.ch.app∧s.cid=cid) (x:Ext w.a a' 65) (d1:Den a' body (qer src dst 3 val))
   (d2:Den a' t (qav 76 [.atom cid,sayT w.cs[i].1.ch w.cs[i].2.app (qer src dst 3 val)])) :
   SendR w i a' (qby w.net ⟨w.ad[i],99,t⟩) (w.known++[t]) (w.sent++[noteR w.dn w.cs[i].1.name w.cs[i].1.ch.app body (sayT w.cs[i].1.ch w.cs[i].2.app (qer src dst 3 val))]) (w.cs.modify i fun _=>({ w.cs[i].1 with ch:={ w.cs[i].1.ch with seq:=w.cs[i].1.ch.seq+1 } },w.cs[i].2))
theorem f_send18 {w:Wd} (ha:AOk w.a) (hg:GtD w.a w.g) (i:Nat) (hi:i < w.cs.length) (hj:i < w.ad.length) (hc:ClD w.a w.cs[i].1 w.cs[i].2) (hl:w.a.length+65≤3000) (num:Int) (b1:w.dn.length≤1000) (b2:w.net.length≤1000) (b3:w.known.length≤10000) (b4:w.sent.length≤10000) :
  ∃a' net' known' sent' cs' code,fin trA 1802 (w.vs++[I i,I num]) w.rs=some (0,[I code],[qag a',qbs net',qak known',qas sent',qbE cs'])∧SendR w i a' net' known' sent' cs':=by
 have few:=hg.few
 have g0:(0:Int)≤(i:Int):=by omega
 have g1:(i:Int) < (w.cs.length:Int):=by omega
 have g2:(i:Int) < (w.ad.length:Int):=by omega
 have nn:(-1:Int) < 0:=by omega
 have main:∀src:Int,((num.tmod 2=1∧src=num.tmod 256)∨(¬num.tmod 2=1∧src=w.cs[i].1.lease))→∃a' net' known' sent' cs' code,fin trA 1802 (w.vs++[I i,I num]) w.rs=some (0,[I code],[qag a',qbs net',qak known',qas sent',qbE cs'])∧SendR w i a' net' known' sent' cs':=by
  intro src hsrc
  cases hp:qaX src (num.tmod 40) 3 (num.tmod 1000) with
  | false =>
   have e1:=f_packet_no (a:=w.a) hp
   have e2:=qgn (List.prefix_refl w.a) ha
   refine⟨_,_,_,_,_,1,qaa trA ?_,.no⟩
   show o150.go _ _ _=_
   rcases hsrc with ⟨h1,rfl⟩ | ⟨h1,rfl⟩ <;>
   simp only[Wd.vs,Wd.rs,o150,TT,Nat.reduceEqDiff,↓reduceIte,encC_len,g0,g1,h1,Int.toNat_natCast,qaY w.cs i hi,Cl.v,e1,nn,encA_len,e2]
  | true =>
   obtain⟨a1,k1,e1,x1,d1⟩:=f_packet ha hp (by omega)
   have l1:=x1.len
   have n1:¬k1 < 0:=by have:=d1.nonneg;omega
   obtain⟨r,e2,hr⟩:=f_cid18 (l:=w.g.l) (by omega) w.g.name w.g.next w.g.drops w.now w.draw w.cs[i].1.ch.app (qag a1) (qbE w.cs) (qak w.ad) (qaI w.g.p) (qaR w.g.w) (qbb w.g.o) (qbs w.net) (qak w.known) (qak w.taken) (qas w.begun) (qas w.dn) (qas w.sent) (qas w.got) (qak w.codes)
   by_cases h3:w.cs[i].1.state=3
   ·have hrb:0≤r∧r≤900000:=by
     rcases hr with rfl | ⟨s,hs,_,_,rfl⟩
     ·omega
     ·have:=(hg.sess s hs).cid;omega
    obtain⟨a2,t,e3,x2,d2⟩:=f_clSay x1.ok (hc.mono x1.pre) h3 d1 hrb (by omega)
    have nt:¬t < 0:=by have:=d2.nonneg;omega
    have d1':=d1.mono x2.pre
    rcases qbG x2.ok d2 with ⟨hT,e4⟩ | ⟨n,u,x,y,hn,hT,e4,d3⟩ | ⟨n,u,v,x,y,z,hn,hT,e4,d3,d4⟩
    ·rw[qft] at hT;cases hT
    ·rw[qft] at hT;cases hT
    ·rw[qft] at hT
     cases hT
     have v1:wr (1+1)=2:=by rw[qaj (by omega) (by omega)];rfl
     have hset:=qdH w.cs i { w.cs[i].1 with ch:={ w.cs[i].1.ch with seq:=w.cs[i].1.ch.seq+1 } } w.cs[i].2
     have e5:=qfE x2.ok b1 w.g.name w.g.next w.g.drops w.now w.draw w.cs[i].1.name w.cs[i].1.ch.app k1 d4 (qbE (w.cs.modify i fun _=>({ w.cs[i].1 with ch:={ w.cs[i].1.ch with seq:=w.cs[i].1.ch.seq+1 } },w.cs[i].2))) (qak w.ad) (qax w.g.l) (qaI w.g.p) (qaR w.g.w) (qbb w.g.o) (qbs w.net) (qak w.known) (qak w.taken) (qas w.begun) (qas w.sent) (qas w.got) (qak w.codes)
     have g3:((w.sent++[noteR w.dn w.cs[i].1.name w.cs[i].1.ch.app k1 (sayT w.cs[i].1.ch w.cs[i].2.app (qer src (num.tmod 40) 3 (num.tmod 1000)))]).length:Int)≤100000000:=by simp;omega
     have e6:=fun q12=>qfs b2 b3 w.g.name w.g.next w.g.drops w.now w.draw w.ad[i] 99 t d2.nonneg (qag a2) (qbE (w.cs.modify i fun _=>({ w.cs[i].1 with ch:={ w.cs[i].1.ch with seq:=w.cs[i].1.ch.seq+1 } },w.cs[i].2))) (qak w.ad) (qax w.g.l) (qaI w.g.p) (qaR w.g.w) (qbb w.g.o) (qak w.taken) (qas w.begun) (qas w.dn) q12 (qas w.got) (qak w.codes)
     refine⟨a2,_,_,_,_,0,qaa trA ?_,.yes hi hj h3 hp hr ((x1.trans x2).le (by omega)) d1' d2⟩
     simp only[Cl.v,List.cons_append,List.nil_append] at e3 hset
     show o150.go _ _ _=_
     rcases hsrc with ⟨h1,rfl⟩ | ⟨h1,rfl⟩ <;>
     simp only[Wd.vs,Wd.rs,o150,qac,qaG,qaE,same_self,TT,Nat.reduceEqDiff,↓reduceIte,TN,Nat.reduceAdd,Int.reduceLT,Int.reduceLE,Int.reduceToNat,Int.reduceToNat,encC_len,encI_len,g0,g1,g2,h1,Int.toNat_natCast,qaY w.cs i hi,qam w.ad i hj,Cl.v,e1,n1,e2,e3,nt,e4,v1,hset,e5,Nt.v,noteR_app,encN_len,g3,e6]
   ·have e3:=fun b=>f_clSay_no (a:=a1) (cid:=r) (body:=b) h3
    have e4:=qgn x1.pre x1.ok
    refine⟨_,_,_,_,_,1,qaa trA ?_,.no⟩
    simp only[Cl.v,List.cons_append,List.nil_append] at e3
    show o150.go _ _ _=_
    rcases hsrc with ⟨h1,rfl⟩ | ⟨h1,rfl⟩ <;>
    simp only[Wd.vs,Wd.rs,o150,qaG,qaE,same_self,TT,Nat.reduceEqDiff,↓reduceIte,encC_len,g0,g1,h1,Int.toNat_natCast,qaY w.cs i hi,Cl.v,e1,n1,nn,e2,e3,encA_len,e4]
 by_cases h1:num.tmod 2=1
 ·exact main _ (.inl ⟨h1,rfl⟩)
 ·exact main _ (.inr ⟨h1,rfl⟩)
theorem qei (a:Int) {m:Nat} (hm:m < 2 ^ 62):∃n:Nat,n≤m∧qbm .and (.int .i64 a) (.int .i64 m)=.int .i64 n:=by
 have h2:(BitVec.ofInt 64 (m:Int)).toNat=m:=by rw[BitVec.ofInt_natCast,BitVec.toNat_ofNat,Nat.mod_eq_of_lt (by omega)]
 have h:(BitVec.ofInt 64 a &&& BitVec.ofInt 64 m).toNat≤m:=by
  rw[BitVec.toNat_and,h2];exact Nat.and_le_right
 refine⟨(BitVec.ofInt 64 a &&& BitVec.ofInt 64 m).toNat,h,?_⟩
 show Value.int .i64 (IntKind.i64.wrap ((BitVec.ofInt 64 a &&& BitVec.ofInt 64 m).toNat:Int))=_
 exact congrArg _ (qaj (by omega) (by omega))
def Bys (b:Rw):Prop:=b.length≤100000000∧∀e∈b,∃x:Int,e=[.int .u8 x]
theorem Bys.get {b:Rw} (h:Bys b) {i:Nat} (hi:i < b.length):∃x:Int,b.getD i []=[.int .u8 x]:=by
 obtain⟨x,hx⟩:=h.2 b[i] (List.getElem_mem hi)
 exact⟨x,by simp[List.getD_eq_getElem?_getD,List.getElem?_eq_getElem hi,hx]⟩
theorem bv_xor (a b:Int):qbm .xor (.int .i64 a) (.int .i64 b)=.int .i64 (wr ((BitVec.ofInt 64 a ^^^ BitVec.ofInt 64 b).toNat:Int)):=rfl
theorem bv_shr (a b:Int) (k:IntKind):qbm .shr (.int .i64 a) (.int k b)=.int .i64 (a.fdiv (2 ^ (min b.toNat 64))):=rfl
theorem cv_i64 (a:Int) (k:IntKind):cvV .i64 (.int k a)=.int .i64 (wr a):=rfl
theorem f_byte {b:Rw} (hb:Bys b) (i:Nat) (h:Int):∃(i':Nat) (h':Int) (x:Nat),fin trA 506 [I i,I h] [b]=some (0,[I i',I h',I x],[])∧x≤255:=by
 have hl:=hb.1
 obtain⟨n,hn,e1⟩:=qei (wr ((BitVec.ofInt 64 ((wr (wr (h*6364136223846793005)+1442695040888963407)).fdiv (2 ^ (min (33:Int).toNat 64))) ^^^ BitVec.ofInt 64 ((wr (wr (h*6364136223846793005)+1442695040888963407)).fdiv (2 ^ (min (45:Int).toNat 64)))).toNat:Int)) (m:=255) (by omega)
 rw[show((255:Nat):Int)=255 from rfl] at e1
 have g0:(0:Int)≤(i:Int):=by omega
 by_cases hi:i < b.length
 ·have g1:(i:Int) < (b.length:Int):=by omega
  obtain⟨y,hy⟩:=hb.get hi
  obtain⟨m,hm,e2⟩:=qei (wr ((n:Int)+wr y)) (m:=255) (by omega)
  rw[show((255:Nat):Int)=255 from rfl] at e2
  have w:wr ((i:Int)+1)=((i+1:Nat):Int):=by rw[qaj (by omega) (by omega)];omega
  refine⟨i+1,wr (wr (h*6364136223846793005)+1442695040888963407),m,qaa trA ?_,hm⟩
  show o42.go _ _ _=_
  simp only[o42,TT,Nat.reduceEqDiff,↓reduceIte,g0,g1,Int.toNat_natCast,hy,bv_xor,bv_shr,e1,cv_i64,e2,w]
 ·have g1:¬(i:Int) < (b.length:Int):=by omega
  refine⟨i,wr (wr (h*6364136223846793005)+1442695040888963407),n,qaa trA ?_,hn⟩
  show o42.go _ _ _=_
  simp only[o42,TT,Nat.reduceEqDiff,↓reduceIte,g1,bv_xor,bv_shr,e1]
theorem f_below {b:Rw} (hb:Bys b) (i:Nat) (h n:Int):∃(i':Nat) (h' x:Int),fin trA 494 [I i,I h,I n] [b]=some (0,[I i',I h',I x],[])∧0≤x∧(0 < n→x < n)∧(n≤0→x=0):=by
 by_cases h0:n≤0
 ·refine⟨i,h,0,qaa trA ?_,by omega,by omega,fun _=>rfl⟩
  show o41.go _ _ _=_
  simp only[o41,TT,Nat.reduceEqDiff,↓reduceIte,h0]
 ·have hne:¬n=0:=by omega
  by_cases h1:n≤256
  ·obtain⟨i1,h1',x,e,hx⟩:=f_byte hb i h
   refine⟨i1,h1',((x:Int)).tmod n,qaa trA ?_,?_⟩
   ·show o41.go _ _ _=_
    simp only[o41,TT,Nat.reduceEqDiff,↓reduceIte,h0,h1,e,hne]
   ·rw[Int.tmod_eq_emod_of_nonneg (by omega)]
    exact⟨Int.emod_nonneg _ hne,fun h=>Int.emod_lt_of_pos _ h,fun h=>absurd h h0⟩
  ·obtain⟨i1,q1,x,e1,hx⟩:=f_byte hb i h
   obtain⟨i2,q2,y,e2,hy⟩:=f_byte hb i1 q1
   obtain⟨i3,q3,z,e3,hz⟩:=f_byte hb i2 q2
   obtain⟨i4,q4,u,e4,hu⟩:=f_byte hb i3 q3
   obtain⟨a1,w1,b1⟩:∃a,wr ((x:Int)*16777216)=a∧0≤a∧a≤4278190080:=⟨_,rfl,by rw[qaj (by omega) (by omega)];omega⟩
   obtain⟨a2,w2,b2⟩:∃a,wr ((y:Int)*65536)=a∧0≤a∧a≤16711680:=⟨_,rfl,by rw[qaj (by omega) (by omega)];omega⟩
   obtain⟨a3,w3,b3⟩:∃a,wr (a1+a2)=a∧0≤a∧a≤4294901760:=⟨_,rfl,by rw[qaj (by omega) (by omega)];omega⟩
   obtain⟨a4,w4,b4⟩:∃a,wr ((z:Int)*256)=a∧0≤a∧a≤65280:=⟨_,rfl,by rw[qaj (by omega) (by omega)];omega⟩
   obtain⟨a5,w5,b5⟩:∃a,wr (a3+a4)=a∧0≤a∧a≤4294967040:=⟨_,rfl,by rw[qaj (by omega) (by omega)];omega⟩
   obtain⟨a6,w6,b6⟩:∃a,wr (a5+(u:Int))=a∧0≤a:=⟨_,rfl,by rw[qaj (by omega) (by omega)];omega⟩
   refine⟨i4,q4,a6.tmod n,qaa trA ?_,?_⟩
   ·show o41.go _ _ _=_
    simp only[o41,TT,Nat.reduceEqDiff,↓reduceIte,h0,h1,e1,e2,e3,e4,hne,w1,w2,w3,w4,w5,w6]
   ·rw[Int.tmod_eq_emod_of_nonneg b6]
    exact⟨Int.emod_nonneg _ hne,fun h=>Int.emod_lt_of_pos _ h,fun h=>absurd h h0⟩
theorem f_new0 {b:Rw} (hb:Bys b):∀(n i:Nat) (h:Int),i+n=b.length→∃h':Int,fin trA 470 [I h,I i] [b]=some (0,[I h'],[])
 | 0,i,h,hi=>by
  refine⟨h,qaa trA ?_⟩
  show o39_0.go _ _ _=_
  have g:¬(i:Int) < (b.length:Int):=by omega
  simp only[o39_0,TT,Nat.reduceEqDiff,↓reduceIte,g]
 | n+1,i,h,hi=>by
  have hl:=hb.1
  have g:(i:Int) < (b.length:Int):=by omega
  have g0:(0:Int)≤(i:Int):=by omega
  by_cases h4:(i:Int) < 4000
  ·obtain⟨y,hy⟩:=hb.get (show i < b.length by omega)
   obtain⟨m,hm,e2⟩:=qei (wr (wr (wr (h*131)+wr y)+7)) (m:=1073741823) (by omega)
   rw[show((1073741823:Nat):Int)=1073741823 from rfl] at e2
   obtain⟨h',e⟩:=f_new0 hb n (i+1) m (by omega)
   have w:wr ((i:Int)+1)=((i+1:Nat):Int):=by rw[qaj (by omega) (by omega)];omega
   refine⟨h',qaa trA ?_⟩
   show o39_0.go _ _ _=_
   simp only[o39_0,TT,Nat.reduceEqDiff,↓reduceIte,g,g0,h4,Int.toNat_natCast,hy,cv_i64,e2,w,e]
  ·refine⟨h,qaa trA ?_⟩
   show o39_0.go _ _ _=_
   simp only[o39_0,TT,Nat.reduceEqDiff,↓reduceIte,g,h4]
theorem f_new {b:Rw} (hb:Bys b):∃h':Int,fin trA 471 [] [b]=some (0,[I 0,I h'],[]):=by
 obtain⟨h',e⟩:=f_new0 hb b.length 0 (wr (94701+(b.length:Int))) (by omega)
 rw[show((0:Nat):Int)=0 from rfl] at e
 refine⟨h',qaa trA ?_⟩
 show o39.go _ _ _=_
 simp only[o39,TT,Nat.reduceEqDiff,↓reduceIte,e]
theorem f_once {b:Rw} (hb:Bys b) (i:Nat) (h n:Int):∃(i':Nat) (h':Int) (x:Bool),fin trA 1226 [I i,I h,I n] [b]=some (0,[I i',I h',B x],[]):=by
 obtain⟨i',h',x,e,_⟩:=f_below hb i h n
 refine⟨i',h',decide (x=0),qaa trA ?_⟩
 show o102.go _ _ _=_
 simp only[o102,TT,Nat.reduceEqDiff,↓reduceIte,e]
theorem f_pickInt {b:Rw} (hb:Bys b) (i:Nat) (h:Int) {l:List Int} (hl:1≤l.length):∃(i':Nat) (h' x:Int),fin trA 1970 [I i,I h] [b,qak l]=some (0,[I i',I h',I x],[])∧x∈l:=by
 obtain⟨i',h',x,e,h0,h1,_⟩:=f_below hb i h (l.length:Int)
 have h1:=h1 (by omega)
 obtain⟨n,rfl⟩:∃n:Nat,x=n:=⟨x.toNat,by omega⟩
 have hn:n < l.length:=by omega
 refine⟨i',h',l[n],qaa trA ?_,List.getElem_mem hn⟩
 show o164.go _ _ _=_
 simp only[o164,TT,Nat.reduceEqDiff,↓reduceIte,encI_len,e,h0,h1,Int.toNat_natCast,qam l n hn]
theorem f_mode {b:Rw} (hb:Bys b) (i:Nat) (h:Int):∃(i':Nat) (h' x:Int),fin trA 1202 [I i,I h] [b]=some (0,[I i',I h',I x],[])∧(x=1∨x=2):=by
 obtain⟨i',h',x,e,h0,h1,_⟩:=f_below hb i h 2
 have h1:=h1 (by omega)
 have w:wr (1+x)=1+x:=qaj (by omega) (by omega)
 refine⟨i',h',1+x,qaa trA ?_,by omega⟩
 show o100.go _ _ _=_
 simp only[o100,TT,Nat.reduceEqDiff,↓reduceIte,e,w]
def ways0:List Way:=[⟨0,0,1⟩,⟨16,4,2⟩,⟨24,5,3⟩,⟨26,7,4⟩,⟨30,8,5⟩]
theorem qgO {b:Rw} (hb:Bys b) (z:Rw):∀(n k:Nat) (i:Nat) (h:Int) (out:List Way),k+n=5→out.length+n≤5→∃(i':Nat) (h':Int) (ws:List Way),ws.Sublist (ways0.drop k)∧fin trA 1214 [I i,I h,I k] [b,z,qaR out,qaR ways0]=some (0,[I i',I h'],[qaR (out++ws)])
 | 0,k,i,h,out,hk,ho=>by
  refine⟨i,h,[],List.nil_sublist _,qaa trA ?_⟩
  show o101_0.go _ _ _=_
  have g:¬(k:Int) < ((ways0.length:Nat):Int):=by simp[ways0];omega
  simp only[o101_0,TT,Nat.reduceEqDiff,↓reduceIte,qar,g]
 | n+1,k,i,h,out,hk,ho=>by
  have hk':k < ways0.length:=by simp[ways0];omega
  have g:(k:Int) < (ways0.length:Int):=by omega
  have g0:(0:Int)≤(k:Int):=by omega
  have w:=qaB (i:=k) (n:=100) (by omega) (by omega)
  obtain⟨i1,h1,x,e1⟩:=f_once hb i h 3
  rw[List.drop_eq_getElem_cons hk']
  cases x with
  | true =>
   obtain⟨i2,h2,ws,hs,e2⟩:=qgO hb z n (k+1) i1 h1 out (by omega) (by omega)
   refine⟨i2,h2,ws,hs.trans (List.sublist_cons_self _ _),qaa trA ?_⟩
   show o101_0.go _ _ _=_
   simp only[o101_0,TT,Nat.reduceEqDiff,↓reduceIte,qar,g,e1,w,e2]
  | false =>
   obtain⟨i2,h2,ws,hs,e2⟩:=qgO hb z n (k+1) i1 h1 (out++[ways0[k]]) (by omega) (by simp;omega)
   have q:qaR out++[[Value.int .i64 ways0[k].net,Value.int .i64 ways0[k].bits,Value.int .i64 ways0[k].to]]=qaR (out++[ways0[k]]):=by simp[qaR,Way.v]
   have g2:((out++[ways0[k]]).length:Int)≤100000000:=by simp;omega
   refine⟨i2,h2,ways0[k] :: ws,List.Sublist.cons_cons _ hs,qaa trA ?_⟩
   rw[show out++ways0[k] :: ws=out++[ways0[k]]++ws by simp]
   show o101_0.go _ _ _=_
   simp only[o101_0,TT,Nat.reduceEqDiff,↓reduceIte,qar,g,g0,e1,Int.toNat_natCast,qaD ways0 k hk',Way.v,q,g2,w,e2]
theorem f_routes {b:Rw} (hb:Bys b) (i:Nat) (h:Int):∃(i':Nat) (h':Int) (ws:List Way),ws.Sublist ways0∧fin trA 1215 [I i,I h] [b]=some (0,[I i',I h'],[qaR ws]):=by
 obtain⟨i',h',ws,hs,e⟩:=qgO hb [] 5 0 i h [] rfl (by simp)
 rw[List.drop_zero] at hs
 rw[show((0:Nat):Int)=0 from rfl,List.nil_append] at e
 refine⟨i',h',ws,hs,qaa trA ?_⟩
 show o101.go _ _ _=_
 have e:fin trA 1214 [.int .i64 i,.int .i64 h,.int .i64 0] [b,[],[],[[.int .i64 0,.int .i64 0,.int .i64 1],[.int .i64 16,.int .i64 4,.int .i64 2],[.int .i64 24,.int .i64 5,.int .i64 3],[.int .i64 26,.int .i64 7,.int .i64 4],[.int .i64 30,.int .i64 8,.int .i64 5]]]=_:=e
 simp only[o101,TT,Nat.reduceEqDiff,↓reduceIte,e]
theorem bstr_get (l:List Nat) (i:Nat) (h:i < l.length):(qbS l)[i]?=some (UInt8.ofNat l[i]):=by
 have hs:i < (qbS l).size:=by rw[qao];exact h
 rw[getElem?_pos (qbS l) i hs]
 show some ((qbS l).data[i]'hs)=_
 simp[qbS]
theorem bv_byte {l:List Nat} (hl:∀x∈l,x < 256) {i:Nat} (h:i < l.length) (k:IntKind):qbm .andNot (.string (qbS l)) (.int k (i:Int))=.int .u8 ((l[i]:Nat):Int):=by
 have h0:(0:Int)≤(i:Int):=by omega
 have hx:=hl _ (List.getElem_mem h)
 simp only[qbm,if_pos h0,Int.toNat_natCast,bstr_get l i h]
 rw[UInt8.toNat_ofNat',Nat.mod_eq_of_lt hx]
theorem bstr_extract (l:List Nat) (i j:Nat):(qbS l).extract i j=qbS ((l.drop i).take (j - i)):=by
 apply ByteArray.ext
 rw[ByteArray.data_extract]
 simp[qbS,List.extract_eq_take_drop]
theorem sub_str (s:ByteArray) (i j:Nat):subV (.string s) i j=.string (s.extract i j):=rfl
theorem bv_sneq (a b:ByteArray):qbm .neq (.string a) (.string b)=.bool (!(a.toList==b.toList)):=rfl
section
variable {l:List Nat} (hl:∀x∈l,x < 256) (hlen:l.length≤100000) {p i:Nat} (hp:p≤i) (hi5:i < p+5) (hi:i < l.length) (z1 z2:Int) (z3:Bool)
include hl hlen hp hi5 hi
theorem rv_end {acc scale x n:Nat} (hx:l[i]=x) (h7:x < 128) (hn:acc+x*scale=n) (hn9:n≤999999) (ht:(l.drop p).take (i+1 - p)=qbz n) :
  fin trA 2906 [.string (qbS l),I p,I z1,I z2,B z3,I acc,I scale,I i] []=some (1,[I n,I ((i+1:Nat):Int),B true],[]):=by
 have eb:=bv_byte hl hi .i64
 rw[hx] at eb
 have g1:(i:Int) < (l.length:Int):=by omega
 have g0:(0:Int)≤(i:Int):=by omega
 have w0:wr ((p:Int)+5)=(p:Int)+5:=qaj (by omega) (by omega)
 have g2:(i:Int) < (p:Int)+5:=by omega
 have g3:(x:Int) < 128:=by omega
 have hxs:x*scale≤n:=by omega
 have w1:wr (x:Int)=(x:Int):=qaj (by omega) (by omega)
 have t1:(x:Int).tmod 128=(x:Int):=by rw[Int.tmod_eq_emod_of_nonneg (by omega)];omega
 have c1:(x:Int)*(scale:Int)=((x*scale:Nat):Int):=by push_cast;rfl
 have w2:wr ((x:Int)*(scale:Int))=((x*scale:Nat):Int):=by rw[c1];exact qaj (by omega) (by omega)
 have w3:wr ((acc:Int)+((x*scale:Nat):Int))=(n:Int):=by rw[qaj (by omega) (by omega)];omega
 have g4:¬(1000000000:Int) < (n:Int):=by omega
 have w4:wr ((i:Int)+1)=((i+1:Nat):Int):=by rw[qaj (by omega) (by omega)];omega
 have g5:(0:Int)≤(p:Int):=by omega
 have g6:(p:Int)≤((i+1:Nat):Int):=by omega
 have g7:(0:Int)≤((i+1:Nat):Int):=by omega
 have g8:((i+1:Nat):Int)≤(l.length:Int):=by omega
 have ev:=f_var (n:=n) (by omega)
 refine qaa trA ?_
 show o242_0.go _ _ _=_
 simp only[o242_0,TT,Nat.reduceEqDiff,↓reduceIte,sizeV_str,qao,g0,g1,w0,g2,eb,g3,cv_i64,w1,t1,w2,w3,gt_iff_lt,g4,w4,g5,g6,g7,g8,ev,sub_str,Int.toNat_natCast,bstr_extract,ht,bv_sneq,beq_self_eq_true]
theorem rv_go {acc scale y n:Nat} {e:Int} (hx:l[i]=y+128) (h7:y < 128) (hs:scale≤1000000) (ha:acc≤1000000000)
  (hr:fin trA 2906 [.string (qbS l),I p,I z1,I z2,B z3,I ((acc+y*scale:Nat):Int),I ((scale*128:Nat):Int),I ((i+1:Nat):Int)] []=some (1,[I n,I e,B true],[])) :
  fin trA 2906 [.string (qbS l),I p,I z1,I z2,B z3,I acc,I scale,I i] []=some (1,[I n,I e,B true],[]):=by
 have eb:=bv_byte hl hi .i64
 rw[hx] at eb
 have g1:(i:Int) < (l.length:Int):=by omega
 have g0:(0:Int)≤(i:Int):=by omega
 have w0:wr ((p:Int)+5)=(p:Int)+5:=qaj (by omega) (by omega)
 have g2:(i:Int) < (p:Int)+5:=by omega
 have g3:¬((y+128:Nat):Int) < 128:=by omega
 have hys:y*scale≤127*1000000:=Nat.mul_le_mul (by omega) hs
 have w1:wr ((y+128:Nat):Int)=((y+128:Nat):Int):=qaj (by omega) (by omega)
 have t1:((y+128:Nat):Int).tmod 128=(y:Int):=by rw[Int.tmod_eq_emod_of_nonneg (by omega)];omega
 have c1:(y:Int)*(scale:Int)=((y*scale:Nat):Int):=by push_cast;rfl
 have w2:wr ((y:Int)*(scale:Int))=((y*scale:Nat):Int):=by rw[c1];exact qaj (by omega) (by omega)
 have w3:wr ((acc:Int)+((y*scale:Nat):Int))=((acc+y*scale:Nat):Int):=by rw[qaj (by omega) (by omega)];omega
 have c2:(scale:Int)*128=((scale*128:Nat):Int):=by push_cast;rfl
 have w5:wr ((scale:Int)*128)=((scale*128:Nat):Int):=by rw[c2];exact qaj (by omega) (by omega)
 have w4:wr ((i:Int)+1)=((i+1:Nat):Int):=by rw[qaj (by omega) (by omega)];omega
 refine qaa trA ?_
 show o242_0.go _ _ _=_
 simp only[o242_0,qac,TT,Nat.reduceEqDiff,↓reduceIte,sizeV_str,qao,g0,g1,w0,g2,eb,g3,cv_i64,w1,t1,w2,w3,w4,w5,hr]
end
theorem f_readVar {n:Nat} (hn:n≤999999) {q r:List Nat} (hl:∀x∈q++qbz n++r,x < 256) (hlen:(q++qbz n++r).length≤100000) :
  fin trA 2907 [.string (qbS (q++qbz n++r)),I (q.length:Int)] []=some (0,[I n,I ((q.length+(qbz n).length:Nat):Int),B true],[]):=by
 have e0:=f_in (q.length:Int) 0 ((q++qbz n++r).length:Int)
 rw[show inB (q.length:Int) 0 ((q++qbz n++r).length:Int)=true by simp[inB];omega] at e0
 have main:fin trA 2906 [.string (qbS (q++qbz n++r)),I (q.length:Int),I 0,I 0,B false,I 0,I 1,I (q.length:Int)] []=some (1,[I n,I ((q.length+(qbz n).length:Nat):Int),B true],[]):=by
  have z0:(0:Int)=((0:Nat):Int):=rfl
  have z1:(1:Int)=((1:Nat):Int):=rfl
  by_cases h1:n < 128
  ·have hv:qbz n=[n]:=qaZ (by omega)
   rw[hv] at hl hlen ⊢
   have hi:q.length < (q++[n]++r).length:=by simp
   exact rv_end hl hlen (Nat.le_refl _) (by omega) hi 0 0 false (acc:=0) (scale:=1) (x:=n) (by simp) h1 (by omega) (by omega) (by rw[hv];simp)
  ·by_cases h2:n / 128 < 128
   ·have hv:qbz n=[n % 128+128,n / 128]:=by rw[qbH (by omega),qaZ (by omega)]
    rw[hv] at hl hlen ⊢
    have hi:q.length < (q++[n % 128+128,n / 128]++r).length:=by simp
    have hi2:q.length+1 < (q++[n % 128+128,n / 128]++r).length:=by simp
    refine rv_go hl hlen (Nat.le_refl _) (by omega) hi 0 0 false (acc:=0) (scale:=1) (y:=n % 128) (by simp) (by omega) (by omega) (by omega) ?_
    refine rv_end hl hlen (by omega) (by omega) hi2 0 0 false (x:=n / 128) ?_ h2 (by omega) (by omega) (by rw[hv];simp[show q.length+1+1 - q.length=2 by omega])
    rw[List.getElem_append_left (by simp),List.getElem_append_right (by omega)]
    simp
   ·have hv:qbz n=[n % 128+128,n / 128 % 128+128,n / 128 / 128]:=by rw[qbH (by omega),qbH (by omega),qaZ (by omega)]
    rw[hv] at hl hlen ⊢
    have hi:q.length < (q++[n % 128+128,n / 128 % 128+128,n / 128 / 128]++r).length:=by simp
    have hi2:q.length+1 < (q++[n % 128+128,n / 128 % 128+128,n / 128 / 128]++r).length:=by simp
    have hi3:q.length+2 < (q++[n % 128+128,n / 128 % 128+128,n / 128 / 128]++r).length:=by simp
    refine rv_go hl hlen (Nat.le_refl _) (by omega) hi 0 0 false (acc:=0) (scale:=1) (y:=n % 128) (by simp) (by omega) (by omega) (by omega) ?_
    refine rv_go hl hlen (by omega) (by omega) hi2 0 0 false (y:=n / 128 % 128) ?_ (by omega) (by omega) (by omega) ?_
    ·rw[List.getElem_append_left (by simp),List.getElem_append_right (by omega)]
     simp
    ·refine rv_end hl hlen (by omega) (by omega) hi3 0 0 false (x:=n / 128 / 128) ?_ (by omega) (by omega) (by omega) (by rw[hv];simp[show q.length+1+1+1 - q.length=3 by omega])
     rw[List.getElem_append_left (by simp),List.getElem_append_right (by omega)]
     simp[show q.length+1+1 - q.length=2 by omega]
 refine qaa trA ?_
 show o242.go _ _ _=_
 simp only[o242,qac,TT,Nat.reduceEqDiff,↓reduceIte,sizeV_str,qao,e0,main]
theorem c6_no0 (x0 x1 x2 x3 x4 i z b t body code:Int) (c:Cl) (sf:Bool) (r0 r1 r2 r3 r4 r5 r6 r7 r8 r9 r10 r11 r12 r13 r14 r15:Rw) (h:¬(code=0∧b=1∧c.state=2)) :
  fin trA 2642 ([I x0,I x1,I x2,I x3,I x4,I i,I z,I b]++c.v++[I t,I body,I code,B sf]) [r0,r1,r2,r3,r4,r5,r6,r7,r8,r9,r10,r11,r12,r13,r14,r15]=some (0,[],[r0,r10]):=by
 refine qaa trA ?_
 show o220_1000006_0.go _ _ _=_
 by_cases h1:code=0
 ·by_cases h2:b=1
  ·have h3:¬c.state=2:=fun h3=>h ⟨h1,h2,h3⟩
   simp only[Cl.v,o220_1000006_0,TT,Nat.reduceEqDiff,↓reduceIte,h1,h2,h3]
  ·simp only[Cl.v,o220_1000006_0,TT,Nat.reduceEqDiff,↓reduceIte,h1,h2]
 ·simp only[Cl.v,o220_1000006_0,TT,Nat.reduceEqDiff,↓reduceIte,h1]
theorem c8_no0 (x0 x1 x2 x3 x4 i z b t body code:Int) (c:Cl) (sf:Bool) (r0 r1 r2 r3 r4 r5 r6 r7 r8 r9 r10 r11 r12 r13 r14 r15:Rw) (h:¬(code=0∧b=2∧c.state=3)) :
  fin trA 2644 ([I x0,I x1,I x2,I x3,I x4,I i,I z,I b]++c.v++[I t,I body,I code,B sf]) [r0,r1,r2,r3,r4,r5,r6,r7,r8,r9,r10,r11,r12,r13,r14,r15]=some (0,[],[r11]):=by
 refine qaa trA ?_
 show o220_1000008_0.go _ _ _=_
 by_cases h1:code=0
 ·by_cases h2:b=2
  ·have h3:¬c.state=3:=fun h3=>h ⟨h1,h2,h3⟩
   simp only[Cl.v,o220_1000008_0,TT,Nat.reduceEqDiff,↓reduceIte,h1,h2,h3]
  ·simp only[Cl.v,o220_1000008_0,TT,Nat.reduceEqDiff,↓reduceIte,h1,h2]
 ·simp only[Cl.v,o220_1000008_0,TT,Nat.reduceEqDiff,↓reduceIte,h1]
theorem c10_no0 (x0 x1 x2 x3 x4 i z t body code:Int) (c:Cl) (r0 r1 r2 r3 r4 r5 r6 r7 r8 r9 r10 r11 r12 r13 r14 r15:Rw) (h:¬(code=0∧0≤body)) :
  fin trA 2646 ([I x0,I x1,I x2,I x3,I x4,I i,I z]++c.v++[I t,I body,I code]) [r0,r1,r2,r3,r4,r5,r6,r7,r8,r9,r10,r11,r12,r13,r14,r15]=some (0,[],[r13]):=by
 refine qaa trA ?_
 show o220_1000010_0.go _ _ _=_
 by_cases h1:code=0
 ·have h2:¬0≤body:=fun h2=>h ⟨h1,h2⟩
  simp only[Cl.v,o220_1000010_0,TT,Nat.reduceEqDiff,↓reduceIte,h1,h2]
 ·simp only[Cl.v,o220_1000010_0,TT,Nat.reduceEqDiff,↓reduceIte,h1]
theorem c5_0 (x0 x1 x2 x3 x4:Int) (i:Nat) (z b t body code:Int) (c:Cl) {ad tk:List Int} (hi:i < ad.length) (ht:tk.length≤1000) {r0 r1 r3 r4 r5 r6 r7 r8 r10 r11 r12 r13 r14 r15 q0 q10 q11 q13 n7 n8:Rw}
  (e6:fin trA 2642 ([I x0,I x1,I x2,I x3,I x4,I i,I z,I b]++c.v++[I t,I body,I code,B (!decide (c.name∈tk)&&!decide (c.gate∈tk))]) [r0,r1,qak ad,r3,r4,r5,r6,r7,r8,qak tk,r10,r11,r12,r13,r14,r15]=some (0,[],[q0,q10]))
  (e8:fin trA 2644 ([I x0,I x1,I x2,I x3,I x4,I i,I z,I b]++c.v++[I t,I body,I code,B (!decide (c.name∈tk)&&!decide (c.gate∈tk))]) [q0,r1,qak ad,r3,r4,r5,r6,r7,r8,qak tk,q10,r11,r12,r13,r14,r15]=some (0,[],[q11]))
  (e10:fin trA 2646 ([I x0,I x1,I x2,I x3,I x4,I i,I z]++c.v++[I t,I body,I code]) [q0,r1,qak ad,r3,r4,r5,r6,r7,r8,qak tk,q10,q11,r12,r13,r14,r15]=some (0,[],[q13]))
  (es:fin trA 1754 [I x0,I x1,I x2,I x3,I x4,I ad[i],I 99,I t] [q0,r1,qak ad,r3,r4,r5,r6,r7,r8,qak tk,q10,q11,r12,q13,r14]=some (0,[],[n7,n8])) :
  fin trA 2648 ([I x0,I x1,I x2,I x3,I x4,I i,I z,I b]++c.v++[I t,I body,I code]) [r0,r1,qak ad,r3,r4,r5,r6,r7,r8,qak tk,r10,r11,r12,r13,r14,r15]=some (0,[I code],[q0,n7,n8,q10,q11,q13]):=by
 have g0:(0:Int)≤(i:Int):=by omega
 have g1:(i:Int) < (ad.length:Int):=by omega
 have e1:=fun nm=>qgf ht x0 x1 x2 x3 x4 nm r0 r1 (qak ad) r3 r4 r5 r6 r7 r8 r10 r11 r12 r13 r14
 simp only[Cl.v,List.cons_append,List.nil_append] at e6 e8 e10
 refine qaa trA ?_
 show o220_1000005_0.go _ _ _=_
 by_cases h1:c.name∈tk
 ·simp only[h1,decide_true,Bool.not_true,Bool.false_and] at e6 e8
  simp only[Cl.v,o220_1000005_0,TT,Nat.reduceEqDiff,↓reduceIte,e1,h1,e6,e8,e10,encI_len,g0,g1,Int.toNat_natCast,qam ad i hi,es]
 ·simp only[h1,decide_false,Bool.not_false,Bool.true_and] at e6 e8
  simp only[Cl.v,o220_1000005_0,TT,Nat.reduceEqDiff,↓reduceIte,e1,h1,e6,e8,e10,encI_len,g0,g1,Int.toNat_natCast,qam ad i hi,es]
theorem c6_no1 (x0 x1 x2 x3 x4 i z b po pn t body code:Int) (c:Cl) (sf:Bool) (r0 r1 r2 r3 r4 r5 r6 r7 r8 r9 r10 r11 r12 r13 r14 r15:Rw) (h:¬(code=0∧b=1∧c.state=2)) :
  fin trA 2643 ([I x0,I x1,I x2,I x3,I x4,I i,I z,I b,I po,I pn]++c.v++[I t,I body,I code,B sf]) [r0,r1,r2,r3,r4,r5,r6,r7,r8,r9,r10,r11,r12,r13,r14,r15]=some (0,[],[r0,r10]):=by
 refine qaa trA ?_
 show o220_1000006_1.go _ _ _=_
 by_cases h1:code=0
 ·by_cases h2:b=1
  ·have h3:¬c.state=2:=fun h3=>h ⟨h1,h2,h3⟩
   simp only[Cl.v,o220_1000006_1,TT,Nat.reduceEqDiff,↓reduceIte,h1,h2,h3]
  ·simp only[Cl.v,o220_1000006_1,TT,Nat.reduceEqDiff,↓reduceIte,h1,h2]
 ·simp only[Cl.v,o220_1000006_1,TT,Nat.reduceEqDiff,↓reduceIte,h1]
theorem c6_yes1 (x0 x1 x2 x3 x4 i z b po pn t body code:Int) (c:Cl) (sf:Bool) (r1 r2 r3 r4 r5 r6 r7 r8 r9 r11 r12 r13 r14 r15:Rw) {a:Ar} (ha:AOk a) {H S:Tm'} (hh:Den a c.hand H) (hs:Den a c.said S) (hl:a.length+4≤3000) {begun:List Nt} (hb:begun.length≤10000) (h1:code=0) (h2:b=1) (h3:c.state=2) :
  ∃a' app,fin trA 2643 ([I x0,I x1,I x2,I x3,I x4,I i,I z,I b,I po,I pn]++c.v++[I t,I body,I code,B sf]) [qag a,r1,r2,r3,r4,r5,r6,r7,r8,r9,qas begun,r11,r12,r13,r14,r15]=some (0,[],[qag a',qas (begun++[⟨c.name,c.gate,app,0,0,c.said,sf⟩])])∧Ext a a' 4∧Den a' app (appT H S):=by
 obtain⟨a',app,e,x,d⟩:=f_app ha hh hs hl
 have q:qas begun++[[Value.int .i64 c.name,Value.int .i64 c.gate,Value.int .i64 app,Value.int .i64 0,Value.int .i64 0,Value.int .i64 c.said,Value.bool sf]]=qas (begun++[⟨c.name,c.gate,app,0,0,c.said,sf⟩]):=by simp[qas,Nt.v]
 have g:((begun++[(⟨c.name,c.gate,app,0,0,c.said,sf⟩:Nt)]).length:Int)≤100000000:=by simp;omega
 refine⟨a',app,qaa trA ?_,x,d⟩
 show o220_1000006_1.go _ _ _=_
 simp only[Cl.v,o220_1000006_1,TT,Nat.reduceEqDiff,↓reduceIte,h1,h2,h3,e,q,encN_len,g]
theorem c8_no1 (x0 x1 x2 x3 x4 i z b po pn t body code:Int) (c:Cl) (sf:Bool) (r0 r1 r2 r3 r4 r5 r6 r7 r8 r9 r10 r11 r12 r13 r14 r15:Rw) (h:¬(code=0∧b=2∧c.state=3)) :
  fin trA 2645 ([I x0,I x1,I x2,I x3,I x4,I i,I z,I b,I po,I pn]++c.v++[I t,I body,I code,B sf]) [r0,r1,r2,r3,r4,r5,r6,r7,r8,r9,r10,r11,r12,r13,r14,r15]=some (0,[],[r11]):=by
 refine qaa trA ?_
 show o220_1000008_1.go _ _ _=_
 by_cases h1:code=0
 ·by_cases h2:b=2
  ·have h3:¬c.state=3:=fun h3=>h ⟨h1,h2,h3⟩
   simp only[Cl.v,o220_1000008_1,TT,Nat.reduceEqDiff,↓reduceIte,h1,h2,h3]
  ·simp only[Cl.v,o220_1000008_1,TT,Nat.reduceEqDiff,↓reduceIte,h1,h2]
 ·simp only[Cl.v,o220_1000008_1,TT,Nat.reduceEqDiff,↓reduceIte,h1]
theorem c8_yes1 (x0 x1 x2 x3 x4 i z b po pn t body code:Int) (c:Cl) (sf:Bool) (r0 r1 r2 r3 r4 r5 r6 r7 r8 r9 r10 r12 r13 r14 r15:Rw) {dn:List Nt} (hb:dn.length≤10000) (h1:code=0) (h2:b=2) (h3:c.state=3) :
  fin trA 2645 ([I x0,I x1,I x2,I x3,I x4,I i,I z,I b,I po,I pn]++c.v++[I t,I body,I code,B sf]) [r0,r1,r2,r3,r4,r5,r6,r7,r8,r9,r10,qas dn,r12,r13,r14,r15]=some (0,[],[qas (dn++[⟨c.name,c.gate,c.ch.app,0,0,c.said,sf⟩])]):=by
 have q:qas dn++[[Value.int .i64 c.name,Value.int .i64 c.gate,Value.int .i64 c.ch.app,Value.int .i64 0,Value.int .i64 0,Value.int .i64 c.said,Value.bool sf]]=qas (dn++[⟨c.name,c.gate,c.ch.app,0,0,c.said,sf⟩]):=by simp[qas,Nt.v]
 have g:((dn++[(⟨c.name,c.gate,c.ch.app,0,0,c.said,sf⟩:Nt)]).length:Int)≤100000000:=by simp;omega
 refine qaa trA ?_
 show o220_1000008_1.go _ _ _=_
 simp only[Cl.v,o220_1000008_1,TT,Nat.reduceEqDiff,↓reduceIte,h1,h2,h3,q,encN_len,g]
theorem qgC (x0 x1 x2 x3 x4 i z po pn t body code:Int) (c:Cl) (r0 r1 r2 r3 r4 r5 r6 r7 r8 r9 r10 r11 r12 r13 r14 r15:Rw) (h:¬(code=0∧0≤body)) :
  fin trA 2647 ([I x0,I x1,I x2,I x3,I x4,I i,I z,I po,I pn]++c.v++[I t,I body,I code]) [r0,r1,r2,r3,r4,r5,r6,r7,r8,r9,r10,r11,r12,r13,r14,r15]=some (0,[],[r13]):=by
 refine qaa trA ?_
 show o220_1000010_1.go _ _ _=_
 by_cases h1:code=0
 ·have h2:¬0≤body:=fun h2=>h ⟨h1,h2⟩
  simp only[Cl.v,o220_1000010_1,TT,Nat.reduceEqDiff,↓reduceIte,h1,h2]
 ·simp only[Cl.v,o220_1000010_1,TT,Nat.reduceEqDiff,↓reduceIte,h1]
theorem c10_yes (x0 x1 x2 x3 x4 i z t body code y0 y1 y2:Int) (c:Cl) (r1 r2 r3 r4 r5 r6 r7 r8 r9 r10 r12 r14:Rw) {a:Ar} (ha:AOk a) {R:Tm'} (hk:Den a y2 R) {dn got:List Nt} (hd:dn.length≤1000) (hb:got.length≤10000) (h1:code=0) (h2:0≤body) :
  fin trA 2647 ([I x0,I x1,I x2,I x3,I x4,I i,I z,I 1,I 2]++c.v++[I t,I body,I code]) [qag a,r1,r2,r3,r4,r5,r6,r7,r8,r9,r10,qas dn,r12,qas got,r14,[[I y0],[I y1],[I y2]]]=some (0,[],[qas (got++[noteR dn c.name c.ch.app body R])]):=by
 have v1:wr (1+1)=2:=by rw[qaj (by omega) (by omega)];rfl
 have e:=qfE ha hd x0 x1 x2 x3 x4 c.name c.ch.app body hk r1 r2 r3 r4 r5 r6 r7 r8 r9 r10 r12 (qas got) r14
 have g:((got++[noteR dn c.name c.ch.app body R]).length:Int)≤100000000:=by simp;omega
 refine qaa trA ?_
 show o220_1000010_1.go _ _ _=_
 simp only[Cl.v,o220_1000010_1,TT,Nat.reduceEqDiff,↓reduceIte,TN,Nat.reduceAdd,Int.reduceLT,Int.reduceLE,Int.reduceToNat,Int.reduceToNat,h1,h2,v1,e,Nt.v,noteR_app,encN_len,g]
theorem c5_1 (x0 x1 x2 x3 x4:Int) (i:Nat) (z b po pn t body code:Int) (c:Cl) {ad tk:List Int} (hi:i < ad.length) (ht:tk.length≤1000) {r0 r1 r3 r4 r5 r6 r7 r8 r10 r11 r12 r13 r14 r15 q0 q10 q11 q13 n7 n8:Rw}
  (e6:fin trA 2643 ([I x0,I x1,I x2,I x3,I x4,I i,I z,I b,I po,I pn]++c.v++[I t,I body,I code,B (!decide (c.name∈tk)&&!decide (c.gate∈tk))]) [r0,r1,qak ad,r3,r4,r5,r6,r7,r8,qak tk,r10,r11,r12,r13,r14,r15]=some (0,[],[q0,q10]))
  (e8:fin trA 2645 ([I x0,I x1,I x2,I x3,I x4,I i,I z,I b,I po,I pn]++c.v++[I t,I body,I code,B (!decide (c.name∈tk)&&!decide (c.gate∈tk))]) [q0,r1,qak ad,r3,r4,r5,r6,r7,r8,qak tk,q10,r11,r12,r13,r14,r15]=some (0,[],[q11]))
  (e10:fin trA 2647 ([I x0,I x1,I x2,I x3,I x4,I i,I z,I po,I pn]++c.v++[I t,I body,I code]) [q0,r1,qak ad,r3,r4,r5,r6,r7,r8,qak tk,q10,q11,r12,r13,r14,r15]=some (0,[],[q13]))
  (es:fin trA 1754 [I x0,I x1,I x2,I x3,I x4,I ad[i],I 99,I t] [q0,r1,qak ad,r3,r4,r5,r6,r7,r8,qak tk,q10,q11,r12,q13,r14]=some (0,[],[n7,n8])) :
  fin trA 2649 ([I x0,I x1,I x2,I x3,I x4,I i,I z,I b,I po,I pn]++c.v++[I t,I body,I code]) [r0,r1,qak ad,r3,r4,r5,r6,r7,r8,qak tk,r10,r11,r12,r13,r14,r15]=some (0,[I code],[q0,n7,n8,q10,q11,q13]):=by
 have g0:(0:Int)≤(i:Int):=by omega
 have g1:(i:Int) < (ad.length:Int):=by omega
 have e1:=fun nm=>qgf ht x0 x1 x2 x3 x4 nm r0 r1 (qak ad) r3 r4 r5 r6 r7 r8 r10 r11 r12 r13 r14
 simp only[Cl.v,List.cons_append,List.nil_append] at e6 e8 e10
 refine qaa trA ?_
 show o220_1000005_1.go _ _ _=_
 by_cases h1:c.name∈tk
 ·simp only[h1,decide_true,Bool.not_true,Bool.false_and] at e6 e8
  simp only[Cl.v,o220_1000005_1,TT,Nat.reduceEqDiff,↓reduceIte,e1,h1,e6,e8,e10,encI_len,g0,g1,Int.toNat_natCast,qam ad i hi,es]
 ·simp only[h1,decide_false,Bool.not_false,Bool.true_and] at e6 e8
  simp only[Cl.v,o220_1000005_1,TT,Nat.reduceEqDiff,↓reduceIte,e1,h1,e6,e8,e10,encI_len,g0,g1,Int.toNat_natCast,qam ad i hi,es]
def qfX (tk:List Int) (c:Cl):Bool:=!decide (c.name∈tk)&&!decide (c.gate∈tk)
theorem asm0 {w:Wd} (i:Nat) (hi:i < w.cs.length) (hj:i < w.ad.length) (hb:w.taken.length≤1000) (src to t t' body code:Int) {c':Cl} {a1:Ar} {q0 n7 n8 q10 q11 q13:Rw}
  (e0:fin trA 2378 [I t] [qag w.a]=some (0,[],[[]]))
  (e1:fin trA 2846 (w.cs[i].1.v++[I t,I w.now]) [qag w.a]=some (0,c'.v++[I t',I body,I code],[qag a1]))
  (e6:fin trA 2642 ([I w.g.name,I w.g.next,I w.g.drops,I w.now,I w.draw,I i,I 0,I w.cs[i].1.state]++c'.v++[I t',I body,I code,B (qfX w.taken c')]) [qag a1,qbE (w.cs.modify i fun _=>(c',w.cs[i].2)),qak w.ad,qax w.g.l,qaI w.g.p,qaR w.g.w,qbb w.g.o,qbs w.net,qak w.known,qak w.taken,qas w.begun,qas w.dn,qas w.sent,qas w.got,qak w.codes,[]]=some (0,[],[q0,q10]))
  (e8:fin trA 2644 ([I w.g.name,I w.g.next,I w.g.drops,I w.now,I w.draw,I i,I 0,I w.cs[i].1.state]++c'.v++[I t',I body,I code,B (qfX w.taken c')]) [q0,qbE (w.cs.modify i fun _=>(c',w.cs[i].2)),qak w.ad,qax w.g.l,qaI w.g.p,qaR w.g.w,qbb w.g.o,qbs w.net,qak w.known,qak w.taken,q10,qas w.dn,qas w.sent,qas w.got,qak w.codes,[]]=some (0,[],[q11]))
  (e10:fin trA 2646 ([I w.g.name,I w.g.next,I w.g.drops,I w.now,I w.draw,I i,I 0]++c'.v++[I t',I body,I code]) [q0,qbE (w.cs.modify i fun _=>(c',w.cs[i].2)),qak w.ad,qax w.g.l,qaI w.g.p,qaR w.g.w,qbb w.g.o,qbs w.net,qak w.known,qak w.taken,q10,q11,qas w.sent,qas w.got,qak w.codes,[]]=some (0,[],[q13]))
  (es:fin trA 1754 [I w.g.name,I w.g.next,I w.g.drops,I w.now,I w.draw,I w.ad[i],I 99,I t'] [q0,qbE (w.cs.modify i fun _=>(c',w.cs[i].2)),qak w.ad,qax w.g.l,qaI w.g.p,qaR w.g.w,qbb w.g.o,qbs w.net,qak w.known,qak w.taken,q10,q11,qas w.sent,q13,qak w.codes]=some (0,[],[n7,n8])) :
  fin trA 2652 (w.vs++[I i,I src,I to,I t]) w.rs=some (0,[I code],[q0,n7,n8,q10,q11,q13,qbE (w.cs.modify i fun _=>(c',w.cs[i].2))]):=by
 have g0:(0:Int)≤(i:Int):=by omega
 have g1:(i:Int) < (w.cs.length:Int):=by omega
 have e5:=c5_0 w.g.name w.g.next w.g.drops w.now w.draw i 0 w.cs[i].1.state t' body code c' (ad:=w.ad) (tk:=w.taken) hj hb e6 e8 e10 es
 have hset:=qdH w.cs i c' w.cs[i].2
 simp only[Cl.v,List.cons_append,List.nil_append] at e1 e5 hset
 have e3:fin trA 2650 [I w.g.name,I w.g.next,I w.g.drops,I w.now,I w.draw,I i,I src,I to,I t,I 0,I w.cs[i].1.state] (w.rs++[[]])=some (0,[I code],[q0,n7,n8,q10,q11,q13,qbE (w.cs.modify i fun _=>(c',w.cs[i].2))]):=by
  refine qaa trA ?_
  show o220_1000003_0.go _ _ _=_
  simp only[Wd.rs,o220_1000003_0,qaG,TT,Nat.reduceEqDiff,↓reduceIte,encC_len,g0,g1,Int.toNat_natCast,qaY w.cs i hi,Cl.v,e1,hset,e5]
 simp only[Wd.rs,List.cons_append,List.nil_append] at e3
 refine qaa trA ?_
 show o220.go _ _ _=_
 simp only[Wd.vs,Wd.rs,o220,qac,TT,Nat.reduceEqDiff,↓reduceIte,encC_len,g0,g1,Int.toNat_natCast,qaY w.cs i hi,Cl.v,e0,e3]
theorem asm1 {w:Wd} (i:Nat) (hi:i < w.cs.length) (hj:i < w.ad.length) (hb:w.taken.length≤1000) (src to t t' body code:Int) (n pn:Int) (p:Rw) {c':Cl} {a1:Ar} {q0 n7 n8 q10 q11 q13:Rw}
  (e0:fin trA 2378 [I t] [qag w.a]=some (1,[I n,I 1,I pn],[p]))
  (e1:fin trA 2846 (w.cs[i].1.v++[I t,I w.now]) [qag w.a]=some (0,c'.v++[I t',I body,I code],[qag a1]))
  (e6:fin trA 2643 ([I w.g.name,I w.g.next,I w.g.drops,I w.now,I w.draw,I i,I 0,I w.cs[i].1.state,I 1,I pn]++c'.v++[I t',I body,I code,B (qfX w.taken c')]) [qag a1,qbE (w.cs.modify i fun _=>(c',w.cs[i].2)),qak w.ad,qax w.g.l,qaI w.g.p,qaR w.g.w,qbb w.g.o,qbs w.net,qak w.known,qak w.taken,qas w.begun,qas w.dn,qas w.sent,qas w.got,qak w.codes,p]=some (0,[],[q0,q10]))
  (e8:fin trA 2645 ([I w.g.name,I w.g.next,I w.g.drops,I w.now,I w.draw,I i,I 0,I w.cs[i].1.state,I 1,I pn]++c'.v++[I t',I body,I code,B (qfX w.taken c')]) [q0,qbE (w.cs.modify i fun _=>(c',w.cs[i].2)),qak w.ad,qax w.g.l,qaI w.g.p,qaR w.g.w,qbb w.g.o,qbs w.net,qak w.known,qak w.taken,q10,qas w.dn,qas w.sent,qas w.got,qak w.codes,p]=some (0,[],[q11]))
  (e10:fin trA 2647 ([I w.g.name,I w.g.next,I w.g.drops,I w.now,I w.draw,I i,I 0,I 1,I pn]++c'.v++[I t',I body,I code]) [q0,qbE (w.cs.modify i fun _=>(c',w.cs[i].2)),qak w.ad,qax w.g.l,qaI w.g.p,qaR w.g.w,qbb w.g.o,qbs w.net,qak w.known,qak w.taken,q10,q11,qas w.sent,qas w.got,qak w.codes,p]=some (0,[],[q13]))
  (es:fin trA 1754 [I w.g.name,I w.g.next,I w.g.drops,I w.now,I w.draw,I w.ad[i],I 99,I t'] [q0,qbE (w.cs.modify i fun _=>(c',w.cs[i].2)),qak w.ad,qax w.g.l,qaI w.g.p,qaR w.g.w,qbb w.g.o,qbs w.net,qak w.known,qak w.taken,q10,q11,qas w.sent,q13,qak w.codes]=some (0,[],[n7,n8])) :
  fin trA 2652 (w.vs++[I i,I src,I to,I t]) w.rs=some (0,[I code],[q0,n7,n8,q10,q11,q13,qbE (w.cs.modify i fun _=>(c',w.cs[i].2))]):=by
 have g0:(0:Int)≤(i:Int):=by omega
 have g1:(i:Int) < (w.cs.length:Int):=by omega
 have e5:=c5_1 w.g.name w.g.next w.g.drops w.now w.draw i 0 w.cs[i].1.state 1 pn t' body code c' (ad:=w.ad) (tk:=w.taken) hj hb e6 e8 e10 es
 have hset:=qdH w.cs i c' w.cs[i].2
 simp only[Cl.v,List.cons_append,List.nil_append] at e1 e5 hset
 have e3:fin trA 2651 [I w.g.name,I w.g.next,I w.g.drops,I w.now,I w.draw,I i,I src,I to,I t,I 0,I w.cs[i].1.state,I 1,I pn] (w.rs++[p])=some (0,[I code],[q0,n7,n8,q10,q11,q13,qbE (w.cs.modify i fun _=>(c',w.cs[i].2))]):=by
  refine qaa trA ?_
  show o220_1000003_1.go _ _ _=_
  simp only[Wd.rs,o220_1000003_1,qaG,TT,Nat.reduceEqDiff,↓reduceIte,encC_len,g0,g1,Int.toNat_natCast,qaY w.cs i hi,Cl.v,e1,hset,e5]
 simp only[Wd.rs,List.cons_append,List.nil_append] at e3
 refine qaa trA ?_
 show o220.go _ _ _=_
 simp only[Wd.vs,Wd.rs,o220,qac,TT,Nat.reduceEqDiff,↓reduceIte,encC_len,g0,g1,Int.toNat_natCast,qaY w.cs i hi,Cl.v,e0,e3]
structure Cl18 (w:Wd) (i:Nat) (hi:i < w.cs.length) (hj:i < w.ad.length) (T:Tm') (a1 a':Ar) (t body:Int) (net':List Mail_) (known':List Int) (begun' dn' got':List Nt) (c':Cl) (code:Int):Prop where
 ch:CH w.a w.cs[i].1 T w.now w.cs[i].2 a1 c' t body code
 begun:(¬(code=0∧w.cs[i].1.state=1∧c'.state=2)∧a'=a1∧begun'=w.begun)∨((code=0∧w.cs[i].1.state=1∧c'.state=2)∧∃app H S,Den a1 c'.hand H∧Den a1 c'.said S∧Ext a1 a' 4∧Den a' app (appT H S)∧begun'=w.begun++[⟨c'.name,c'.gate,app,0,0,c'.said,qfX w.taken c'⟩])
 dn:(¬(code=0∧w.cs[i].1.state=2∧c'.state=3)∧dn'=w.dn)∨((code=0∧w.cs[i].1.state=2∧c'.state=3)∧dn'=w.dn++[⟨c'.name,c'.gate,c'.ch.app,0,0,c'.said,qfX w.taken c'⟩])
 got:(body=-1∧got'=w.got)∨(0≤body∧∃N R,qaN T=some (76,[N,R])∧got'=w.got++[noteR dn' c'.name c'.ch.app body R])
 say:(t=-1∧net'=w.net∧known'=w.known)∨(0≤t∧net'=qby w.net ⟨w.ad[i],99,t⟩∧known'=w.known++[t])
theorem f_client18 {w:Wd} (ha:AOk w.a) (i:Nat) (hi:i < w.cs.length) (hj:i < w.ad.length) (hc:ClD w.a w.cs[i].1 w.cs[i].2) {src to t:Int} {T:Tm'} (hk:Den w.a t T) (hw:0≤w.now∧w.now≤99999) (hl:w.a.length+70≤3000)
  (b1:w.dn.length≤800) (b2:w.net.length≤1000) (b3:w.known.length≤10000) (b4:w.begun.length≤10000) (b5:w.got.length≤10000) (b6:w.taken.length≤1000) :
  ∃a1 a' t' body net' known' begun' dn' got' c' code,fin trA 2652 (w.vs++[I i,I src,I to,I t]) w.rs=some (0,[I code],[qag a',qbs net',qak known',qas begun',qas dn',qas got',qbE (w.cs.modify i fun _=>(c',w.cs[i].2))])∧Cl18 w i hi hj T a1 a' t' body net' known' begun' dn' got' c' code:=by
 obtain⟨a1,c',t',body,code,e1,h⟩:=f_clHear (now:=w.now) ha hc hk hw (by omega)
 have hx:=h.ext ha
 have l1:=hx.len
 have es_no:=fun q0 q1 q10 q11 q13=>qhc w.g.name w.g.next w.g.drops w.now w.draw w.ad[i] 99 (-1) (by omega) q0 q1 (qak w.ad) (qax w.g.l) (qaI w.g.p) (qaR w.g.w) (qbb w.g.o) (qbs w.net) (qak w.known) (qak w.taken) q10 q11 (qas w.sent) q13 (qak w.codes)
 have es_yes:=fun (ht:0≤t') q0 q1 q10 q11 q13=>qfs b2 b3 w.g.name w.g.next w.g.drops w.now w.draw w.ad[i] 99 t' ht q0 q1 (qak w.ad) (qax w.g.l) (qaI w.g.p) (qaR w.g.w) (qbb w.g.o) (qak w.taken) q10 q11 (qas w.sent) q13 (qak w.codes)
 have h0:=h
 cases h with
 | none =>
  rcases qbG ha hk with ⟨hT,e0⟩ | ⟨n,u,x,y,hn,hT,e0,d1⟩ | ⟨n,u,v,x,y,z,hn,hT,e0,d1,d2⟩
  ·exact⟨_,_,_,_,_,_,_,_,_,_,_,asm0 i hi hj b6 src to t _ _ _ e0 e1 (c6_no0 _ _ _ _ _ _ _ _ _ _ _ _ _ _ _ _ _ _ _ _ _ _ _ _ _ _ _ _ _ (by omega)) (c8_no0 _ _ _ _ _ _ _ _ _ _ _ _ _ _ _ _ _ _ _ _ _ _ _ _ _ _ _ _ _ (by omega)) (c10_no0 _ _ _ _ _ _ _ _ _ _ _ _ _ _ _ _ _ _ _ _ _ _ _ _ _ _ _ (by omega)) (es_no _ _ _ _ _),⟨h0,.inl ⟨by omega,rfl,rfl⟩,.inl ⟨by omega,rfl⟩,.inl ⟨rfl,rfl⟩,.inl ⟨rfl,rfl,rfl⟩⟩⟩
  ·exact⟨_,_,_,_,_,_,_,_,_,_,_,asm1 i hi hj b6 src to t _ _ _ _ _ _ e0 e1 (c6_no1 _ _ _ _ _ _ _ _ _ _ _ _ _ _ _ _ _ _ _ _ _ _ _ _ _ _ _ _ _ _ _ (by omega)) (c8_no1 _ _ _ _ _ _ _ _ _ _ _ _ _ _ _ _ _ _ _ _ _ _ _ _ _ _ _ _ _ _ _ (by omega)) (qgC _ _ _ _ _ _ _ _ _ _ _ _ _ _ _ _ _ _ _ _ _ _ _ _ _ _ _ _ _ (by omega)) (es_no _ _ _ _ _),⟨h0,.inl ⟨by omega,rfl,rfl⟩,.inl ⟨by omega,rfl⟩,.inl ⟨rfl,rfl⟩,.inl ⟨rfl,rfl,rfl⟩⟩⟩
  ·exact⟨_,_,_,_,_,_,_,_,_,_,_,asm1 i hi hj b6 src to t _ _ _ _ _ _ e0 e1 (c6_no1 _ _ _ _ _ _ _ _ _ _ _ _ _ _ _ _ _ _ _ _ _ _ _ _ _ _ _ _ _ _ _ (by omega)) (c8_no1 _ _ _ _ _ _ _ _ _ _ _ _ _ _ _ _ _ _ _ _ _ _ _ _ _ _ _ _ _ _ _ (by omega)) (qgC _ _ _ _ _ _ _ _ _ _ _ _ _ _ _ _ _ _ _ _ _ _ _ _ _ _ _ _ _ (by omega)) (es_no _ _ _ _ _),⟨h0,.inl ⟨by omega,rfl,rfl⟩,.inl ⟨by omega,rfl⟩,.inl ⟨rfl,rfl⟩,.inl ⟨rfl,rfl,rfl⟩⟩⟩
 | @retry C t'' a'' s k l x d =>
  rcases qbG ha hk with ⟨hT,e0⟩ | ⟨n,u,x',y,hn,hT,e0,d1⟩ | ⟨n,u,v,x',y,z,hn,hT,e0,d1,d2⟩
  ·rw[l] at hT;cases hT
  ·have ht:0≤t':=d.nonneg
   have s2:¬w.cs[i].1.state=2:=by omega
   exact⟨_,_,_,_,_,_,_,_,_,_,_,asm1 i hi hj b6 src to t _ _ _ _ _ _ e0 e1 (c6_no1 _ _ _ _ _ _ _ _ _ _ _ _ _ _ _ _ _ _ _ _ _ _ _ _ _ _ _ _ _ _ _ (fun q=>s2 q.2.2)) (c8_no1 _ _ _ _ _ _ _ _ _ _ _ _ _ _ _ _ _ _ _ _ _ _ _ _ _ _ _ _ _ _ _ (fun q=>s2 q.2.1)) (qgC _ _ _ _ _ _ _ _ _ _ _ _ _ _ _ _ _ _ _ _ _ _ _ _ _ _ _ _ _ (by omega)) (es_yes ht _ _ _ _ _),⟨h0,.inl ⟨fun q=>s2 q.2.2,rfl,rfl⟩,.inl ⟨fun q=>s2 q.2.1,rfl⟩,.inl ⟨rfl,rfl⟩,.inr ⟨ht,rfl,rfl⟩⟩⟩
  ·rw[l] at hT;cases hT
 | @server W P nonce Y hand said t'' a'' s l w' p x d1 d2 d3 =>
  rcases qbG ha hk with ⟨hT,e0⟩ | ⟨n,u,x',y,hn,hT,e0,q1⟩ | ⟨n,u,v,x',y,z,hn,hT,e0,q1,q2⟩
  ·rw[l] at hT;cases hT
  ·rw[l] at hT;cases hT
  ·have ht:0≤t':=d3.nonneg
   have s2:¬w.cs[i].1.state=2:=by omega
   obtain⟨a2,app,e6,x6,d6⟩:=c6_yes1 w.g.name w.g.next w.g.drops w.now w.draw i 0 w.cs[i].1.state 1 2 t' (-1) 0 ({ w.cs[i].1 with state:=2,last:=t',due:=w.now+1,wait:=1,tries:=0,hand:=hand,said:=said }:Cl) (qfX w.taken ({ w.cs[i].1 with state:=2,last:=t',due:=w.now+1,wait:=1,tries:=0,hand:=hand,said:=said }:Cl)) _ _ _ _ _ _ _ _ _ _ _ _ _ _ x.ok d1 d2 (by omega) b4 rfl s rfl
   exact⟨_,_,_,_,_,_,_,_,_,_,_,asm1 i hi hj b6 src to t _ _ _ _ _ _ e0 e1 e6 (c8_no1 _ _ _ _ _ _ _ _ _ _ _ _ _ _ _ _ _ _ _ _ _ _ _ _ _ _ _ _ _ _ _ (fun q=>s2 q.2.1)) (qgC _ _ _ _ _ _ _ _ _ _ _ _ _ _ _ _ _ _ _ _ _ _ _ _ _ _ _ _ _ (by omega)) (es_yes ht _ _ _ _ _),⟨h0,.inr ⟨⟨rfl,s,rfl⟩,app,_,_,d1,d2,x6,d6,rfl⟩,.inl ⟨fun q=>s2 q.2.1,rfl⟩,.inl ⟨rfl,rfl⟩,.inr ⟨ht,rfl,rfl⟩⟩⟩
 | @ack A lease app a'' s l r x d =>
  rcases qbG ha hk with ⟨hT,e0⟩ | ⟨n,u,x',y,hn,hT,e0,q1⟩ | ⟨n,u,v,x',y,z,hn,hT,e0,q1,q2⟩
  ·rw[l] at hT;cases hT
  ·have s1:¬w.cs[i].1.state=1:=by omega
   exact⟨_,_,_,_,_,_,_,_,_,_,_,asm1 i hi hj b6 src to t _ _ _ _ _ _ e0 e1 (c6_no1 _ _ _ _ _ _ _ _ _ _ _ _ _ _ _ _ _ _ _ _ _ _ _ _ _ _ _ _ _ _ _ (fun q=>s1 q.2.1)) (c8_yes1 _ _ _ _ _ _ _ _ _ _ _ _ _ _ _ _ _ _ _ _ _ _ _ _ _ _ _ _ _ _ (by omega) rfl s rfl) (qgC _ _ _ _ _ _ _ _ _ _ _ _ _ _ _ _ _ _ _ _ _ _ _ _ _ _ _ _ _ (by omega)) (es_no _ _ _ _ _),⟨h0,.inl ⟨fun q=>s1 q.2.1,rfl,rfl⟩,.inr ⟨⟨rfl,s,rfl⟩,rfl⟩,.inl ⟨rfl,rfl⟩,.inl ⟨rfl,rfl,rfl⟩⟩⟩
  ·rw[l] at hT;cases hT
 | @record N R u e s c'' SN' SL' body' st l hd le op new hr d =>
  rcases qbG ha hk with ⟨hT,e0⟩ | ⟨n,u,x',y,hn,hT,e0,q1⟩ | ⟨n,u,v,x',y,z,hn,hT,e0,q1,q2⟩
  ·rw[l] at hT;cases hT
  ·rw[l] at hT;cases hT
  ·rw[l] at hT
   cases hT
   have s1:¬w.cs[i].1.state=1:=by omega
   have s2:¬w.cs[i].1.state=2:=by omega
   exact⟨_,_,_,_,_,_,_,_,_,_,_,asm1 i hi hj b6 src to t _ _ _ _ _ _ e0 e1 (c6_no1 _ _ _ _ _ _ _ _ _ _ _ _ _ _ _ _ _ _ _ _ _ _ _ _ _ _ _ _ _ _ _ (fun q=>s1 q.2.1)) (c8_no1 _ _ _ _ _ _ _ _ _ _ _ _ _ _ _ _ _ _ _ _ _ _ _ _ _ _ _ _ _ _ _ (fun q=>s2 q.2.1)) (c10_yes _ _ _ _ _ _ _ _ _ _ _ _ _ _ _ _ _ _ _ _ _ _ _ _ _ _ ha q2 (by omega) b5 rfl d.nonneg) (es_no _ _ _ _ _),⟨h0,.inl ⟨fun q=>s1 q.2.1,rfl,rfl⟩,.inl ⟨fun q=>s2 q.2.1,rfl⟩,.inr ⟨d.nonneg,_,_,l,rfl⟩,.inl ⟨rfl,rfl,rfl⟩⟩⟩
theorem encC_mod (c:Cl) (g g':ClG):∀(l:List (Cl × ClG)) (i:Nat),qbE (l.modify i fun _=>(c,g))=qbE (l.modify i fun _=>(c,g'))
 | [],_=>by simp
 | x :: l,0=>by simp[qbE]
 | x :: l,i+1=>by
  have:=encC_mod c g g' l i
  simp only[qbE] at this ⊢
  simp[this]
structure WdI (n:Nat) (w:Wd):Prop where
 ok:AOk w.a
 few:w.a.length≤100+65*n
 gate:GtD w.a w.g
 gname:w.g.name=9
 next:w.g.next≤1+n
 gseq:∀s∈w.g.l,s.ch.seq≤n
 gaddr:∀s∈w.g.l,s.addr≤9
 now:0≤w.now∧w.now≤4*n
 two:w.cs.length=2
 cl:∀c∈w.cs,ClD w.a c.1 c.2
 cseq:∀c∈w.cs,c.1.ch.seq≤n
 adl:w.ad.length=2
 ad:∀x∈w.ad,0≤x∧x≤9
 netl:w.net.length≤12
 net:∀m∈w.net,(∃T,Den w.a m.term T)∧0≤m.src∧(m.to=99→m.src≤9)
 knl:w.known.length≤10+5*n
 kn:∀k∈w.known,∃T,Den w.a k T
 taken:w.taken.length≤1+n
 begun:w.begun.length≤n
 dn:w.dn.length≤3*n
 sent:w.sent.length≤n
 got:w.got.length≤n
inductive CarryR (w:Wd) (src to:Int) (T:Tm'):Wd→Int→Prop where
 | gate {a':Ar} {g':Gt} {m:Rw} {body code:Int} {dn' got':List Nt} {net':List Mail_} {known':List Int} {sent':List Nt} (hto:to=99) (h:GateR w src T a' g' m body code dn' got' net' known' sent') :
   CarryR w src to T { w with a:=a',g:=g',dn:=dn',got:=got',net:=net',known:=known',sent:=sent' } code
 | client {i:Nat} {hi:i < w.cs.length} {hj:i < w.ad.length} {a1 a':Ar} {t body:Int} {net':List Mail_} {known':List Int} {begun' dn' got':List Nt} {c':Cl} {g':ClG} {code:Int} (hto:to≠99) (had:w.ad[i]=to) (h:Cl18 w i hi hj T a1 a' t body net' known' begun' dn' got' c' code) (ok:ClD a1 c' g') :
   CarryR w src to T { w with a:=a',net:=net',known:=known',begun:=begun',dn:=dn',got:=got',cs:=w.cs.modify i fun _=>(c',g') } code
 | none (hto:to≠99) (h:∀i (hj:i < w.ad.length),w.ad[i]≠to):CarryR w src to T w 1
def Wd.o11 (w:Wd):List Rw:=[qag w.a,qax w.g.l,qaI w.g.p,qbb w.g.o,qbs w.net,qak w.known,qas w.begun,qas w.dn,qas w.sent,qas w.got,qbE w.cs]
section
variable {n:Nat} {w:Wd}
theorem WdI.i2 (h:WdI n w) {i:Nat} (hi:i < 2):i < w.cs.length∧i < w.ad.length:=⟨by rw[h.two];exact hi,by rw[h.adl];exact hi⟩
theorem qgk (h:WdI n w) (hn:n≤43) {i:Nat} (hi:i < 2) {src to t z:Int} {T:Tm'} (hk:Den w.a t T) (hto:to≠99) (had:w.ad[i]'(h.i2 hi).2=to) :
  ∃w' code,fin trA 2318 (w.vs++[I src,I to,I t,I z,I i]) w.rs=some (1,[I code],[qag w'.a,qbs w'.net,qak w'.known,qas w'.begun,qas w'.dn,qas w'.got,qbE w'.cs])∧CarryR w src to T w' code∧w'.g=w.g∧w'.sent=w.sent:=by
 have hc:=(h.i2 hi).1
 have hj:=(h.i2 hi).2
 have g0:(0:Int)≤(i:Int):=by omega
 have g1:(i:Int) < (w.cs.length:Int):=by omega
 have g2:(i:Int) < (w.ad.length:Int):=by omega
 have hcl:=h.cl _ (List.getElem_mem hc)
 have:=h.few;have:=h.dn;have:=h.netl;have:=h.knl;have:=h.begun;have:=h.got;have:=h.taken;have:=h.now
 obtain⟨a1,a',t',body,net',known',begun',dn',got',c',code,e1,hC⟩:=f_client18 h.ok i hc hj hcl (src:=src) (to:=to) hk (by omega) (by omega) (by omega) (by omega) (by omega) (by omega) (by omega) (by omega)
 obtain⟨g',hg',_⟩:=hC.ch.ok h.ok hcl
 refine⟨{ w with a:=a',net:=net',known:=known',begun:=begun',dn:=dn',got:=got',cs:=w.cs.modify i fun _=>(c',g') },code,qaa trA ?_,.client hto had hC hg',rfl,rfl⟩
 rw[encC_mod c' w.cs[i].2 g'] at e1
 simp only[Wd.vs,Wd.rs,List.cons_append,List.nil_append] at e1
 show o193_0.go _ _ _=_
 simp only[Wd.vs,Wd.rs,o193_0,TT,Nat.reduceEqDiff,↓reduceIte,encC_len,encI_len,g0,g1,g2,Int.toNat_natCast,qam w.ad i hj,had,e1]
theorem f_carry (h:WdI n w) (hn:n≤43) (hd:1000≤w.draw∧w.draw≤900000) {src to t:Int} {T:Tm'} (hk:Den w.a t T) (hs:0≤src∧(to=99→src≤9)) :
  ∃w' code,fin trA 2319 (w.vs++[I src,I to,I t]) w.rs=some (0,[I w'.g.next,I w'.g.drops,I code],w'.o11)∧CarryR w src to T w' code:=by
 have:=h.few;have:=h.dn;have:=h.netl;have:=h.knl;have:=h.begun;have:=h.got;have:=h.taken;have:=h.now;have:=h.next;have:=h.sent
 by_cases h99:to=99
 ·obtain⟨a',g',m,body,code,dn',got',net',known',sent',e1,hG⟩:=f_gate18 h.ok h.gate (to:=to) hk ⟨hs.1,by have:=hs.2 h99;omega⟩ hd (by omega) (by omega) h.gseq (by omega) (by omega) (by omega) (by omega) (by omega) (by omega) (by omega)
  refine⟨{ w with a:=a',g:=g',dn:=dn',got:=got',net:=net',known:=known',sent:=sent' },code,qaa trA ?_,.gate h99 hG⟩
  simp only[Wd.vs,Wd.rs,List.cons_append,List.nil_append] at e1
  rw[h99] at e1
  show o193.go _ _ _=_
  simp only[Wd.vs,Wd.rs,Wd.o11,o193,TT,Nat.reduceEqDiff,↓reduceIte,h99,e1]
 ·have hc0:=(h.i2 (show 0 < 2 by omega));have hc1:=(h.i2 (show 1 < 2 by omega))
  by_cases ha0:w.ad[0]'hc0.2=to
  ·obtain⟨w',code,e1,hR,hg,hse⟩:=qgk h hn (show 0 < 2 by omega) (src:=src) (z:=0) hk h99 ha0
   rw[show((0:Nat):Int)=0 from rfl] at e1
   refine⟨w',code,qaa trA ?_,hR⟩
   simp only[Wd.vs,Wd.rs,List.cons_append,List.nil_append] at e1
   show o193.go _ _ _=_
   simp only[Wd.vs,Wd.rs,Wd.o11,o193,qac,TT,Nat.reduceEqDiff,↓reduceIte,Int.reduceEq,h99,e1,hg,hse]
  ·have g2:(0:Int) < (w.ad.length:Int):=by omega
   have g3:(0:Int) < (w.cs.length:Int):=by omega
   have v1:wr (0+1)=1:=by rw[qaj (by omega) (by omega)];rfl
   have q0:=qam w.ad 0 hc0.2
   by_cases ha1:w.ad[1]'hc1.2=to
   ·obtain⟨w',code,e1,hR,hg,hse⟩:=qgk h hn (show 1 < 2 by omega) (src:=src) (z:=0) hk h99 ha1
    rw[show((1:Nat):Int)=1 from rfl] at e1
    simp only[Wd.vs,Wd.rs,List.cons_append,List.nil_append] at e1
    have e0:fin trA 2318 (w.vs++[I src,I to,I t,I 0,I 0]) w.rs=some (1,[I code],[qag w'.a,qbs w'.net,qak w'.known,qas w'.begun,qas w'.dn,qas w'.got,qbE w'.cs]):=by
     refine qaa trA ?_
     show o193_0.go _ _ _=_
     simp only[Wd.vs,Wd.rs,o193_0,qac,TT,Nat.reduceEqDiff,↓reduceIte,encC_len,encI_len,g2,g3,Int.le_refl,Int.toNat_zero,q0,ha0,v1,e1]
    simp only[Wd.vs,Wd.rs,List.cons_append,List.nil_append] at e0
    refine⟨w',code,qaa trA ?_,hR⟩
    show o193.go _ _ _=_
    simp only[Wd.vs,Wd.rs,Wd.o11,o193,qac,TT,Nat.reduceEqDiff,↓reduceIte,Int.reduceEq,h99,e0,hg,hse]
   ·have g4:(1:Int) < (w.ad.length:Int):=by omega
    have g5:(1:Int) < (w.cs.length:Int):=by omega
    have g6:¬(2:Int) < (w.cs.length:Int):=by have:=h.two;omega
    have v2:wr (1+1)=2:=by rw[qaj (by omega) (by omega)];rfl
    have q1:=qam w.ad 1 hc1.2
    have z1:(0:Int)≤1:=by omega
    have e2:fin trA 2318 (w.vs++[I src,I to,I t,I 0,I 2]) w.rs=some (0,[],[]):=by
     refine qaa trA ?_
     show o193_0.go _ _ _=_
     simp only[Wd.vs,Wd.rs,o193_0,qac,TT,Nat.reduceEqDiff,↓reduceIte,encC_len,g6]
    simp only[Wd.vs,Wd.rs,List.cons_append,List.nil_append] at e2
    have e1:fin trA 2318 (w.vs++[I src,I to,I t,I 0,I 1]) w.rs=some (0,[],[]):=by
     refine qaa trA ?_
     show o193_0.go _ _ _=_
     simp only[Wd.vs,Wd.rs,o193_0,qac,TT,Nat.reduceEqDiff,↓reduceIte,encC_len,encI_len,g4,g5,z1,Int.toNat_one,q1,ha1,v2,e2]
    simp only[Wd.vs,Wd.rs,List.cons_append,List.nil_append] at e1
    have e0:fin trA 2318 (w.vs++[I src,I to,I t,I 0,I 0]) w.rs=some (0,[],[]):=by
     refine qaa trA ?_
     show o193_0.go _ _ _=_
     simp only[Wd.vs,Wd.rs,o193_0,qac,TT,Nat.reduceEqDiff,↓reduceIte,encC_len,encI_len,g2,g3,Int.le_refl,Int.toNat_zero,q0,ha0,v1,e1]
    simp only[Wd.vs,Wd.rs,List.cons_append,List.nil_append] at e0
    refine⟨w,1,qaa trA ?_,.none h99 fun i hj=>?_⟩
    ·show o193.go _ _ _=_
     simp only[Wd.vs,Wd.rs,Wd.o11,o193,qac,TT,Nat.reduceEqDiff,↓reduceIte,h99,e0]
    ·have:i=0∨i=1:=by have:=h.adl;omega
     rcases this with rfl | rfl
     ·exact ha0
     ·exact ha1
end
theorem qdm {α:Type} {P:α→Prop} {f:α→α} {l:List α} {i:Nat} (h:∀x∈l,P x) (hf:∀x∈l,P (f x)):∀x∈l.modify i f,P x:=fun x hx=>by
 rcases qey hx with h' | ⟨h1,rfl⟩
 ·exact h x h'
 ·exact hf _ (List.getElem_mem h1)
theorem GH.addr {a a':Ar} {g g':Gt} {addr draw now body code:Int} {T:Tm'} {m:Rw} {P:Int→Prop} (h:GH a g addr T draw now a' g' m body code) (h0:P addr) (h1:∀s∈g.l,P s.addr):∀s∈g'.l,P s.addr:=by
 cases h with
 | none=>exact h1
 | again l kind hj ad=>exact qdm h1 h1
 | retry=>exact h1
 | new l hi pub yes few x d0 d1 d2 d3 =>
  intro s hs
  rcases List.mem_append.1 hs with hs | hs
  ·exact h1 s hs
  ·have:s=_:=List.mem_singleton.1 hs
   rw[this];exact h0
 | opened=>exact qdm h1 h1
 | @record N R u j hj e s c' SN' SL' body ad d a' l' o' m l st c hd le op new hr db hd2 fw =>
  have had:P ad:=by
   rcases hd2 with rfl | rfl
   ·exact h0
   ·exact h1 _ (List.getElem_mem hj)
  have h2:∀s∈g.l.modify j (fun s=>qcr s c' now ad SN' SL'),P s.addr:=qdm h1 (fun _ _=>had)
  rcases fw with ⟨_,_,rfl,_,_⟩ | ⟨k,_,_,fw⟩
  ·exact h2
  ·cases fw with
   | drop=>exact h2
   | to=>exact qdm h2 h2
   | out=>exact h2
section
variable {n:Nat} {w:Wd}
theorem WdI.gateR (h:WdI n w) (hn:n≤43) {src:Int} {T:Tm'} {a':Ar} {g':Gt} {m:Rw} {body code:Int} {dn' got':List Nt} {net':List Mail_} {known':List Int} {sent':List Nt} (hs:0≤src∧src≤9) (k:GateR w src T a' g' m body code dn' got' net' known' sent') :
  WdI (n+1) { w with a:=a',g:=g',dn:=dn',got:=got',net:=net',known:=known',sent:=sent' }:=by
 have hne:=h.next
 have hx:=k.gh.ext h.ok
 obtain⟨q1,q2,q3,q4,q5⟩:=k.gh.ok h.ok h.gate ⟨hs.1,by omega⟩ (by omega) h.gseq (by omega)
 have hl:=k.mails.len h.netl
 have hm:=k.gh.mail h.gate ⟨hs.1,by omega⟩
 have few:=q1.few
 have hdn:dn'.length≤w.dn.length+3:=by rw[k.dn];have:=qcE g'.name w.taken g'.l w.dn;omega
 have hgot:got'.length≤w.got.length+1:=by
  cases k.got with
  | no=>omega
  | yes=>simp
 have:=hx.len;have:=h.few;have:=h.dn;have:=h.got;have:=h.knl;have:=h.sent;have:=h.taken;have:=h.begun;have:=h.now
 have netd:∀m∈w.net,(∃T,Den a' m.term T)∧0≤m.src∧(m.to=99→m.src≤9):=fun m hm=>by
  obtain⟨⟨T,d⟩,p1,p2⟩:=h.net m hm
  exact⟨⟨T,d.mono hx.pre⟩,p1,p2⟩
 have knd:∀k∈w.known,∃T,Den a' k T:=fun k hk=>by
  obtain⟨T,d⟩:=h.kn k hk
  exact⟨T,d.mono hx.pre⟩
 exact {
  ok:=hx.ok
  few:=by show a'.length≤_;omega
  gate:=q1
  gname:=q4.trans h.gname
  next:=by show g'.next≤_;omega
  gseq:=q3
  gaddr:=k.gh.addr (P:=fun x=>x≤9) hs.2 h.gaddr
  now:=⟨h.now.1,by show w.now≤_;omega⟩
  two:=h.two
  cl:=fun c hc=>(h.cl c hc).mono hx.pre
  cseq:=fun c hc=>by have:=h.cseq c hc;omega
  adl:=h.adl
  ad:=h.ad
  netl:=hl.1
  net:=by
   show ∀m∈net',_
   cases k.mails with
   | none=>exact netd
   | @one ad t U se d s =>
    intro x hx
    unfold qby at hx
    split at hx
    ·rcases List.mem_append.1 hx with hx | hx
     ·exact netd x hx
     ·have:x=_:=List.mem_singleton.1 hx
      subst this
      refine⟨⟨U,d⟩,by show(0:Int)≤99;omega,fun (h99:ad=99)=>?_⟩
      rcases hm with hm | ⟨ad',t',U',hm,_,_,hm2⟩
      ·cases hm
      ·have:ad=ad':=by
        have:=congrArg (fun r:Rw=>(r.getD 0 []).getD 0 undef) hm
        simpa using this
       subst this
       rcases hm2 with rfl | ⟨s,hs',rfl⟩
       ·omega
       ·have:=h.gaddr s hs';omega
    ·exact netd x hx
  knl:=by show known'.length≤_;omega
  kn:=by
   show ∀k∈known',_
   cases k.mails with
   | none=>exact knd
   | one d s =>
    intro x hx
    rcases List.mem_append.1 hx with hx | hx
    ·exact knd x hx
    ·have:x=_:=List.mem_singleton.1 hx
     subst this
     exact⟨_,d⟩
  taken:=by show w.taken.length≤_;omega
  begun:=by show w.begun.length≤_;omega
  dn:=by show dn'.length≤_;omega
  sent:=by show sent'.length≤_;omega
  got:=by show got'.length≤_;omega }
theorem WdI.clientR (h:WdI n w) (hn:n≤43) {i:Nat} {hi:i < w.cs.length} {hj:i < w.ad.length} {T:Tm'} {a1 a':Ar} {t body:Int} {net':List Mail_} {known':List Int} {begun' dn' got':List Nt} {c':Cl} {g':ClG} {code:Int} (k:Cl18 w i hi hj T a1 a' t body net' known' begun' dn' got' c' code) (ok:ClD a1 c' g') :
  WdI (n+1) { w with a:=a',net:=net',known:=known',begun:=begun',dn:=dn',got:=got',cs:=w.cs.modify i fun _=>(c',g') }:=by
 have hcl:=h.cl _ (List.getElem_mem hi)
 have hx1:=k.ch.ext h.ok
 obtain⟨_,_,ht,_,hsq⟩:=k.ch.ok h.ok hcl
 have hx2:Ext a1 a' 4:=by
  rcases k.begun with ⟨_,rfl,_⟩ | ⟨_,_,_,_,_,_,x,_⟩
  ·exact(Ext.refl hx1.ok).le (by omega)
  ·exact x
 have hx:=hx1.trans hx2
 have:=hx.len;have:=h.few;have:=h.dn;have:=h.got;have:=h.knl;have:=h.sent;have:=h.taken;have:=h.begun;have:=h.now;have:=h.next
 have netd:∀m∈w.net,(∃T,Den a' m.term T)∧0≤m.src∧(m.to=99→m.src≤9):=fun m hm=>by
  obtain⟨⟨T,d⟩,p1,p2⟩:=h.net m hm
  exact⟨⟨T,d.mono hx.pre⟩,p1,p2⟩
 have knd:∀k∈w.known,∃T,Den a' k T:=fun k hk=>by
  obtain⟨T,d⟩:=h.kn k hk
  exact⟨T,d.mono hx.pre⟩
 have had:=h.ad _ (List.getElem_mem hj)
 have td:0≤t→∃U,Den a' t U:=fun h0=>by
  rcases ht with rfl | ⟨u,d⟩
  ·omega
  ·exact⟨u,d.mono hx2.pre⟩
 exact {
  ok:=hx.ok
  few:=by show a'.length≤_;omega
  gate:=h.gate.mono hx.pre
  gname:=h.gname
  next:=by show w.g.next≤_;omega
  gseq:=fun s hs=>by have:=h.gseq s hs;omega
  gaddr:=h.gaddr
  now:=⟨h.now.1,by show w.now≤_;omega⟩
  two:=by show(w.cs.modify i _).length=2;rw[qbQ];exact h.two
  cl:=qaW (P:=fun c:Cl × ClG=>ClD a' c.1 c.2) (fun c hc=>(h.cl c hc).mono hx.pre) (fun _=>ok.mono hx2.pre)
  cseq:=qaW (P:=fun c:Cl × ClG=>c.1.ch.seq≤n+1) (fun c hc=>by have:=h.cseq c hc;omega) (fun _=>by have:=h.cseq _ (List.getElem_mem hi);show c'.ch.seq≤n+1;omega)
  adl:=h.adl
  ad:=h.ad
  netl:=by
   show net'.length≤12
   rcases k.say with ⟨_,rfl,_⟩ | ⟨_,rfl,_⟩
   ·exact h.netl
   ·exact qfi _ _ h.netl
  net:=by
   show ∀m∈net',_
   rcases k.say with ⟨_,rfl,_⟩ | ⟨h0,rfl,_⟩
   ·exact netd
   ·intro x hx
    unfold qby at hx
    split at hx
    ·rcases List.mem_append.1 hx with hx | hx
     ·exact netd x hx
     ·have:x=_:=List.mem_singleton.1 hx
      subst this
      exact⟨td h0,had.1,fun _=>had.2⟩
    ·exact netd x hx
  knl:=by
   show known'.length≤_
   rcases k.say with ⟨_,_,rfl⟩ | ⟨h0,_,rfl⟩
   ·omega
   ·simp;omega
  kn:=by
   show ∀k∈known',_
   rcases k.say with ⟨_,_,rfl⟩ | ⟨h0,_,rfl⟩
   ·exact knd
   ·intro x hx
    rcases List.mem_append.1 hx with hx | hx
    ·exact knd x hx
    ·have:x=_:=List.mem_singleton.1 hx
     subst this
     exact td h0
  taken:=by show w.taken.length≤_;omega
  begun:=by
   show begun'.length≤_
   rcases k.begun with ⟨_,_,rfl⟩ | ⟨_,_,_,_,_,_,_,_,rfl⟩
   ·omega
   ·simp;omega
  dn:=by
   show dn'.length≤_
   rcases k.dn with ⟨_,rfl⟩ | ⟨_,rfl⟩
   ·omega
   ·simp;omega
  sent:=by show w.sent.length≤_;omega
  got:=by
   show got'.length≤_
   rcases k.got with ⟨_,rfl⟩ | ⟨_,_,_,_,rfl⟩
   ·omega
   ·simp;omega }
theorem WdI.next' (h:WdI n w):WdI (n+1) w:={ h with
 few:=by have:=h.few;omega
 next:=by have:=h.next;omega
 gseq:=fun s hs=>by have:=h.gseq s hs;omega
 now:=⟨h.now.1,by have:=h.now;omega⟩
 cseq:=fun s hs=>by have:=h.cseq s hs;omega
 knl:=by have:=h.knl;omega
 taken:=by have:=h.taken;omega
 begun:=by have:=h.begun;omega
 dn:=by have:=h.dn;omega
 sent:=by have:=h.sent;omega
 got:=by have:=h.got;omega }
theorem CarryR.ok (h:WdI n w) (hn:n≤43) {src to:Int} {T:Tm'} (hs:0≤src∧(to=99→src≤9)) {w':Wd} {code:Int} (k:CarryR w src to T w' code):WdI (n+1) w'∧w'.g.name=w.g.name∧w'.g.w=w.g.w∧w'.now=w.now∧w'.draw=w.draw∧w'.ad=w.ad∧w'.taken=w.taken∧w'.codes=w.codes:=by
 cases k with
 | gate hto k =>
  have hne:=h.next
  have hs9:=hs.2 hto
  obtain⟨_,_,_,q4,q5⟩:=k.gh.ok h.ok h.gate ⟨hs.1,by omega⟩ (by omega) h.gseq (by omega)
  exact⟨h.gateR hn ⟨hs.1,hs9⟩ k,q4,q5,rfl,rfl,rfl,rfl,rfl⟩
 | client _ _ k ok=>exact⟨h.clientR hn k ok,rfl,rfl,rfl,rfl,rfl,rfl,rfl⟩
 | none=>exact⟨h.next',rfl,rfl,rfl,rfl,rfl,rfl,rfl⟩
end
theorem encM_take (l:List Mail_) (k:Nat):List.take k (List.drop 0 (qbs l))=qbs (l.take k):=by simp[qbs,List.map_take]
theorem encM_drop (l:List Mail_) (k j:Nat) (h:l.length≤k+j):List.take j (List.drop k (qbs l))=qbs (l.drop k):=by
 rw[List.take_of_length_le (by simp[qbs];omega)]
 simp[qbs,List.map_drop]
theorem encM_app (l m:List Mail_):qbs l++qbs m=qbs (l++m):=(List.map_append ..).symm
inductive NetR (w:Wd):Wd→Int→Prop where
 | none:NetR w w 9
 | full:NetR w w 0
 | twice {k:Nat} (hk:k < w.net.length) (few:w.net.length < 12):NetR w { w with net:=w.net++[w.net[k]] } 0
 | lose {k:Nat} (hk:k < w.net.length):NetR w { w with net:=w.net.take k++w.net.drop (k+1) } 0
 | carry {k:Nat} (hk:k < w.net.length) {T:Tm'} {w':Wd} {code:Int} (d:Den w.a w.net[k].term T) (h:CarryR { w with net:=w.net.take k++w.net.drop (k+1) } w.net[k].src w.net[k].to T w' code):NetR w w' code
section
variable {n:Nat} {w:Wd}
theorem WdI.less (h:WdI n w) (k:Nat):WdI n { w with net:=w.net.take k++w.net.drop (k+1) }:={ h with
 netl:=by
  have:=h.netl
  show(w.net.take k++w.net.drop (k+1)).length≤12
  simp
  omega
 net:=fun m hm=>by
  rcases List.mem_append.1 hm with hm | hm
  ·exact h.net m (List.mem_of_mem_take hm)
  ·exact h.net m (List.mem_of_mem_drop hm) }
theorem f_net (h:WdI n w) (hn:n≤43) (hd:1000≤w.draw∧w.draw≤900000) (kind at_ num:Int) (h0:0≤num) (txt:Value) :
  ∃w' code,fin trA 1766 (w.vs++[I kind,I at_,I num,txt]) w.rs=some (0,[I w'.g.next,I w'.g.drops,I code],w'.o11)∧NetR w w' code:=by
 have hl:=h.netl
 obtain⟨k,hk⟩:∃k:Nat,num.tmod 12=k:=⟨(num.tmod 12).toNat,by have:=Int.tmod_nonneg (a:=num) 12 h0;omega⟩
 have hk12:k < 12:=by
  have:=Int.tmod_lt_of_pos num (show(0:Int) < 12 by omega)
  omega
 by_cases hlt:k < w.net.length
 ·have g0:¬(w.net.length:Int)≤(k:Int):=by omega
  have g1:(0:Int)≤(k:Int):=by omega
  have g2:(k:Int) < (w.net.length:Int):=by omega
  by_cases h4:kind=4
  ·by_cases h12:w.net.length < 12
   ·have g3:(w.net.length:Int) < 12:=by omega
    have q2:qbs w.net++[[Value.int .i64 w.net[k].src,Value.int .i64 w.net[k].to,Value.int .i64 w.net[k].term]]=qbs (w.net++[w.net[k]]):=by simp[qbs,Mail_.v]
    have g4:((w.net++[w.net[k]]).length:Int)≤100000000:=by simp;omega
    refine⟨{ w with net:=w.net++[w.net[k]] },0,qaa trA ?_,.twice hlt h12⟩
    show o147.go _ _ _=_
    simp only[Wd.vs,Wd.rs,Wd.o11,o147,TT,Nat.reduceEqDiff,↓reduceIte,encM_len,hk,g0,g1,g2,h4,g3,Int.toNat_natCast,encM_get w.net k hlt,Mail_.v,q2,g4]
   ·have g3:¬(w.net.length:Int) < 12:=by omega
    refine⟨w,0,qaa trA ?_,.full⟩
    show o147.go _ _ _=_
    simp only[Wd.vs,Wd.rs,Wd.o11,o147,TT,Nat.reduceEqDiff,↓reduceIte,encM_len,hk,g0,g1,g2,h4,g3]
  ·have w1:wr ((k:Int) - 0)=(k:Int):=by rw[qaj (by omega) (by omega)];omega
   have w2:wr ((k:Int)+1)=((k+1:Nat):Int):=by rw[qaj (by omega) (by omega)];omega
   have w3:wr ((w.net.length:Int) - ((k+1:Nat):Int))=((w.net.length - (k+1):Nat):Int):=by rw[qaj (by omega) (by omega)];omega
   have g5:(k:Int)≤(w.net.length:Int):=by omega
   have g6:(0:Int)≤((k+1:Nat):Int):=by omega
   have g7:((k+1:Nat):Int)≤(w.net.length:Int):=by omega
   have g8:(0:Int)≤(w.net.length:Int):=by omega
   have q1:=encM_take w.net k
   have q2:=encM_drop w.net (k+1) (w.net.length - (k+1)) (by omega)
   have g9:((w.net.take k).length:Int)≤100000000:=by simp;omega
   have g10:((w.net.take k++w.net.drop (k+1)).length:Int)≤100000000:=by simp;omega
   by_cases h3:kind=3
   ·refine⟨{ w with net:=w.net.take k++w.net.drop (k+1) },0,qaa trA ?_,.lose hlt⟩
    show o147.go _ _ _=_
    simp only[Wd.vs,Wd.rs,Wd.o11,o147,TT,Nat.reduceEqDiff,↓reduceIte,encM_len,hk,g0,g1,g2,h4,h3,w1,w2,w3,g5,g6,g7,g8,Int.le_refl,Int.toNat_natCast,Int.toNat_zero,q1,q2,encM_app,g9,g10,Int.reduceEq]
   ·obtain⟨⟨T,dT⟩,p1,p2⟩:=h.net _ (List.getElem_mem hlt)
    obtain⟨w',code,e1,hR⟩:=f_carry (h.less k) hn hd (t:=w.net[k].term) (T:=T) (src:=w.net[k].src) (to:=w.net[k].to) dT ⟨p1,p2⟩
    simp only[Wd.vs,Wd.rs,List.cons_append,List.nil_append] at e1
    refine⟨w',code,qaa trA ?_,.carry hlt dT hR⟩
    show o147.go _ _ _=_
    simp only[Wd.o11] at e1 ⊢
    simp only[Wd.vs,Wd.rs,o147,TT,Nat.reduceEqDiff,↓reduceIte,encM_len,hk,g0,g1,g2,h4,h3,w1,w2,w3,g5,g6,g7,g8,Int.le_refl,Int.toNat_natCast,Int.toNat_zero,q1,q2,encM_app,g9,g10,encM_get w.net k hlt,Mail_.v,e1]
 ·have g0:(w.net.length:Int)≤(k:Int):=by omega
  refine⟨w,9,qaa trA ?_,.none⟩
  show o147.go _ _ _=_
  simp only[Wd.vs,Wd.rs,Wd.o11,o147,TT,Nat.reduceEqDiff,↓reduceIte,encM_len,hk,g0]
theorem NetR.ok (h:WdI n w) (hn:n≤43) {w':Wd} {code:Int} (k:NetR w w' code):WdI (n+1) w'∧w'.g.name=w.g.name∧w'.g.w=w.g.w∧w'.now=w.now∧w'.draw=w.draw∧w'.ad=w.ad∧w'.taken=w.taken∧w'.codes=w.codes:=by
 cases k with
 | none=>exact⟨h.next',rfl,rfl,rfl,rfl,rfl,rfl,rfl⟩
 | full=>exact⟨h.next',rfl,rfl,rfl,rfl,rfl,rfl,rfl⟩
 | @twice k hk few =>
  refine⟨{ h.next' with netl:=?_,net:=fun m hm=>?_ },rfl,rfl,rfl,rfl,rfl,rfl,rfl⟩
  ·show(w.net++[_]).length≤12
   simp;omega
  ·rcases List.mem_append.1 hm with hm | hm
   ·exact h.net m hm
   ·have:m=_:=List.mem_singleton.1 hm
    rw[this];exact h.net _ (List.getElem_mem hk)
 | lose hk=>exact⟨(h.less _).next',rfl,rfl,rfl,rfl,rfl,rfl,rfl⟩
 | carry hk d hR =>
  obtain⟨_,p1,p2⟩:=h.net _ (List.getElem_mem hk)
  exact hR.ok (h.less _) hn ⟨p1,p2⟩
end
def Wd.say (w:Wd) (m:Mail_):Wd:=if m.term < 0 then w else { w with net:=qby w.net m,known:=w.known++[m.term] }
theorem f_sayW (w:Wd) (m:Mail_) (h1:w.net.length≤1000) (h2:w.known.length≤10000):fin trA 1754 (w.vs++[I m.src,I m.to,I m.term]) w.rs=some (0,[],[qbs (w.say m).net,qak (w.say m).known]):=by
 unfold Wd.say
 by_cases h:m.term < 0
 ·rw[if_pos h]
  exact qhc _ _ _ _ _ _ _ _ h _ _ _ _ _ _ _ _ _ _ _ _ _ _ _
 ·rw[if_neg h]
  exact qfs h1 h2 _ _ _ _ _ _ _ _ (by omega) _ _ _ _ _ _ _ _ _ _ _ _ _
structure NK (a:Ar) (m:Nat) (net:List Mail_) (known:List Int):Prop where
 netl:net.length≤12
 net:∀m∈net,(∃T,Den a m.term T)∧0≤m.src∧(m.to=99→m.src≤9)
 knl:known.length≤m
 kn:∀k∈known,∃T,Den a k T
theorem NK.mono {a a':Ar} {m:Nat} {net:List Mail_} {known:List Int} (h:NK a m net known) (x:a <+: a'):NK a' m net known :=
 ⟨h.netl,fun m hm=>by obtain⟨⟨T,d⟩,p⟩:=h.net m hm;exact⟨⟨T,d.mono x⟩,p⟩,h.knl,fun k hk=>by obtain⟨T,d⟩:=h.kn k hk;exact⟨T,d.mono x⟩⟩
theorem NK.more {a:Ar} {m m':Nat} {net:List Mail_} {known:List Int} (h:NK a m net known) (hm:m≤m'):NK a m' net known:=⟨h.netl,h.net,by have:=h.knl;omega,h.kn⟩
theorem NK.add {a:Ar} {m:Nat} {net:List Mail_} {known:List Int} (h:NK a m net known) {x:Mail_} (hx:∃T,Den a x.term T) (h0:0≤x.src) (h9:x.to=99→x.src≤9):NK a (m+1) (qby net x) (known++[x.term]) where
 netl:=qfi _ _ h.netl
 net:=fun y hy=>by
  unfold qby at hy
  split at hy
  ·rcases List.mem_append.1 hy with hy | hy
   ·exact h.net y hy
   ·have:y=_:=List.mem_singleton.1 hy
    rw[this];exact⟨hx,h0,h9⟩
  ·exact h.net y hy
 knl:=by have:=h.knl;simp;omega
 kn:=fun k hk=>by
  rcases List.mem_append.1 hk with hk | hk
  ·exact h.kn k hk
  ·have:k=_:=List.mem_singleton.1 hk
   rw[this];exact hx
theorem NK.keys {a:Ar} {m:Nat} {net:List Mail_} {known:List Int} (h:NK a m net known) {l:List Int} (hl:∀k∈l,∃T,Den a k T):NK a (m+l.length) net (known++l) where
 netl:=h.netl
 net:=h.net
 knl:=by have:=h.knl;simp;omega
 kn:=fun k hk=>by
  rcases List.mem_append.1 hk with hk | hk
  ·exact h.kn k hk
  ·exact hl k hk
section
variable {n:Nat} {w:Wd}
theorem WdI.nk (h:WdI n w):NK w.a (10+5*n) w.net w.known:=⟨h.netl,h.net,h.knl,h.kn⟩
theorem NK.say {m:Nat} (h:NK w.a m w.net w.known) {x:Mail_} (hx:x.term < 0∨∃T,Den w.a x.term T) (h0:0≤x.src) (h9:x.to=99→x.src≤9):NK w.a (m+1) (w.say x).net (w.say x).known:=by
 unfold Wd.say
 split
 ·exact h.more (by omega)
 ·rename_i hn
  exact h.add (hx.resolve_left hn) h0 h9
end
inductive TickS (w:Wd) (i:Nat):Wd→Prop where
 | mk (hi:i < w.cs.length) (hj:i < w.ad.length) {c':Cl} {t:Int} (h:CTick w.cs[i].1 c' t):TickS w i (({ w with cs:=w.cs.modify i fun _=>(c',w.cs[i].2) }:Wd).say ⟨w.ad[i],99,t⟩)
inductive StR (w:Wd):Wd→Prop where
 | no:StR w w
 | start {i:Nat} (hi:i < w.cs.length) (hj:i < w.ad.length) {a':Ar} {h t:Int} (st:w.cs[i].1.state=0∨w.cs[i].1.state=4) (x:Ext w.a a' 18) (d1:Den a' h (qbT w.cs[i].1.mode w.cs[i].1.name w.draw)) (d2:Den a' t (qav 71 [qbT w.cs[i].1.mode w.cs[i].1.name w.draw,.atom 0])) :
   StR w (({ w with a:=a',cs:=w.cs.modify i fun _=>(⟨w.cs[i].1.name,w.cs[i].1.gate,w.cs[i].1.mode,1,w.draw,false,h,0,0,t,0,Ch.zero,w.now+1,1,0⟩,{ w.cs[i].2 with hello:=qbT w.cs[i].1.mode w.cs[i].1.name w.draw,last:=qav 71 [qbT w.cs[i].1.mode w.cs[i].1.name w.draw,.atom 0] }) }:Wd).say ⟨w.ad[i],99,t⟩)
 | net {w':Wd} {code:Int} (h:NetR w w' code):StR w w'
 | tick {d:Int} (hd:1≤d∧d≤4) {w1 w2:Wd} (h1:TickS { w with now:=w.now+d } 0 w1) (h2:TickS w1 1 w2):StR w { w2 with g:={ w2.g with l:=idleL (w.now+d) w2.g.l,p:=qeg (w.now+d) w2.g.l w2.g.p } }
 | send {i:Nat} {a':Ar} {net':List Mail_} {known':List Int} {sent':List Nt} {cs':List (Cl × ClG)} (h:SendR w i a' net' known' sent' cs'):StR w { w with a:=a',net:=net',known:=known',sent:=sent',cs:=cs' }
 | turn {i:Nat} {g':Gt} {cs':List (Cl × ClG)} (h:TurnR w i g' cs'):StR w { w with g:=g',cs:=cs' }
 | roam {i:Nat} (hi:i < w.ad.length) {x:Int} (hx:0≤x∧x≤9):StR w { w with ad:=w.ad.modify i fun _=>x }
 | forge {a':Ar} {k src to:Int} {T:Tm'} (x:Ext w.a a' 65) (d:Den a' k T) (hs:0≤src∧src≤9) (ht:to=99∨to∈w.ad):StR w (({ w with a:=a' }:Wd).say ⟨src,to,k⟩)
 | take {i:Nat} {a':Ar} {known' taken':List Int} (h:TakeR w i a' known' taken'):StR w { w with a:=a',known:=known',taken:=taken' }
def Wd.o14 (w:Wd):List Rw:=[qag w.a,qax w.g.l,qaI w.g.p,qaR w.g.w,qbb w.g.o,qbs w.net,qak w.known,qak w.taken,qas w.begun,qas w.dn,qas w.sent,qas w.got,qbE w.cs,qak w.ad]
def Done (w:Wd) (kind at_ num:Int) (txt:Value):Prop:=∃w' code,fin trA 1071 (w.vs++[I kind,I at_,I num,txt]) w.rs=some (0,w'.vs++[I code],w'.o14)∧StR { w with draw:=w.draw+10 } w'∧w'.draw=w.draw+10
section
variable {n:Nat} {w:Wd} (h:WdI n w) (hn:n≤43) (hd:10000≤w.draw∧w.draw≤800000)
include h hn hd
theorem i_of (at_:Int) (h0:0≤at_):∃i:Nat,at_.tmod 2=i∧i < 2∧(i < w.cs.length)∧i < w.ad.length:=by
 have h1:=Int.tmod_nonneg (a:=at_) 2 h0
 have h2:=Int.tmod_lt_of_pos at_ (show(0:Int) < 2 by omega)
 refine⟨(at_.tmod 2).toNat,by omega,by omega,?_⟩
 exact h.i2 (by omega)
theorem WdI.up (x:Int):WdI n { w with draw:=x }:={ h with }
theorem do_start (at_ num:Int) (h0:0≤at_) (txt:Value):Done w 1 at_ num txt:=by
 obtain⟨i,hi,hi2,hc,hj⟩:=i_of h hn hd at_ h0
 have hcl:=h.cl _ (List.getElem_mem hc)
 have g0:(0:Int)≤(i:Int):=by omega
 have g1:(i:Int) < (w.cs.length:Int):=by omega
 have g2:(i:Int) < (w.ad.length:Int):=by omega
 have wd:wr (w.draw+10)=w.draw+10:=qaj (by omega) (by omega)
 have:=h.few;have:=h.now;have:=h.netl;have:=h.knl
 by_cases hst:w.cs[i].1.state=0∨w.cs[i].1.state=4
 ·obtain⟨a',h',t,e1,x,d1,d2⟩:=f_start h.ok hst (by rcases hcl.mode with m | m<;>omega) ⟨hcl.name.1,by have:=hcl.name;omega⟩ (draw:=w.draw+10) (by omega) (now:=w.now) (by omega) (by omega)
  have nt:¬t < 0:=by have:=d2.nonneg;omega
  have e2:=f_sayW { w with a:=a',draw:=w.draw+10,cs:=w.cs.modify i fun _=>(⟨w.cs[i].1.name,w.cs[i].1.gate,w.cs[i].1.mode,1,w.draw+10,false,h',0,0,t,0,Ch.zero,w.now+1,1,0⟩,{ w.cs[i].2 with hello:=qbT w.cs[i].1.mode w.cs[i].1.name (w.draw+10),last:=qav 71 [qbT w.cs[i].1.mode w.cs[i].1.name (w.draw+10),.atom 0] }) } ⟨w.ad[i],99,t⟩ (by show w.net.length≤_;omega) (by show w.known.length≤_;omega)
  have hset:=qdH w.cs i ⟨w.cs[i].1.name,w.cs[i].1.gate,w.cs[i].1.mode,1,w.draw+10,false,h',0,0,t,0,Ch.zero,w.now+1,1,0⟩ { w.cs[i].2 with hello:=qbT w.cs[i].1.mode w.cs[i].1.name (w.draw+10),last:=qav 71 [qbT w.cs[i].1.mode w.cs[i].1.name (w.draw+10),.atom 0] }
  have hs:({ w with a:=a',draw:=w.draw+10,cs:=w.cs.modify i fun _=>(⟨w.cs[i].1.name,w.cs[i].1.gate,w.cs[i].1.mode,1,w.draw+10,false,h',0,0,t,0,Ch.zero,w.now+1,1,0⟩,{ w.cs[i].2 with hello:=qbT w.cs[i].1.mode w.cs[i].1.name (w.draw+10),last:=qav 71 [qbT w.cs[i].1.mode w.cs[i].1.name (w.draw+10),.atom 0] }) }:Wd).say ⟨w.ad[i],99,t⟩={ w with a:=a',draw:=w.draw+10,cs:=w.cs.modify i fun _=>(⟨w.cs[i].1.name,w.cs[i].1.gate,w.cs[i].1.mode,1,w.draw+10,false,h',0,0,t,0,Ch.zero,w.now+1,1,0⟩,{ w.cs[i].2 with hello:=qbT w.cs[i].1.mode w.cs[i].1.name (w.draw+10),last:=qav 71 [qbT w.cs[i].1.mode w.cs[i].1.name (w.draw+10),.atom 0] }),net:=qby w.net ⟨w.ad[i],99,t⟩,known:=w.known++[t] }:=by
   unfold Wd.say
   rw[if_neg nt]
  rw[hs] at e2
  refine⟨_,0,qaa trA ?_,.start (w:={ w with draw:=w.draw+10 }) hc hj hst x d1 d2,?_⟩
  ·rw[show(({ ({ w with draw:=w.draw+10 }:Wd) with a:=a',cs:=w.cs.modify i fun _=>(⟨w.cs[i].1.name,w.cs[i].1.gate,w.cs[i].1.mode,1,w.draw+10,false,h',0,0,t,0,Ch.zero,w.now+1,1,0⟩,{ w.cs[i].2 with hello:=qbT w.cs[i].1.mode w.cs[i].1.name (w.draw+10),last:=qav 71 [qbT w.cs[i].1.mode w.cs[i].1.name (w.draw+10),.atom 0] }) }:Wd).say ⟨w.ad[i],99,t⟩)=_ from hs]
   simp only[Cl.v,Wd.vs,Wd.rs,List.cons_append,List.nil_append] at e1 e2 hset
   show o89.go _ _ _=_
   simp only[Wd.vs,Wd.rs,Wd.o14,o89,qaG,TT,Nat.reduceEqDiff,↓reduceIte,hi,encC_len,encI_len,g0,g1,g2,wd,Int.toNat_natCast,qaY w.cs i hc,qam w.ad i hj,Cl.v,e1,hset,e2,nt]
  ·rw[show(({ ({ w with draw:=w.draw+10 }:Wd) with a:=a',cs:=w.cs.modify i fun _=>(⟨w.cs[i].1.name,w.cs[i].1.gate,w.cs[i].1.mode,1,w.draw+10,false,h',0,0,t,0,Ch.zero,w.now+1,1,0⟩,{ w.cs[i].2 with hello:=qbT w.cs[i].1.mode w.cs[i].1.name (w.draw+10),last:=qav 71 [qbT w.cs[i].1.mode w.cs[i].1.name (w.draw+10),.atom 0] }) }:Wd).say ⟨w.ad[i],99,t⟩)=_ from hs]
 ·have e1:=fun d t=>f_start_no (a:=w.a) (c:=w.cs[i].1) (draw:=d) (now:=t) (fun q=>hst (.inl q)) (fun q=>hst (.inr q))
  have nn:(-1:Int) < 0:=by omega
  have hset:=qdH w.cs i w.cs[i].1 w.cs[i].2
  rw[show(w.cs.modify i fun _=>(w.cs[i].1,w.cs[i].2))=w.cs by
   apply List.ext_getElem (qbQ _ _ _)
   intro j h1 h2
   rw[List.getElem_modify]
   split
   ·rename_i hij;subst hij;rfl
   ·rfl] at hset
  have e2:=f_sayW { w with draw:=w.draw+10 } ⟨w.ad[i],99,-1⟩ (by show w.net.length≤_;omega) (by show w.known.length≤_;omega)
  have hs:({ w with draw:=w.draw+10 }:Wd).say ⟨w.ad[i],99,-1⟩={ w with draw:=w.draw+10 }:=by
   unfold Wd.say
   rw[if_pos nn]
  rw[hs] at e2
  refine⟨{ w with draw:=w.draw+10 },1,qaa trA ?_,.no,rfl⟩
  simp only[Cl.v,Wd.vs,Wd.rs,List.cons_append,List.nil_append] at e1 e2 hset
  show o89.go _ _ _=_
  simp only[Wd.vs,Wd.rs,Wd.o14,o89,qaG,TT,Nat.reduceEqDiff,↓reduceIte,hi,encC_len,encI_len,g0,g1,g2,wd,Int.toNat_natCast,qaY w.cs i hc,qam w.ad i hj,Cl.v,e1,hset,e2,nn]
theorem do_net (kind at_ num:Int) (hk:kind=2∨kind=3∨kind=4) (h0:0≤num) (txt:Value):Done w kind at_ num txt:=by
 have wd:wr (w.draw+10)=w.draw+10:=qaj (by omega) (by omega)
 obtain⟨w',code,e1,hR⟩:=f_net (h.up hn hd (w.draw+10)) hn (by show 1000≤w.draw+10∧w.draw+10≤900000;omega) kind at_ num h0 txt
 obtain⟨_,q1,q2,q3,q4,q5,q6,q7⟩:=hR.ok (h.up hn hd (w.draw+10)) hn
 refine⟨w',code,qaa trA ?_,.net hR,q4⟩
 simp only[Wd.vs,Wd.rs,Wd.o11,List.cons_append,List.nil_append] at e1
 show o89.go _ _ _=_
 rcases hk with rfl | rfl | rfl <;>
 simp only[Wd.vs,Wd.rs,Wd.o14,o89,TT,Nat.reduceEqDiff,↓reduceIte,Int.reduceEq,wd,e1,q1,q2,q3,q4,q5,q6]
theorem do_send (at_ num:Int) (h0:0≤at_) (txt:Value):Done w 6 at_ num txt:=by
 obtain⟨i,hi,hi2,hc,hj⟩:=i_of h hn hd at_ h0
 have wd:wr (w.draw+10)=w.draw+10:=qaj (by omega) (by omega)
 have:=h.few;have:=h.now;have:=h.netl;have:=h.knl;have:=h.dn;have:=h.sent
 have h':=h.up hn hd (w.draw+10)
 obtain⟨a',net',known',sent',cs',code,e1,hR⟩:=f_send18 (w:={ w with draw:=w.draw+10 }) h'.ok h'.gate i hc hj (h'.cl _ (List.getElem_mem hc)) (by show w.a.length+65≤3000;omega) num (by show w.dn.length≤_;omega) (by show w.net.length≤_;omega) (by show w.known.length≤_;omega) (by show w.sent.length≤_;omega)
 refine⟨_,code,qaa trA ?_,.send hR,rfl⟩
 simp only[Wd.vs,Wd.rs,List.cons_append,List.nil_append] at e1
 show o89.go _ _ _=_
 simp only[Wd.vs,Wd.rs,Wd.o14,o89,TT,Nat.reduceEqDiff,↓reduceIte,Int.reduceEq,wd,hi,e1]
theorem do_turn (at_ num:Int) (h0:0≤at_) (txt:Value):Done w 7 at_ num txt:=by
 obtain⟨i,hi,hi2,hc,hj⟩:=i_of h hn hd at_ h0
 have wd:wr (w.draw+10)=w.draw+10:=qaj (by omega) (by omega)
 have h':=h.up hn hd (w.draw+10)
 obtain⟨g',cs',code,e1,hR⟩:=f_turn18 (w:={ w with draw:=w.draw+10 }) h'.gate i hc num (fun q=>((h.cl _ (List.getElem_mem hc)).ch q).ep)
 refine⟨_,code,qaa trA ?_,.turn hR,rfl⟩
 simp only[Wd.vs,Wd.rs,List.cons_append,List.nil_append] at e1
 show o89.go _ _ _=_
 simp only[Wd.vs,Wd.rs,Wd.o14,o89,TT,Nat.reduceEqDiff,↓reduceIte,Int.reduceEq,wd,hi,e1]
theorem do_take (at_ num:Int) (h0:0≤at_) (txt:Value):Done w 10 at_ num txt:=by
 obtain⟨i,hi,hi2,hc,hj⟩:=i_of h hn hd at_ h0
 have wd:wr (w.draw+10)=w.draw+10:=qaj (by omega) (by omega)
 have:=h.few;have:=h.knl;have:=h.taken
 have h':=h.up hn hd (w.draw+10)
 obtain⟨a',known',taken',e1,hR⟩:=f_take18 (w:={ w with draw:=w.draw+10 }) h'.ok (by show w.a.length+3≤3000;omega) i hc num (h.cl _ (List.getElem_mem hc)).name (by show w.known.length≤_;omega) (by show w.taken.length≤_;omega)
 refine⟨_,0,qaa trA ?_,.take hR,rfl⟩
 simp only[Wd.vs,Wd.rs,List.cons_append,List.nil_append] at e1
 show o89.go _ _ _=_
 simp only[Wd.vs,Wd.rs,Wd.o14,o89,TT,Nat.reduceEqDiff,↓reduceIte,Int.reduceEq,wd,hi,e1]
theorem do_roam (at_ num:Int) (h0:0≤at_) (h1:0≤num) (txt:Value):Done w 8 at_ num txt:=by
 obtain⟨i,hi,hi2,hc,hj⟩:=i_of h hn hd at_ h0
 have g0:(0:Int)≤(i:Int):=by omega
 have g2:(i:Int) < (w.ad.length:Int):=by omega
 have wd:wr (w.draw+10)=w.draw+10:=qaj (by omega) (by omega)
 have r1:=Int.tmod_nonneg (a:=num) 3 h1
 have r2:=Int.tmod_lt_of_pos num (show(0:Int) < 3 by omega)
 have w1:wr (2*num.tmod 3)=2*num.tmod 3:=qaj (by omega) (by omega)
 have w2:wr (3+2*num.tmod 3)=3+2*num.tmod 3:=qaj (by omega) (by omega)
 have w3:wr (3+2*num.tmod 3+(i:Int))=3+2*num.tmod 3+(i:Int):=qaj (by omega) (by omega)
 have hset:qbx (qak w.ad) i 0 [.int .i64 (3+2*num.tmod 3+(i:Int))]=qak (w.ad.modify i fun _=>3+2*num.tmod 3+(i:Int)):=by
  unfold qbx qak
  exact qbI (fun x:Int=>[I x]) _ _ (fun _=>rfl) w.ad i
 refine⟨_,0,qaa trA ?_,.roam (w:={ w with draw:=w.draw+10 }) hj (x:=3+2*num.tmod 3+(i:Int)) (by omega),rfl⟩
 show o89.go _ _ _=_
 simp only[Wd.vs,Wd.rs,Wd.o14,o89,TT,Nat.reduceEqDiff,↓reduceIte,Int.reduceEq,wd,hi,encI_len,g0,g2,w1,w2,w3,Int.toNat_natCast,hset]
end
theorem say_vs (w:Wd) (m:Mail_):(w.say m).vs=w.vs:=by unfold Wd.say;split<;>rfl
theorem say_rs (w:Wd) (m:Mail_):(w.say m).rs=[qag w.a,qbE w.cs,qak w.ad,qax w.g.l,qaI w.g.p,qaR w.g.w,qbb w.g.o,qbs (w.say m).net,qak (w.say m).known,qak w.taken,qas w.begun,qas w.dn,qas w.sent,qas w.got,qak w.codes]:=by unfold Wd.say;split<;>rfl
theorem qcK (w:Wd) (m:Mail_):(w.say m).a=w.a∧(w.say m).g=w.g∧(w.say m).now=w.now∧(w.say m).draw=w.draw∧(w.say m).cs=w.cs∧(w.say m).ad=w.ad∧(w.say m).taken=w.taken∧(w.say m).begun=w.begun∧(w.say m).dn=w.dn∧(w.say m).sent=w.sent∧(w.say m).got=w.got∧(w.say m).codes=w.codes:=by unfold Wd.say;split<;>exact⟨rfl,rfl,rfl,rfl,rfl,rfl,rfl,rfl,rfl,rfl,rfl,rfl⟩
theorem f_tick_end (w:Wd) (h2:w.cs.length=2) (x1 x2 x3:Int) (txt:Value) (x4 x5 x6:Int):fin trA 1070 (w.vs++[I x1,I x2,I x3,txt,I x4,I x5,I 2,I x6]) w.rs=some (0,[],[qbs w.net,qak w.known,qbE w.cs]):=by
 refine qaa trA ?_
 show o89_1.go _ _ _=_
 have g:¬(2:Int) < 2:=by omega
 simp only[Wd.vs,Wd.rs,o89_1,TT,Nat.reduceEqDiff,↓reduceIte,g]
theorem qgw (w:Wd) (i:Nat) (hi2:i < 2) (hi:i < w.cs.length) (hj:i < w.ad.length) (b1:w.net.length≤1000) (b2:w.known.length≤10000) (x1 x2 x3:Int) (txt:Value) (x4 x5 x6:Int) :
  ∃w1,TickS w i w1∧∀R,fin trA 1070 (w1.vs++[I x1,I x2,I x3,txt,I x4,I x5,I ((i+1:Nat):Int),I x6]) w1.rs=some (0,[],R)→R.length=3→fin trA 1070 (w.vs++[I x1,I x2,I x3,txt,I x4,I x5,I i,I x6]) w.rs=some (0,[],R):=by
 obtain⟨c',t,e1,hc⟩:=f_tick w.cs[i].1 w.now
 refine⟨_,.mk hi hj hc,fun R e hR=>?_⟩
 obtain⟨a,b,c,rfl⟩:∃a b c,R=[a,b,c]:=by
  match R,hR with
  | [a,b,c],_=>exact⟨a,b,c,rfl⟩
 have e2:=f_sayW { w with cs:=w.cs.modify i fun _=>(c',w.cs[i].2) } ⟨w.ad[i],99,t⟩ b1 b2
 have hset:=qdH w.cs i c' w.cs[i].2
 rw[say_vs,say_rs] at e
 have g0:(0:Int)≤(i:Int):=by omega
 have g1:(i:Int) < (w.cs.length:Int):=by omega
 have g2:(i:Int) < (w.ad.length:Int):=by omega
 have g3:(i:Int) < 2:=by omega
 have wi:=qaB (i:=i) (n:=100) (by omega) (by omega)
 simp only[Cl.v,Wd.vs,Wd.rs,List.cons_append,List.nil_append] at e1 e2 e hset
 refine qaa trA ?_
 show o89_1.go _ _ _=_
 simp only[Wd.vs,Wd.rs,o89_1,qaG,TT,Nat.reduceEqDiff,↓reduceIte,encC_len,encI_len,g0,g1,g2,g3,wi,Int.toNat_natCast,qaY w.cs i hi,qam w.ad i hj,Cl.v,e1,hset,e2,e]
theorem TickS.same {w w1:Wd} {i:Nat} (h:TickS w i w1):w1.a=w.a∧w1.g=w.g∧w1.now=w.now∧w1.draw=w.draw∧w1.cs.length=w.cs.length∧w1.ad=w.ad∧w1.taken=w.taken∧w1.begun=w.begun∧w1.dn=w.dn∧w1.sent=w.sent∧w1.got=w.got∧w1.codes=w.codes:=by
 cases h with
 | mk hi hj h =>
  obtain⟨q1,q2,q3,q4,q5,q6,q7,q8,q9,q10,q11,q12⟩:=qcK { w with cs:=w.cs.modify i fun _=>(_,w.cs[i].2) } ⟨w.ad[i],99,_⟩
  exact⟨q1,q2,q3,q4,by rw[q5];exact qbQ _ _ _,q6,q7,q8,q9,q10,q11,q12⟩
theorem sayNK {w:Wd} {m:Nat} (h:NK w.a m w.net w.known) {x:Mail_} (hx:x.term < 0∨∃T,Den w.a x.term T) (h0:0≤x.src) (h9:x.to=99→x.src≤9):NK (w.say x).a (m+1) (w.say x).net (w.say x).known:=by
 rw[(qcK w x).1]
 exact h.say hx h0 h9
theorem TickS.nk {w w1:Wd} {i m:Nat} (h:TickS w i w1) (k:NK w.a m w.net w.known) (hcl:∀c∈w.cs,ClD w.a c.1 c.2) (had:∀x∈w.ad,0≤x∧x≤9):NK w1.a (m+1) w1.net w1.known∧(∀c∈w1.cs,ClD w1.a c.1 c.2)∧∀q:Nat,(∀c∈w.cs,c.1.ch.seq≤q)→∀c∈w1.cs,c.1.ch.seq≤q:=by
 cases h with
 | @mk hi hj c' t h =>
  have hc:=hcl _ (List.getElem_mem hi)
  obtain⟨k1,k2⟩:=h.ok hc
  have hd:=had _ (List.getElem_mem hj)
  have hs:=qcK { w with cs:=w.cs.modify i fun _=>(c',w.cs[i].2) } ⟨w.ad[i],99,t⟩
  refine⟨sayNK (w:={ w with cs:=w.cs.modify i fun _=>(c',w.cs[i].2) }) k ?_ hd.1 (fun _=>hd.2),?_,fun q hq=>?_⟩
  ·rcases k2 with rfl | d
   ·exact .inl (by show(-1:Int) < 0;omega)
   ·exact .inr ⟨_,d⟩
  ·rw[hs.1,hs.2.2.2.2.1]
   exact qaW (P:=fun c:Cl × ClG=>ClD w.a c.1 c.2) hcl (fun _=>k1)
  ·rw[hs.2.2.2.2.1]
   refine qaW (P:=fun c:Cl × ClG=>c.1.ch.seq≤q) hq (fun _=>?_)
   have:=hq _ (List.getElem_mem hi)
   have e:c'.ch=w.cs[i].1.ch:=by cases h<;>rfl
   show c'.ch.seq≤q
   rw[e];exact this
section
variable {n:Nat} {w:Wd} (h:WdI n w) (hn:n≤43)
include h hn
theorem do_tick (hd:10000≤w.draw∧w.draw≤800000) (at_ num:Int) (h0:0≤at_) (h1:0≤num) (txt:Value):Done w 5 at_ num txt:=by
 obtain⟨i,hi,hi2,hc,hj⟩:=i_of h hn hd at_ h0
 have:=h.netl;have:=h.knl;have:=h.now;have h2:=h.two;have h3:=h.adl
 have r1:=Int.tmod_nonneg (a:=num) 4 h1
 have r2:=Int.tmod_lt_of_pos num (show(0:Int) < 4 by omega)
 have wd:wr (w.draw+10)=w.draw+10:=qaj (by omega) (by omega)
 have w1:wr (w.now+num.tmod 4)=w.now+num.tmod 4:=qaj (by omega) (by omega)
 have w2:wr (w.now+num.tmod 4+1)=w.now+(num.tmod 4+1):=by rw[qaj (by omega) (by omega)];omega
 obtain⟨u1,t1,f1⟩:=qgw { w with draw:=w.draw+10,now:=w.now+(num.tmod 4+1) } 0 (by omega) (by show 0 < w.cs.length;omega) (by show 0 < w.ad.length;omega) (by show w.net.length≤_;omega) (by show w.known.length≤_;omega) 5 at_ num txt 0 i 5
 have s1:=t1.same
 have k1:=(t1.nk (m:=10+5*n) h.nk h.cl h.ad).1
 have kn1:=k1.netl;have kk1:=k1.knl
 obtain⟨u2,t2,f2⟩:=qgw u1 1 (by omega) (by rw[s1.2.2.2.2.1];show 1 < w.cs.length;omega) (by rw[s1.2.2.2.2.2.1];show 1 < w.ad.length;omega) (by omega) (by omega) 5 at_ num txt 0 i 5
 have s2:=t2.same
 have l2:u2.cs.length=2:=by rw[s2.2.2.2.2.1,s1.2.2.2.2.1];exact h2
 have e3:=f_tick_end u2 l2 5 at_ num txt 0 i 5
 have e1:=f1 _ (f2 _ e3 rfl) rfl
 rw[show((0:Nat):Int)=0 from rfl] at e1
 have e4:=f_idle h.gate (now:=w.now+(num.tmod 4+1)) (by omega)
 have hg:u2.g=w.g:=by rw[s2.2.1,s1.2.1]
 refine⟨{ u2 with g:={ u2.g with l:=idleL (w.now+(num.tmod 4+1)) u2.g.l,p:=qeg (w.now+(num.tmod 4+1)) u2.g.l u2.g.p } },0,qaa trA ?_,.tick (w:={ w with draw:=w.draw+10 }) (d:=num.tmod 4+1) (by omega) t1 t2,?_⟩
 ·have q1:u2.a=w.a:=by rw[s2.1,s1.1]
  have q3:u2.now=w.now+(num.tmod 4+1):=by rw[s2.2.2.1,s1.2.2.1]
  have q4:u2.draw=w.draw+10:=by rw[s2.2.2.2.1,s1.2.2.2.1]
  have q6:u2.ad=w.ad:=by rw[s2.2.2.2.2.2.1,s1.2.2.2.2.2.1]
  have q7:u2.taken=w.taken:=by rw[s2.2.2.2.2.2.2.1,s1.2.2.2.2.2.2.1]
  have q8:u2.begun=w.begun:=by rw[s2.2.2.2.2.2.2.2.1,s1.2.2.2.2.2.2.2.1]
  have q9:u2.dn=w.dn:=by rw[s2.2.2.2.2.2.2.2.2.1,s1.2.2.2.2.2.2.2.2.1]
  have q10:u2.sent=w.sent:=by rw[s2.2.2.2.2.2.2.2.2.2.1,s1.2.2.2.2.2.2.2.2.2.1]
  have q11:u2.got=w.got:=by rw[s2.2.2.2.2.2.2.2.2.2.2.1,s1.2.2.2.2.2.2.2.2.2.2.1]
  simp only[Wd.vs,Wd.rs,List.cons_append,List.nil_append] at e1
  show o89.go _ _ _=_
  simp only[Wd.vs,Wd.rs,Wd.o14,o89,TT,Nat.reduceEqDiff,↓reduceIte,Int.reduceEq,wd,w1,w2,hi,e1,e4,hg,q1,q3,q4,q6,q7,q8,q9,q10,q11]
 ·show u2.draw=_
  rw[s2.2.2.2.1,s1.2.2.2.1]
theorem WdI.sayR {a':Ar} {cs':List (Cl × ClG)} {x:Mail_} (hx:x.term < 0∨∃T,Den a' x.term T) (e:Ext w.a a' 65) (h2:cs'.length=2) (hcl:∀c∈cs',ClD a' c.1 c.2) (hq:∀c∈cs',c.1.ch.seq≤n+1) (h0:0≤x.src) (h9:x.to=99→x.src≤9):WdI (n+1) (({ w with a:=a',cs:=cs' }:Wd).say x):=by
 obtain⟨q1,q2,q3,q4,q5,q6,q7,q8,q9,q10,q11,q12⟩:=qcK { w with a:=a',cs:=cs' } x
 have k:=sayNK (w:={ w with a:=a',cs:=cs' }) (x:=x) (h.nk.mono e.pre) hx h0 h9
 have:=e.len;have:=h.few;have:=h.next;have:=h.now;have:=h.taken;have:=h.begun;have:=h.dn;have:=h.sent;have:=h.got;have:=k.knl
 exact {
  ok:=by rw[q1];exact e.ok
  few:=by rw[q1];show a'.length≤_;omega
  gate:=by rw[q1,q2];exact h.gate.mono e.pre
  gname:=by rw[q2];exact h.gname
  next:=by rw[q2];show w.g.next≤_;omega
  gseq:=by rw[q2];exact fun s hs=>by have:=h.gseq s hs;omega
  gaddr:=by rw[q2];exact h.gaddr
  now:=by rw[q3];exact⟨h.now.1,by show w.now≤_;omega⟩
  two:=by rw[q5];exact h2
  cl:=by rw[q1,q5];exact hcl
  cseq:=by rw[q5];exact hq
  adl:=by rw[q6];exact h.adl
  ad:=by rw[q6];exact h.ad
  netl:=k.netl
  net:=k.net
  knl:=by omega
  kn:=k.kn
  taken:=by rw[q7];show w.taken.length≤_;omega
  begun:=by rw[q8];show w.begun.length≤_;omega
  dn:=by rw[q9];show w.dn.length≤_;omega
  sent:=by rw[q10];show w.sent.length≤_;omega
  got:=by rw[q11];show w.got.length≤_;omega }
theorem StR.ok (hd:10000≤w.draw∧w.draw≤800010) {w':Wd} (k:StR w w'):WdI (n+1) w'∧w'.g.w=w.g.w:=by
 cases k with
 | no=>exact⟨h.next',rfl⟩
 | @start i hi hj a' h' t st x d1 d2 =>
  have hcl:=h.cl _ (List.getElem_mem hi)
  have had:=h.ad _ (List.getElem_mem hj)
  refine⟨h.sayR hn (.inr ⟨_,d2⟩) (x.le (by omega)) (by rw[qbQ];exact h.two) (qaW (P:=fun c:Cl × ClG=>ClD a' c.1 c.2) (fun c hc=>(h.cl c hc).mono x.pre) fun _=>hcl.start (by omega) d1 d2) (qaW (P:=fun c:Cl × ClG=>c.1.ch.seq≤n+1) (fun c hc=>by have:=h.cseq c hc;omega) fun _=>Nat.zero_le _) had.1 (fun _=>had.2),?_⟩
  rw[(qcK _ _).2.1]
 | net k=>obtain⟨q1,_,q2,_⟩:=k.ok h hn;exact⟨q1,q2⟩
 | @tick d hd4 w1 w2 t1 t2 =>
  have s1:=t1.same
  have s2:=t2.same
  have:=h.few;have:=h.next;have:=h.now;have:=h.taken;have:=h.begun;have:=h.dn;have:=h.sent;have:=h.got
  obtain⟨k1,c1,z1⟩:=t1.nk (m:=10+5*n) h.nk h.cl h.ad
  obtain⟨k2,c2,z2⟩:=t2.nk k1 c1 (by rw[s1.2.2.2.2.2.1];exact h.ad)
  have hg:w2.g=w.g:=by rw[s2.2.1,s1.2.1]
  have ha:w2.a=w.a:=by rw[s2.1,s1.1]
  have hz:∀c∈w2.cs,c.1.ch.seq≤n+1:=fun c hc=>by have:=z2 n (z1 n h.cseq) c hc;omega
  have kk2:=k2.knl
  have hsub:∀s∈idleL (w.now+d) w.g.l,s∈w.g.l:=fun s hs=>(List.mem_filter.1 hs).1
  refine⟨?_,by show w2.g.w=_;rw[hg]⟩
  exact {
   ok:=by show AOk w2.a;rw[ha];exact h.ok
   few:=by show w2.a.length≤_;rw[ha];omega
   gate:=by show GtD w2.a _;rw[ha,hg];exact h.gate.idle _
   gname:=by show w2.g.name=9;rw[hg];exact h.gname
   next:=by show w2.g.next≤_;rw[hg];omega
   gseq:=by
    show ∀s∈idleL (w.now+d) w2.g.l,_
    rw[hg]
    exact fun s hs=>by have:=h.gseq s (hsub s hs);omega
   gaddr:=by
    show ∀s∈idleL (w.now+d) w2.g.l,_
    rw[hg]
    exact fun s hs=>h.gaddr s (hsub s hs)
   now:=by
    have:w2.now=w.now+d:=by rw[s2.2.2.1,s1.2.2.1]
    show 0≤w2.now∧w2.now≤_
    omega
   two:=by show w2.cs.length=2;rw[s2.2.2.2.2.1,s1.2.2.2.2.1];exact h.two
   cl:=c2
   cseq:=hz
   adl:=by show w2.ad.length=2;rw[s2.2.2.2.2.2.1,s1.2.2.2.2.2.1];exact h.adl
   ad:=by show ∀x∈w2.ad,_;rw[s2.2.2.2.2.2.1,s1.2.2.2.2.2.1];exact h.ad
   netl:=k2.netl
   net:=k2.net
   knl:=by show w2.known.length≤_;omega
   kn:=k2.kn
   taken:=by show w2.taken.length≤_;rw[s2.2.2.2.2.2.2.1,s1.2.2.2.2.2.2.1];show w.taken.length≤_;omega
   begun:=by show w2.begun.length≤_;rw[s2.2.2.2.2.2.2.2.1,s1.2.2.2.2.2.2.2.1];show w.begun.length≤_;omega
   dn:=by show w2.dn.length≤_;rw[s2.2.2.2.2.2.2.2.2.1,s1.2.2.2.2.2.2.2.2.1];show w.dn.length≤_;omega
   sent:=by show w2.sent.length≤_;rw[s2.2.2.2.2.2.2.2.2.2.1,s1.2.2.2.2.2.2.2.2.2.1];show w.sent.length≤_;omega
   got:=by show w2.got.length≤_;rw[s2.2.2.2.2.2.2.2.2.2.2.1,s1.2.2.2.2.2.2.2.2.2.2.1];show w.got.length≤_;omega }
 | @send i a' net' known' sent' cs' k =>
  cases k with
  | no=>exact⟨h.next',rfl⟩
  | @yes hi hj src dst val body t cid a' st pk c x d1 d2 =>
   have hcl:=h.cl _ (List.getElem_mem hi)
   have had:=h.ad _ (List.getElem_mem hj)
   have hsq:=h.cseq _ (List.getElem_mem hi)
   have:=h.sent;have:=h.few;have:=x.len
   have hR:=h.sayR hn (x:=⟨w.ad[i],99,t⟩) (a':=a') (cs':=w.cs.modify i fun _=>({ w.cs[i].1 with ch:={ w.cs[i].1.ch with seq:=w.cs[i].1.ch.seq+1 } },w.cs[i].2)) (.inr ⟨_,d2⟩) x (by rw[qbQ];exact h.two)
    (qaW (P:=fun c:Cl × ClG=>ClD a' c.1 c.2) (fun c hc=>(h.cl c hc).mono x.pre) fun _=>{ (hcl.mono x.pre) with ch:=fun q=>{ ((hcl.ch st).mono x.pre) with seq:=by show w.cs[i].1.ch.seq+1≤_;omega } })
    (qaW (P:=fun c:Cl × ClG=>c.1.ch.seq≤n+1) (fun c hc=>by have:=h.cseq c hc;omega) fun _=>by show w.cs[i].1.ch.seq+1≤_;omega) had.1 (fun _=>had.2)
   have nt:¬t < 0:=by have:=d2.nonneg;omega
   unfold Wd.say at hR
   rw[if_neg nt] at hR
   exact⟨{ hR with sent:=by show(w.sent++[_]).length≤_;simp;omega },rfl⟩
 | @turn i g' cs' k =>
  cases k with
  | same=>exact⟨h.next',rfl⟩
  | @gate j hj c' st tn =>
   refine⟨{ h.next' with gate:=h.gate.turn hj st tn,gseq:=?_,gaddr:=?_ },rfl⟩
   ·exact qaW (P:=fun s:Se=>s.ch.seq≤n+1) (fun s hs=>by have:=h.gseq s hs;omega) fun _=>(by have:=h.gseq _ (List.getElem_mem hj);have:=tn.seq;show c'.seq≤_;omega)
   ·exact qaW (P:=fun s:Se=>s.addr≤9) h.gaddr fun _=>(by have:=h.gaddr _ (List.getElem_mem hj);exact this)
  | @client hi c' st tn =>
   have hcl:=h.cl _ (List.getElem_mem hi)
   refine⟨{ h.next' with two:=?_,cl:=?_,cseq:=?_ },rfl⟩
   ·show(w.cs.modify i _).length=2
    rw[qbQ];exact h.two
   ·exact qaW (P:=fun c:Cl × ClG=>ClD w.a c.1 c.2) h.cl fun _=>{ hcl with ch:=fun q=>tn.cr (hcl.ch st) }
   ·exact qaW (P:=fun c:Cl × ClG=>c.1.ch.seq≤n+1) (fun c hc=>by have:=h.cseq c hc;omega) fun _=>(by have:=h.cseq _ (List.getElem_mem hi);have:=tn.seq;show c'.seq≤_;omega)
 | @roam i hi x hx =>
  refine⟨{ h.next' with adl:=?_,ad:=?_ },rfl⟩
  ·show(w.ad.modify i _).length=2
   rw[qbQ];exact h.adl
  ·exact qaW (P:=fun x:Int=>0≤x∧x≤9) h.ad fun _=>hx
 | @forge a' k src to T x d hs ht =>
  refine⟨h.sayR hn (a':=a') (cs':=w.cs) (x:=⟨src,to,k⟩) (.inr ⟨_,d⟩) x h.two (fun c hc=>(h.cl c hc).mono x.pre) (fun c hc=>by have:=h.cseq c hc;omega) hs.1 (fun _=>hs.2),?_⟩
  rw[(qcK _ _).2.1]
 | @take i a' known' taken' k =>
  have:=h.few;have:=h.taken;have:=h.knl
  have hN:=h.next'
  have go:∀(l:List Int) (tk:List Int),Ext w.a a' 3→l.length≤5→(∀k∈l,∃T,Den a' k T)→tk.length≤w.taken.length+1→WdI (n+1) { w with a:=a',known:=w.known++l,taken:=tk }:=fun l tk x hl hk ht=>by
   have k2:=(h.nk.mono x.pre).keys hk
   have:=x.len;have:=k2.knl
   exact { hN with
    ok:=x.ok
    few:=by show a'.length≤_;omega
    gate:=h.gate.mono x.pre
    cl:=fun c hc=>(h.cl c hc).mono x.pre
    net:=k2.net
    knl:=by show(w.known++l).length≤_;omega
    kn:=k2.kn
    taken:=by show tk.length≤_;omega }
  cases k with
  | client e d1 d2=>exact⟨go _ _ e (by simp) (fun k hk=>by
    rcases List.mem_cons.1 hk with rfl | hk
    ·exact⟨_,d1⟩
    ·have:k=_:=List.mem_singleton.1 hk
     rw[this];exact⟨_,d2⟩) (takeN_len _ _),rfl⟩
  | gate e d1 d2 d3=>exact⟨go _ _ e (by simp) (fun k hk=>by
    rcases List.mem_cons.1 hk with rfl | hk
    ·exact⟨_,d1⟩
    ·rcases List.mem_cons.1 hk with rfl | hk
     ·exact⟨_,d2⟩
     ·have:k=_:=List.mem_singleton.1 hk
      rw[this];exact⟨_,d3⟩) (takeN_len _ _),rfl⟩
end
inductive Cost (a:Ar):Tm'→Nat→Prop where
 | known {t:Tm'} {k:Int} (d:Den a k t):Cost a t 0
 | atom (n:Int):Cost a (.atom n) 1
 | un {c:Int} {t:Tm'} {m:Nat} (h:Cost a t m):Cost a (.un c t) (m+1)
 | bin {c:Int} {t u:Tm'} {m k:Nat} (h:Cost a t m) (h':Cost a u k):Cost a (.bin c t u) (m+k+1)
theorem Cost.mono {a a':Ar} (x:a <+: a'):∀{t:Tm'} {m:Nat},Cost a t m→Cost a' t m
 | _,_,.known d=>.known (d.mono x)
 | _,_,.atom n=>.atom n
 | _,_,.un h=>.un (h.mono x)
 | _,_,.bin h h'=>.bin (h.mono x) (h'.mono x)
theorem right_mono {n:Nd} {i j:Nat} (h:n.right i=true) (hij:i≤j) (hj:j≤90000000):n.right j=true:=by
 have e1:wr ((i:Int) - 1)=(i:Int) - 1:=qaj (by omega) (by omega)
 have e2:wr ((j:Int) - 1)=(j:Int) - 1:=qaj (by omega) (by omega)
 have key:∀x,inB x 0 ((i:Int) - 1)=true→inB x 0 ((j:Int) - 1)=true:=by
  intro x hx
  simp only[inB,Bool.and_eq_true,decide_eq_true_eq] at hx ⊢
  omega
 unfold Nd.right at h ⊢
 rw[e1] at h
 rw[e2]
 by_cases c1:inB n.k 1 9=false
 ·rw[if_pos c1] at h;cases h
 rw[if_neg c1] at h ⊢
 by_cases c2:n.k=1
 ·rw[if_pos c2] at h ⊢;exact h
 rw[if_neg c2] at h ⊢
 by_cases c3:n.num≠0
 ·rw[if_pos c3] at h;cases h
 rw[if_neg c3] at h ⊢
 by_cases c4:inB n.a 0 ((i:Int) - 1)=false
 ·rw[if_pos c4] at h;cases h
 rw[if_neg c4] at h
 have c5:=key n.a (by cases hb:inB n.a 0 ((i:Int) - 1) with | true=>rfl | false=>exact absurd hb c4)
 rw[if_neg (by rw[c5];simp)]
 by_cases c6:qbB n.k=true
 ·rw[if_pos c6] at h ⊢;exact h
 ·rw[if_neg c6] at h ⊢;exact key _ h
theorem put_old {a:Ar} (ha:AOk a) {n:Nd} {k:Nat} (h:a[k]?=some n):put a n=(a,(k:Int)):=by
 have hlt:k < a.length:=(List.getElem?_eq_some_iff.1 h).1
 have hr:=right_mono (ha.right k n h) (Nat.le_of_lt hlt) ha.le
 unfold put
 rw[hr,if_neg (by simp)]
 unfold at_
 cases e:atFrom n a 0 with
 | some j =>
  obtain⟨h1,h2⟩:=qde e
  have:=ha.once _ _ _ h2 h
  rw[Option.getD_some,if_pos (.inl h1)]
  congr 1
  omega
 | none=>exact absurd h (qdd e k)
theorem Ext.zero {a a':Ar} (h:Ext a a' 0):a'=a:=by
 obtain⟨s,rfl⟩:=h.pre
 have:=h.len
 have:s=[]:=List.eq_nil_of_length_eq_zero (by simp at this;omega)
 rw[this,List.append_nil]
theorem read_bin {a:Ar} (ha:AOk a) {c x y:Int} {t u:Tm'} (hc:c=2∨c=4∨c=5∨c=7∨c=8∨c=9) (hx:Den a x t) (hy:Den a y u):(a.length+1≤3000→Ext a (put a ⟨c,0,x,y⟩).1 1∧Den (put a ⟨c,0,x,y⟩).1 (put a ⟨c,0,x,y⟩).2 (.bin c t u))∧∀k,Den a k (.bin c t u)→Ext a (put a ⟨c,0,x,y⟩).1 0∧Den (put a ⟨c,0,x,y⟩).1 (put a ⟨c,0,x,y⟩).2 (.bin c t u):=by
 refine⟨fun hl=>put_bin ha hc hx hy (by omega),fun k d=>?_⟩
 obtain⟨h0,i,j,hn,_,d1,d2⟩:=d
 have e1:=hx.inj ha d1
 have e2:=hy.inj ha d2
 subst e1 e2
 rw[put_old ha hn]
 exact⟨Ext.refl ha,by rw[Int.toNat_of_nonneg h0];exact⟨h0,x,y,hn,hc,d1,d2⟩⟩
theorem read_un {a:Ar} (ha:AOk a) {c x:Int} {t:Tm'} (hc:c=3∨c=6) (hx:Den a x t):(a.length+1≤3000→Ext a (put a ⟨c,0,x,0⟩).1 1∧Den (put a ⟨c,0,x,0⟩).1 (put a ⟨c,0,x,0⟩).2 (.un c t))∧∀k,Den a k (.un c t)→Ext a (put a ⟨c,0,x,0⟩).1 0∧Den (put a ⟨c,0,x,0⟩).1 (put a ⟨c,0,x,0⟩).2 (.un c t):=by
 refine⟨fun hl=>put_un ha hc hx (by omega),fun k d=>?_⟩
 obtain⟨h0,i,hn,_,d1⟩:=d
 have e1:=hx.inj ha d1
 subst e1
 rw[put_old ha hn]
 exact⟨Ext.refl ha,by rw[Int.toNat_of_nonneg h0];exact⟨h0,x,hn,hc,d1⟩⟩
theorem f_rv {n:Nat} (hn:n≤999999) {l q r:List Nat} (e:l=q++qbz n++r) (hl:∀x∈l,x < 256) (hlen:l.length≤100000) {p:Nat} (hp:p=q.length) :
  fin trA 2907 [.string (qbS l),I p] []=some (0,[I n,I ((p+(qbz n).length:Nat):Int),B true],[]):=by
 subst e hp
 exact f_readVar hn hl hlen
theorem f_read:∀{T:Tm'} (hT:T.ok) {m:Nat} (deep:Nat) (hd:deep+qbC T≤2001) {a:Ar} (ha:AOk a) (hc:Cost a T m) (hm:a.length+m≤3000) {l q r:List Nat} (e:l=q++qbK T++r) (hl:∀x∈l,x < 256) (hlen:l.length≤100000) {p:Nat} (hp:p=q.length),
  ∃a' k,fin trA 2750 [.string (qbS l),I p,I deep] [qag a]=some (0,[I k,I ((p+(qbK T).length:Nat):Int)],[qag a'])∧Ext a a' m∧Den a' k T
 | .atom n,hT,m,deep,hd,a,ha,hc,hm,l,q,r,e,hl,hlen,p,hp=>by
  obtain⟨v,rfl⟩:∃v:Nat,n=v:=⟨n.toNat,by have:=hT.1;omega⟩
  have hv:v≤999999:=by have:=hT.2;omega
  have e1:=f_rv (n:=1) (by omega) (l:=l) (q:=q) (r:=qbz v++r) (by rw[e];simp[qbK]) hl hlen hp
  have e2:=f_rv (n:=v) hv (l:=l) (q:=q++qbz 1) (r:=r) (by rw[e];simp[qbK]) hl hlen (p:=p+(qbz 1).length) (by rw[hp];simp)
  have g1:¬(2000:Int) < (deep:Int):=by simp[qbC] at hd;omega
  have e3:=f_put a 1 v 0 0 ha.le
  have b:inB 1 1 9=true:=rfl
  have key:Ext a (put a ⟨1,v,0,0⟩).1 m∧Den (put a ⟨1,v,0,0⟩).1 (put a ⟨1,v,0,0⟩).2 (.atom v):=by
   cases hc with
   | known d =>
    obtain⟨h0,hn⟩:=d
    rw[put_old ha hn]
    exact⟨Ext.refl ha,Int.natCast_nonneg _,by rw[Int.toNat_natCast];exact hn⟩
   | atom=>exact put_atom ha (by omega) (by omega) (by omega)
  refine⟨_,_,qaa trA ?_,key.1,key.2⟩
  show o229.go _ _ _=_
  rw[show(qbK (.atom (v:Int))).length=(qbz 1).length+(qbz v).length by simp[qbK],←Nat.add_assoc]
  simp only[o229,TT,Nat.reduceEqDiff,↓reduceIte,e1,gt_iff_lt,g1,f_in,b,show((1:Nat):Int)=1 from rfl,e2,e3]
 | .un c t,hT,m,deep,hd,a,ha,hc,hm,l,q,r,e,hl,hlen,p,hp=>by
  obtain⟨v,rfl⟩:∃v:Nat,c=v:=⟨c.toNat,by have:=hT.1;omega⟩
  have hv:v=3∨v=6:=by have:=hT.1;omega
  have hs:qbC (.un (v:Int) t)=1+qbC t:=by simp only[qbC]<;>omega
  have e1:=f_rv (n:=v) (by omega) (l:=l) (q:=q) (r:=qbK t++r) (by rw[e];simp[qbK]) hl hlen hp
  obtain⟨m0,hc0,hm0⟩:∃m0,Cost a t m0∧(m=m0+1∨(m=0∧m0=0∧∃k,Den a k (.un (v:Int) t))):=by
   cases hc with
   | known d=>obtain⟨h0,i,hn,_,d1⟩:=d;exact⟨0,.known d1,.inr ⟨rfl,rfl,_,h0,i,hn,hT.1,d1⟩⟩
   | un h=>exact⟨_,h,.inl rfl⟩
  obtain⟨a1,x,e2,x1,d1⟩:=f_read hT.2 (deep+1) (by omega) ha hc0 (by omega) (l:=l) (q:=q++qbz v) (r:=r) (by rw[e];simp[qbK]) hl hlen (p:=p+(qbz v).length) (by rw[hp];simp)
  have g1:¬(2000:Int) < (deep:Int):=by omega
  have b:inB (v:Int) 1 9=true:=by simp[inB];omega
  have n1:¬(v:Int)=1:=by omega
  have nx:¬x < 0:=by have:=d1.nonneg;omega
  have o1:qbB (v:Int)=true:=by rcases hv with rfl | rfl<;>rfl
  have wd:wr ((deep:Int)+1)=((deep+1:Nat):Int):=by rw[qaj (by omega) (by omega)];omega
  have e3:=f_put a1 v 0 x 0 x1.ok.le
  have l1:=x1.len
  have key:Ext a (put a1 ⟨v,0,x,0⟩).1 m∧Den (put a1 ⟨v,0,x,0⟩).1 (put a1 ⟨v,0,x,0⟩).2 (.un (v:Int) t):=by
   have hr:=read_un x1.ok (c:=v) hT.1 d1
   rcases hm0 with rfl | ⟨rfl,rfl,k,d⟩
   ·have:=hr.1 (by omega)
    exact⟨x1.trans this.1,this.2⟩
   ·have:=hr.2 k (d.mono x1.pre)
    exact⟨x1.trans this.1,this.2⟩
  refine⟨_,_,qaa trA ?_,key.1,key.2⟩
  show o229.go _ _ _=_
  rw[show(qbK (.un (v:Int) t)).length=(qbz v).length+(qbK t).length by simp[qbK],←Nat.add_assoc]
  simp only[o229,TT,Nat.reduceEqDiff,↓reduceIte,e1,gt_iff_lt,g1,f_in,b,n1,wd,e2,nx,f_one,o1,e3]
 | .bin c t u,hT,m,deep,hd,a,ha,hc,hm,l,q,r,e,hl,hlen,p,hp=>by
  obtain⟨v,rfl⟩:∃v:Nat,c=v:=⟨c.toNat,by have:=hT.1;omega⟩
  have hv:v=2∨v=4∨v=5∨v=7∨v=8∨v=9:=by have:=hT.1;omega
  have hs:qbC (.bin (v:Int) t u)=1+qbC t+qbC u:=by simp only[qbC]<;>omega
  have e1:=f_rv (n:=v) (by omega) (l:=l) (q:=q) (r:=qbK t++qbK u++r) (by rw[e];simp[qbK]) hl hlen hp
  obtain⟨m0,m1,hc0,hc1,hm0⟩:∃m0 m1,Cost a t m0∧Cost a u m1∧(m=m0+m1+1∨(m=0∧m0=0∧m1=0∧∃k,Den a k (.bin (v:Int) t u))):=by
   cases hc with
   | known d=>obtain⟨h0,i,j,hn,_,d1,d2⟩:=d;exact⟨0,0,.known d1,.known d2,.inr ⟨rfl,rfl,rfl,_,h0,i,j,hn,hT.1,d1,d2⟩⟩
   | bin h h'=>exact⟨_,_,h,h',.inl rfl⟩
  obtain⟨a1,x,e2,x1,d1⟩:=f_read hT.2.1 (deep+1) (by omega) ha hc0 (by omega) (l:=l) (q:=q++qbz v) (r:=qbK u++r) (by rw[e];simp[qbK]) hl hlen (p:=p+(qbz v).length) (by rw[hp];simp)
  have l1:=x1.len
  obtain⟨a2,y,e3,x2,d2⟩:=f_read hT.2.2 (deep+1) (by omega) x1.ok (hc1.mono x1.pre) (by omega) (l:=l) (q:=q++qbz v++qbK t) (r:=r) (by rw[e];simp[qbK]) hl hlen (p:=p+(qbz v).length+(qbK t).length) (by rw[hp];simp;omega)
  have l2:=x2.len
  have g1:¬(2000:Int) < (deep:Int):=by omega
  have b:inB (v:Int) 1 9=true:=by simp[inB];omega
  have n1:¬(v:Int)=1:=by omega
  have nx:¬x < 0:=by have:=d1.nonneg;omega
  have ny:¬y < 0:=by have:=d2.nonneg;omega
  have o1:qbB (v:Int)=false:=by rcases hv with rfl | rfl | rfl | rfl | rfl | rfl<;>rfl
  have wd:wr ((deep:Int)+1)=((deep+1:Nat):Int):=by rw[qaj (by omega) (by omega)];omega
  have e4:=f_put a2 v 0 x y x2.ok.le
  have key:Ext a (put a2 ⟨v,0,x,y⟩).1 m∧Den (put a2 ⟨v,0,x,y⟩).1 (put a2 ⟨v,0,x,y⟩).2 (.bin (v:Int) t u):=by
   have hr:=read_bin x2.ok (c:=v) hT.1 (d1.mono x2.pre) d2
   rcases hm0 with rfl | ⟨rfl,rfl,rfl,k,d⟩
   ·have:=hr.1 (by omega)
    exact⟨(x1.trans x2).trans this.1,this.2⟩
   ·have:=hr.2 k (d.mono (x1.pre.trans x2.pre))
    exact⟨(x1.trans x2).trans this.1,this.2⟩
  refine⟨_,_,qaa trA ?_,key.1,key.2⟩
  show o229.go _ _ _=_
  rw[show(qbK (.bin (v:Int) t u)).length=(qbz v).length+(qbK t).length+(qbK u).length by simp[qbK,Nat.add_assoc],←Nat.add_assoc,←Nat.add_assoc]
  simp only[o229,TT,Nat.reduceEqDiff,↓reduceIte,e1,gt_iff_lt,g1,f_in,b,n1,wd,e2,nx,f_one,o1,e3,ny,e4]
theorem f_copy (a:Ar) (hl:a.length≤90000000):fin trA 518 [] [qag a]=some (0,[],[qag a]):=by
 refine qaa trA ?_
 show o43.go _ _ _=_
 have g:(a.length:Int)≤100000000:=by omega
 simp only[o43,TT,Nat.reduceEqDiff,↓reduceIte,encA_len,g]
theorem f_readTerm {T:Tm'} (hT:T.ok) (hs:qbC T≤2000) {a:Ar} (ha:AOk a) {m:Nat} (hc:Cost a T m) (hm:a.length+m≤3000) :
  ∃a' k,fin trA 2426 [.string (qbS (qbK T))] [qag a]=some (0,[I k,B true],[qag a'])∧Ext a a' m∧Den a' k T:=by
 have hlen:=qdi hT
 obtain⟨a',k,e1,x,d⟩:=f_read hT 0 (by omega) ha hc hm (l:=qbK T) (q:=[]) (r:=[]) (by simp) (qgh T) (by omega) (p:=0) rfl
 rw[show((0:Nat):Int)=0 from rfl,Nat.zero_add] at e1
 have e2:=qbp x.ok d
 have e0:=f_copy a ha.le
 have nk:¬k < 0:=by have:=d.nonneg;omega
 have ht:txt T=qbK T:=by unfold txt;rw[if_pos hs]
 rw[ht,decide_eq_true hs] at e2
 refine⟨a',k,qaa trA ?_,x,d⟩
 show o202.go _ _ _=_
 simp only[o202,TT,Nat.reduceEqDiff,↓reduceIte,e0,e1,nk,sizeV_str,qao,e2,bv_sneq,beq_self_eq_true]
theorem f_readTerm_no {a:Ar} (ha:AOk a):fin trA 2426 [.string (qbS [])] [qag a]=some (0,[I (-1),B false],[qag a]):=by
 have e0:=f_copy a ha.le
 have b:inB 0 0 0=true:=rfl
 have nn:(-1:Int) < 0:=by omega
 have n0:¬(0:Int) < 0:=by omega
 have er0:fin trA 2906 [.string (qbS []),I 0,I 0,I 0,B false,I 0,I 1,I 0] []=some (0,[],[]):=by
  refine qaa trA ?_
  show o242_0.go _ _ _=_
  simp only[o242_0,TT,Nat.reduceEqDiff,↓reduceIte,sizeV_str,qao,List.length_nil,show((0:Nat):Int)=0 from rfl,n0]
 have er:fin trA 2907 [.string (qbS []),I 0] []=some (0,[I 0,I 0,B false],[]):=by
  refine qaa trA ?_
  show o242.go _ _ _=_
  simp only[o242,qac,TT,Nat.reduceEqDiff,↓reduceIte,sizeV_str,qao,List.length_nil,show((0:Nat):Int)=0 from rfl,f_in,b,er0]
 have e1:fin trA 2750 [.string (qbS []),I 0,I 0] [qag a]=some (0,[I (-1),I 0],[qag a]):=by
  refine qaa trA ?_
  show o229.go _ _ _=_
  simp only[o229,TT,Nat.reduceEqDiff,↓reduceIte,er]
 refine qaa trA ?_
 show o202.go _ _ _=_
 simp only[o202,TT,Nat.reduceEqDiff,↓reduceIte,e0,e1,nn]
end Go.Proofs.YtipomcnbjlfekaaGreat.Rs
