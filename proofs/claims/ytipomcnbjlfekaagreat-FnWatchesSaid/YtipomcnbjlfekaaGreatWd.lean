import Derived.Test.YtipomcnbjlfekaaGreatWc
/- Parts of the proof, merged by a program. -/
namespace Go.Proofs.YtipomcnbjlfekaaGreat.Rs
set_option maxRecDepth 100000
set_option linter.all false
open Go.RowKit
structure Lp where
 f:Nat
 id:Nat
 s:Sum
def findS (f:Nat):List (Nat × Sum)→List Sum
 | []=>[]
 | p :: l=>bif Nat.beq p.1 f then p.2 :: findS f l else findS f l
def findL (f id:Nat):List Lp→List Sum
 | []=>[]
 | p :: l=>bif Nat.beq p.f f&&Nat.beq p.id id then p.s :: findL f id l else findL f id l
theorem qgg {f:Nat} {s:Sum}:∀{l:List (Nat × Sum)},s∈findS f l→(f,s)∈l
 | [],h=>by cases h
 | (g,x) :: l,h=>by
  simp only[findS] at h
  cases hb:Nat.beq g f with
  | false=>rw[hb] at h;exact List.mem_cons_of_mem _ (qgg h)
  | true =>
   rw[hb] at h
   obtain rfl:=Nat.eq_of_beq_eq_true hb
   rcases List.mem_cons.1 h with rfl | h
   ·exact List.mem_cons_self
   ·exact List.mem_cons_of_mem _ (qgg h)
theorem qgu {f id:Nat} {s:Sum}:∀{l:List Lp},s∈findL f id l→(⟨f,id,s⟩:Lp)∈l
 | [],h=>by cases h
 | ⟨g,i,x⟩ :: l,h=>by
  simp only[findL] at h
  cases hb:(Nat.beq g f&&Nat.beq i id) with
  | false=>rw[hb] at h;exact List.mem_cons_of_mem _ (qgu h)
  | true =>
   rw[hb] at h
   simp only[Bool.and_eq_true] at hb
   obtain rfl:=Nat.eq_of_beq_eq_true hb.1
   obtain rfl:=Nat.eq_of_beq_eq_true hb.2
   rcases List.mem_cons.1 h with rfl | h
   ·exact List.mem_cons_self
   ·exact List.mem_cons_of_mem _ (qgu h)
structure Db where
 sums:List (Nat × Sum)
 lps:List Lp
def Cfg.db (C:Cfg) (d:Db):Cfg:={ C with sums:=fun f=>findS f d.sums,lps:=fun f id=>findL f id d.lps }
def Cfg.rc (C:Cfg) (r:List Value→List Rw→Prop):Cfg:={ C with pre:=fun p=>bif Nat.beq p 0 then r else C.pre p }
def only(id:Nat):List (Nat × Code)→List Code
 | []=>[]
 | p :: l=>bif Nat.beq p.1 id then p.2 :: only id l else only id l
theorem only_mem {id:Nat} {x:Code}:∀{l:List (Nat × Code)},(id,x)∈l→x∈only id l
 | p :: l,h=>by
  simp only[only]
  rcases List.mem_cons.1 h with rfl | h
  ·rw[show Nat.beq id id=true from Nat.beq_refl _]
   exact List.mem_cons_self
  ·cases hb:Nat.beq p.1 id with
   | true=>exact List.mem_cons_of_mem _ (only_mem h)
   | false=>exact only_mem h
structure LpOk (C:Cfg) (p:Lp):Prop where
 pid:p.s.pid≠0
 ok:∃F c x,C.fn p.f=some F∧F.body=some c∧only p.id (qaC c)=[x]∧qcR C F.ntmps x p.s
structure FnOk (C:Cfg) (p:Nat × Sum):Prop where
 pid:p.2.pid≠0
 ok:qcA C p.1 p.2
structure DbOk (C:Cfg) (d:Db):Prop where
 sums:∀p∈d.sums,FnOk C p
 lps:∀p∈d.lps,LpOk C p
theorem DbOk.nil (C:Cfg):DbOk C ⟨[],[]⟩:=⟨(fun p h=>by cases h),(fun p h=>by cases h)⟩
section
variable {C:Cfg} {d:Db} {fr:Fr} {E E0:Env} {w0:Ws} {w w':World} {s:Sum}
theorem Cfg.Ok.db (h:C.Ok) (d:Db):(C.db d).Ok:=⟨h.ty,h.fn,h.mixed,h.eqs⟩
theorem Cfg.Ok.rc (h:C.Ok) (r:List Value→List Rw→Prop):(C.rc r).Ok:=⟨h.ty,h.fn,h.mixed,h.eqs⟩
theorem rc_pre {r:List Value→List Rw→Prop} {p:Nat} (hp:p≠0):(C.rc r).pre p=C.pre p:=by
 show(bif Nat.beq p 0 then r else C.pre p)=_
 rw[qaz,decide_eq_false hp]
 rfl
theorem sumOk_rc {r:List Value→List Rw→Prop} {f:Nat} (hp:s.pid≠0) (h:qcA C f s):qcA (C.rc r) f s:=fun fr w0 w E0 vs a1 a2 a3 a4 a5 a6=>h fr w0 w E0 vs a1 a2 a3 a4 a5 (by rw[rc_pre hp] at a6;exact a6)
theorem loopOk_rc {r:List Value→List Rw→Prop} {N:Nat} {c:Code} (hp:s.pid≠0) (h:qcR C N c s):qcR (C.rc r) N c s:=fun fr w0 w E0 a a1 a2 a3 a4 a5 a6 a7 a8=>h fr w0 w E0 a a1 a2 a3 a4 a5 (by rw[rc_pre hp] at a6;exact a6) a7 a8
theorem DbOk.rc (h:DbOk C d) (r:List Value→List Rw→Prop):DbOk (C.rc r) d :=
 ⟨fun p hp=>⟨(h.sums p hp).pid,sumOk_rc (h.sums p hp).pid (h.sums p hp).ok⟩,fun p hp=>⟨(h.lps p hp).pid,by
  obtain⟨F,c,x,h1,h2,h3,h4⟩:=(h.lps p hp).ok
  exact⟨F,c,x,h1,h2,h3,loopOk_rc (h.lps p hp).pid h4⟩⟩⟩
theorem DbOk.told (h:DbOk C d):(C.db d).Told where
 sums f s hs:=(h.sums (f,s) (qgg hs)).ok
 loops f F c hF hc p hp s hs:=by
  obtain⟨F',c',x,h1,h2,h3,h4⟩:=(h.lps ⟨f,p.1,s⟩ (qgu hs)).ok
  have hF':C.fn f=some F:=hF
  rw[hF'] at h1
  cases h1
  rw[hc] at h2
  cases h2
  have hm:=only_mem (x:=p.2) (show(p.1,p.2)∈qaC c from hp)
  rw[h3] at hm
  simp at hm
  rw[hm]
  exact h4
def Ro (w:World) (u:Value) (ks:List CK) (L:Rw):Prop :=
 RowOk ks L∧∃A c,u=.slice A L.length c∧L.length≤c∧L.length≤maxLen∧(0 < L.length→∃ad,A=some ad∧∀j e,L[j]?=some e→∀i v,e[i]?=some v→w.cell? (ad.add (j*ks.length+i))=some v)
theorem qht {l:List Value} {z:Nat}:∀(L:Rw) (o:Nat),(∀e∈L,e.length=z)→(∀j e,L[j]?=some e→∀i u,e[i]?=some u→l[o+(j*z+i)]?=some u)→(l.drop o).take (L.length*z)=L.flatten
 | [],o,_,_=>by simp
 | e :: L,o,hz,h=>by
  have he:e.length=z:=hz e (by simp)
  have ih:=qht L (o+z) (fun e' he'=>hz e' (by simp[he'])) (fun j e' hj i u hu=>by
   have:=h (j+1) e' (by simpa using hj) i u hu
   rw[←this]
   congr 1
   rw[Nat.add_mul]
   omega)
  have h0:(l.drop o).take z=e:=by
   apply List.ext_getElem?
   intro i
   rw[List.getElem?_take,List.getElem?_drop]
   by_cases hi:i < z
   ·rw[if_pos hi]
    have hie:e[i]?=some e[i]:=List.getElem?_eq_getElem (by omega)
    rw[hie,←h 0 e rfl i _ hie]
    congr 1
    omega
   ·rw[if_neg hi,List.getElem?_eq_none (by omega)]
  have hs:(l.drop o).take ((L.length+1)*z)=(l.drop o).take z++(l.drop (o+z)).take (L.length*z):=by
   rw[show(L.length+1)*z=z+L.length*z from by rw[Nat.add_mul];omega,List.take_add,List.drop_drop]
  rw[List.length_cons,hs,h0,ih,List.flatten_cons]
theorem ro_lies {u:Value} {ks:List CK} {L:Rw} (h:Ro w u ks L) (t:Nat) (r:Rg) (hr:r=⟨none,0,0,ks.length,t,false,u⟩):RowOk ks L∧Lies (fun g _=>g < w.heap.size) w r t L false:=by
 subst hr
 obtain⟨h1,A,c,rfl,h2,h3,h4⟩:=h
 refine⟨h1,rfl,A,c,rfl,h2,h3,fun hpos=>?_⟩
 have hz:0 < ks.length:=Nat.pos_of_mul_pos_left hpos
 have hL:0 < L.length:=Nat.pos_of_mul_pos_right hpos
 obtain⟨ad,rfl,hc⟩:=h4 hL
 have hlen:∀e∈L,e.length=ks.length:=fun e he=>(h1 e he).1
 have he0:L[0]?=some L[0]:=List.getElem?_eq_getElem hL
 have hl0:L[0].length=ks.length:=hlen _ (List.getElem_mem _)
 obtain⟨arr,t',fz,hh,hsp⟩:∃arr t' fz,w.heap[ad.block]?=some (.cells arr t' fz)∧ad.spot=none:=by
  have:=hc 0 L[0] he0 0 _ (List.getElem?_eq_getElem (by omega))
  rw[show 0*ks.length+0=0 from by omega,show ad.add 0=ad from rfl] at this
  unfold World.cell? at this
  split at this
  ·rename_i arr t' fz hh
   cases hsp:ad.spot with
   | some x=>rw[hsp] at this;cases this
   | none=>exact⟨arr,t',fz,hh,rfl⟩
  ·cases this
 have hadd:∀n,ad.add n=⟨ad.block,ad.off+n,none⟩:=by
  intro n
  unfold Addr.add
  split
  ·rename_i h0;subst h0;cases ad;simp at hsp;subst hsp;rfl
  ·rfl
 have hcell:∀j e,L[j]?=some e→∀i v,e[i]?=some v→∃arr t' fz,w.heap[ad.block]?=some (.cells arr t' fz)∧arr[ad.off+(j*ks.length+i)]?=some v:=by
  intro j e hj i v hv
  have:=hc j e hj i v hv
  rw[hadd] at this
  unfold World.cell? at this
  split at this
  ·rename_i arr t' fz hh
   exact⟨arr,t',fz,hh,by simpa using this⟩
  ·cases this
 have hall:∀j e,L[j]?=some e→∀i v,e[i]?=some v→arr[ad.off+(j*ks.length+i)]?=some v:=by
  intro j e hj i v hv
  obtain⟨arr2,t2,f2,e2,e3⟩:=hcell j e hj i v hv
  rw[hh] at e2
  cases e2
  exact e3
 refine⟨ad.block,ad.off,arr,t',fz,?_,hh,?_,?_,?_⟩
 ·cases ad;simp at hsp;subst hsp;rfl
 ·have hlast:L[L.length - 1]?=some (L[L.length - 1]'(by omega)):=List.getElem?_eq_getElem (by omega)
  have hll:(L[L.length - 1]'(by omega)).length=ks.length:=hlen _ (List.getElem_mem _)
  have:=hall _ _ hlast (ks.length - 1) _ (List.getElem?_eq_getElem (by omega))
  obtain⟨hb,_⟩:=Array.getElem?_eq_some_iff.1 this
  have:L.length*ks.length=(L.length - 1)*ks.length+ks.length:=by
   conv=>lhs;rw[show L.length=(L.length - 1)+1 from by omega,Nat.add_mul,Nat.one_mul]
  show ad.off+L.length*ks.length≤arr.size
  omega
 ·exact qht L ad.off hlen (fun j e hj i v hv=>by simpa using hall j e hj i v hv)
 ·intro j _ _
  exact(Array.getElem?_eq_some_iff.1 (show w.heap[ad.block]?=_ from hh)).1
def envOf (us:List (Nat × Nat × Value)) (vs:List Value) (Ls:List Rw):Env :=
 ⟨fun b=>(us[b]?).map fun p=>⟨none,0,0,p.1,p.2.1,false,p.2.2⟩,⟨vs.length,Ls.length,⟨fun i=>vs.getD i undef,fun j=>Ls.getD j []⟩⟩⟩
def zipU (bs:List (Nat × List CK)) (us:List Value):List (Nat × Nat × Value):=(bs.zip us).map fun p=>(p.1.2.length,p.1.1,p.2)
def roBl:List (Nat × List CK)→Nat→List Bl
 | [],_=>[]
 | p :: l,j=>.sy false p.1 p.2 (.s j) :: roBl l (j+1)
theorem roBl_get:∀(l:List (Nat × List CK)) (j k:Nat),(roBl l j)[k]?=(l[k]?).map fun p=>.sy false p.1 p.2 (.s (j+k))
 | [],_,_=>rfl
 | p :: l,j,0=>rfl
 | p :: l,j,k+1=>by
  simp only[roBl,List.getElem?_cons_succ,roBl_get l (j+1) k]
  rw[show j+1+k=j+(k+1) from by omega]
theorem qee:∀(l:List (Nat × List CK)) (j:Nat),(roBl l j).length=l.length
 | [],_=>rfl
 | p :: l,j=>by simp[roBl,qee l (j+1)]
theorem law_start (w:World) (bs:List (Nat × List CK)) (us:List Value) (vs:List Value) (Ls:List Rw) (hl:bs.length=us.length) (hl2:bs.length=Ls.length) (h:∀(b:Nat) p u L,bs[b]?=some p→us[b]?=some u→Ls[b]?=some L→Ro w u p.2 L) :
  RelH (fun g _=>g < w.heap.size) ⟨w,fun _ _=>False⟩ (envOf (zipU bs us) vs Ls) (hpOf vs.length Ls.length ((roBl bs 0).map some)) w:=by
 have hget:∀b bl,(hpOf vs.length Ls.length ((roBl bs 0).map some)).bs.get b=some bl→∃p u L,bs[b]?=some p∧us[b]?=some u∧Ls[b]?=some L∧bl=.sy false p.1 p.2 (.s b)∧(envOf (zipU bs us) vs Ls) b=some ⟨none,0,0,p.2.length,p.1,false,u⟩:=by
  intro b bl hb
  rw[qcd,List.getElem?_map,roBl_get] at hb
  cases hp:bs[b]? with
  | none=>rw[hp] at hb;cases hb
  | some p =>
   rw[hp] at hb
   simp at hb
   have hlt:=(List.getElem?_eq_some_iff.1 hp).1
   have hu:us[b]?=some (us[b]'(by omega)):=List.getElem?_eq_getElem (by omega)
   have hL:Ls[b]?=some (Ls[b]'(by omega)):=List.getElem?_eq_getElem (by omega)
   refine⟨p,_,_,rfl,hu,hL,hb.symm,?_⟩
   show((zipU bs us)[b]?).map _=_
   simp[zipU,List.getElem?_zip_eq_some,List.getElem?_map,hp,hu,List.zip,List.getElem?_zipWith]
 refine⟨fun b bl hb=>?_,fun b hb=>?_,fun b b' bl bl' r r' g o h1 h2 h3 h4 h5 h6=>?_,fun b bl r g o h1 h2 h3=>?_,fun g o h=>h,Keeps.refl _ _,⟨rfl,rfl⟩⟩
 ·obtain⟨p,u,L,hp,hu,hL,rfl,hE⟩:=hget b bl hb
  refine⟨?_,?_⟩
  ·show b < ((roBl bs 0).map some).length
   rw[List.length_map,qee]
   exact(List.getElem?_eq_some_iff.1 hp).1
  ·obtain⟨k1,k2⟩:=ro_lies (h b p u L hp hu hL) p.1 _ rfl
   refine⟨_,L,hE,rfl,fun S hS=>?_,k1,k2⟩
   have hb:b < Ls.length:=(List.getElem?_eq_some_iff.1 hL).1
   show S.r b=L
   rw[hS.2 b hb]
   show Ls.getD b []=L
   rw[List.getD_eq_getElem?_getD,hL]
   rfl
 ·have:((roBl bs 0).map some).length≤b:=hb
  rw[List.length_map,qee] at this
  show((zipU bs us)[b]?).map _=none
  rw[List.getElem?_eq_none (by simp[zipU];omega)]
  rfl
 ·obtain⟨p,u,L,_,_,_,_,hE⟩:=hget b bl h1
  rw[hE] at h3
  cases h3
  cases h5.1
 ·obtain⟨p,u,L,_,_,_,_,hE⟩:=hget b bl h1
  rw[hE] at h2
  cases h2
  cases h3.1
end
def bRL (n m:Nat):RL→Bool
 | .nil=>true
 | .cons x xs=>bR n m x&&bRL n m xs
theorem bRL_ev {q:Qn} {S:Sy} (hS:q.has S):∀(x:RL),bRL q.n q.m x=true→x.ev S=x.ev q.S
 | .nil,_=>rfl
 | .cons x xs,h=>by simp only[bRL,Bool.and_eq_true] at h;simp only[RL.ev,qgB hS x h.1,bRL_ev hS xs h.2]
def bO:Nat→Nat→Out→Bool
 | _,_,.done _ _ _=>false
 | n,m,.ask c x y=>bT n m c&&(bO n m x&&bO n m y)
 | n,m,.need c x=>bT n m c&&bO n m x
 | n,m,.pre _ a r x=>bTL n m a&&(bRL n m r&&bO n m x)
 | n,m,.fresh mv mr _ a r x=>bTL n m a&&(bRL n m r&&bO (n+mv) (m+mr) x)
 | n,m,.both x y=>bO n m x&&bO n m y
 | n,m,.name te x=>bT n m te&&bO (n+1) m x
 | n,m,.prove _ a r v l=>bTL n m a&&(bRL n m r&&(bTL n m v&&bRL n m l))
 | _,_,.fail=>true
def syL (vs:List Value) (ls:List Rw):Sy:=⟨fun i=>vs.getD i undef,fun j=>ls.getD j []⟩
def Out.OkL (C:Cfg):List Value→List Rw→Out→Prop
 | _,_,.done _ _ _=>False
 | vs,ls,.ask c x y=>(c.ev (syL vs ls)=.bool true→x.OkL C vs ls)∧(c.ev (syL vs ls)=.bool false→y.OkL C vs ls)
 | vs,ls,.need c x=>c.ev (syL vs ls)=.bool true∧x.OkL C vs ls
 | vs,ls,.pre id a r x=>C.pre id (a.ev (syL vs ls)) (r.ev (syL vs ls))∧x.OkL C vs ls
 | vs,ls,.fresh mv mr id a r x=>∀vs' ls',vs'.length=mv→ls'.length=mr→C.fact id (a.ev (syL vs ls)) (r.ev (syL vs ls)) vs' ls'→x.OkL C (vs++vs') (ls++ls')
 | vs,ls,.both x y=>x.OkL C vs ls∧y.OkL C vs ls
 | vs,ls,.name te x=>x.OkL C (vs++[te.ev (syL vs ls)]) ls
 | vs,ls,.prove id a r v l=>C.fact id (a.ev (syL vs ls)) (r.ev (syL vs ls)) (v.ev (syL vs ls)) (l.ev (syL vs ls))
 | _,_,.fail=>False
theorem has_app {q:Qn} {vs vs':List Value} {ls ls':List Rw} (hn:q.n=vs.length) (hm:q.m=ls.length) (hq:q.has (syL vs ls)):(q.ext vs' ls').has (syL (vs++vs') (ls++ls')):=by
 refine⟨fun i hi=>?_,fun i hi=>?_⟩
 ·simp only[syL,Qn.ext]
  by_cases hlt:i < q.n
  ·rw[if_pos hlt,←hq.1 i hlt]
   simp only[syL,List.getD_eq_getElem?_getD]
   rw[List.getElem?_append_left (by omega)]
  ·rw[if_neg hlt,List.getD_eq_getElem?_getD,List.getD_eq_getElem?_getD,List.getElem?_append_right (by omega),hn]
 ·simp only[syL,Qn.ext]
  by_cases hlt:i < q.m
  ·rw[if_pos hlt,←hq.2 i hlt]
   simp only[syL,List.getD_eq_getElem?_getD]
   rw[List.getElem?_append_left (by omega)]
  ·rw[if_neg hlt,List.getD_eq_getElem?_getD,List.getD_eq_getElem?_getD,List.getElem?_append_right (by omega),hm]
theorem qdA {C:Cfg} {K:Qn→Ex→Tm→Hp→Prop}:∀(o:Out) (q:Qn) (vs:List Value) (ls:List Rw),bO q.n q.m o=true→q.n=vs.length→q.m=ls.length→q.has (syL vs ls)→o.OkL C vs ls→o.Ok C K q
 | .done _ _ _,_,_,_,h,_,_,_,_=>by cases h
 | .ask c x y,q,vs,ls,h,hn,hm,hq,k=>by
  simp only[bO,Bool.and_eq_true] at h
  have e:=qci hq c h.1
  exact⟨fun hc=>qdA x q vs ls h.2.1 hn hm hq (k.1 (e.trans hc)),fun hc=>qdA y q vs ls h.2.2 hn hm hq (k.2 (e.trans hc))⟩
 | .need c x,q,vs,ls,h,hn,hm,hq,k=>by
  simp only[bO,Bool.and_eq_true] at h
  have e:=qci hq c h.1
  exact⟨e.symm.trans k.1,qdA x q vs ls h.2 hn hm hq k.2⟩
 | .pre id a r x,q,vs,ls,h,hn,hm,hq,k=>by
  simp only[bO,Bool.and_eq_true] at h
  refine⟨?_,qdA x q vs ls h.2.2 hn hm hq k.2⟩
  rw[←qfw hq a h.1,←bRL_ev hq r h.2.1]
  exact k.1
 | .fresh mv mr id a r x,q,vs,ls,h,hn,hm,hq,k=>by
  simp only[bO,Bool.and_eq_true] at h
  intro vs' ls' h1 h2 hf
  rw[←qfw hq a h.1,←bRL_ev hq r h.2.1] at hf
  refine qdA x (q.ext vs' ls') (vs++vs') (ls++ls') (by rw[show(q.ext vs' ls').n=q.n+vs'.length from rfl,show(q.ext vs' ls').m=q.m+ls'.length from rfl,h1,h2];exact h.2.2) (by simp[Qn.ext,hn]) (by simp[Qn.ext,hm]) ⟨fun i hi=>?_,fun i hi=>?_⟩ (k vs' ls' h1 h2 hf)
  ·simp only[syL,Qn.ext]
   by_cases hlt:i < q.n
   ·rw[if_pos hlt,←hq.1 i hlt]
    simp only[syL,List.getD_eq_getElem?_getD]
    rw[List.getElem?_append_left (by omega)]
   ·rw[if_neg hlt,List.getD_eq_getElem?_getD,List.getD_eq_getElem?_getD,List.getElem?_append_right (by omega),hn]
  ·simp only[syL,Qn.ext]
   by_cases hlt:i < q.m
   ·rw[if_pos hlt,←hq.2 i hlt]
    simp only[syL,List.getD_eq_getElem?_getD]
    rw[List.getElem?_append_left (by omega)]
   ·rw[if_neg hlt,List.getD_eq_getElem?_getD,List.getD_eq_getElem?_getD,List.getElem?_append_right (by omega),hm]
 | .name te x,q,vs,ls,h,hn,hm,hq,k=>by
  simp only[bO,Bool.and_eq_true] at h
  have e:=qci hq te h.1
  have k:x.OkL C (vs++[te.ev (syL vs ls)]) ls:=k
  rw[e] at k
  have ha:=has_app (vs':=[te.ev q.S]) (ls':=[]) hn hm hq
  rw[List.append_nil] at ha
  exact qdA x (q.ext [te.ev q.S] []) (vs++[te.ev q.S]) ls (by show bO (q.n+1) (q.m+0) x=true;exact h.2) (by simp[Qn.ext,hn]) (by simp[Qn.ext,hm]) ha k
 | .both x y,q,vs,ls,h,hn,hm,hq,k=>by
  simp only[bO,Bool.and_eq_true] at h
  exact⟨qdA x q vs ls h.1 hn hm hq k.1,qdA y q vs ls h.2 hn hm hq k.2⟩
 | .prove id a r v l,q,vs,ls,h,hn,hm,hq,k=>by
  simp only[bO,Bool.and_eq_true] at h
  show C.fact id _ _ _ _
  rw[←qfw hq a h.1,←bRL_ev hq r h.2.1,←qfw hq v h.2.2.1,←bRL_ev hq l h.2.2.2]
  exact k
 | .fail,_,_,_,_,_,_,_,k=>k
theorem q_has (q:Qn):q.has (syL (qcI q q.n) (qaL q q.m)) :=
 ⟨fun i hi=>by simp[syL,qcI,List.getD_eq_getElem?_getD,hi],fun i hi=>by simp[syL,qaL,List.getD_eq_getElem?_getD,hi]⟩
section
variable {C:Cfg} {d:Db} {s:Sum}
end
mutual
inductive Ot where
 | ask (c:Te) (x y:Ot)
 | need (c:Te) (x:Ot)
 | call (p:Nat) (a:List Te) (r:List RT) (k:Os)
 | name (te:Te) (x:Ot)
 | ret (k:Nat) (v:List Te) (l:List RT)
 | two (x:Ot)
 | both (x y:Ot)
 | fail
inductive Os where
 | one (mv mr k:Nat) (x:Ot)
 | more (mv mr k:Nat) (x:Ot) (rest:Os)
end
def tl:List Te→TL
 | []=>.nil
 | x :: xs=>.cons x (tl xs)
def rl:List RT→RL
 | []=>.nil
 | x :: xs=>.cons x (rl xs)
theorem tl_ev (S:Sy):∀xs,(tl xs).ev S=xs.map (Te.ev S)
 | []=>rfl
 | x :: xs=>by simp only[tl,TL.ev,tl_ev S xs,List.map_cons]
theorem rl_ev (S:Sy):∀xs,(rl xs).ev S=xs.map (RT.ev S)
 | []=>rfl
 | x :: xs=>by simp only[rl,RL.ev,rl_ev S xs,List.map_cons]
mutual
def Ot.out (self nv nr:Nat):Ot→Out
 | .ask c x y=>.ask c (x.out self nv nr) (y.out self nv nr)
 | .need c x=>.need c (x.out self nv nr)
 | .call p a r k=>.pre p (tl a) (rl r) (k.out self nv nr (bif Nat.beq p 0 then self else p) (tl a) (rl r))
 | .name te x=>.name te (x.out self nv nr)
 | .ret k v l=>.prove (self*8+k) (tlF .s 0 nv) (rlF .s 0 nr) (tl v) (rl l)
 | .two x=>.both (x.out self nv nr) (x.out self nv nr)
 | .both x y=>.both (x.out self nv nr) (y.out self nv nr)
 | .fail=>.fail
def Os.out (self nv nr p:Nat) (a:TL) (r:RL):Os→Out
 | .one mv mr k x=>.fresh mv mr (p*8+k) a r (x.out self nv nr)
 | .more mv mr k x rest=>.both (.fresh mv mr (p*8+k) a r (x.out self nv nr)) (rest.out self nv nr p a r)
end
abbrev Res:=Nat × List Value × List Rw
abbrev Phi:=Nat→List Value→List Rw→Option Res
open Classical in
noncomputable def same (a b:Option Res):Option Res:=if a=b then a else none
theorem same_self (a:Option Res):same a a=a:=by unfold same;rw[if_pos rfl]
theorem qeY {a b:Option Res} {r:Res} (h:same a b=some r):a=some r∧b=some r:=by
 unfold same at h
 split at h
 ·rename_i e;subst e;exact⟨h,h⟩
 ·cases h
mutual
noncomputable def Ot.go (F:Phi):Ot→List Value→List Rw→Option Res
 | .ask c x y,vs,ls=>match c.ev (syL vs ls) with
  | .bool true=>x.go F vs ls
  | .bool false=>y.go F vs ls
  | _=>none
 | .need c x,vs,ls=>match c.ev (syL vs ls) with
  | .bool true=>x.go F vs ls
  | _=>none
 | .call p a r k,vs,ls=>match F p (a.map (Te.ev (syL vs ls))) (r.map (RT.ev (syL vs ls))) with
  | some res=>k.go F res vs ls
  | none=>none
 | .name te x,vs,ls=>x.go F (vs++[te.ev (syL vs ls)]) ls
 | .ret k v l,vs,ls=>some (k,v.map (Te.ev (syL vs ls)),l.map (RT.ev (syL vs ls)))
 | .two x,vs,ls=>x.go F vs ls
 | .both x y,vs,ls=>same (x.go F vs ls) (y.go F vs ls)
 | .fail,_,_=>none
noncomputable def Os.go (F:Phi):Os→Res→List Value→List Rw→Option Res
 | .one _ _ k x,res,vs,ls=>if res.1=k then x.go F (vs++res.2.1) (ls++res.2.2) else none
 | .more _ _ k x rest,res,vs,ls=>if res.1=k then x.go F (vs++res.2.1) (ls++res.2.2) else rest.go F res vs ls
end
def Os.no (j:Nat):Os→Bool
 | .one _ _ k _=>!Nat.beq k j
 | .more _ _ k _ rest=>!Nat.beq k j&&rest.no j
mutual
def Ot.sm:Ot→Bool
 | .ask _ x y=>x.sm&&y.sm
 | .need _ x=>x.sm
 | .call _ _ _ k=>k.sm
 | .name _ x=>x.sm
 | .ret k _ _=>Nat.blt k 8
 | .two x=>x.sm
 | .both x y=>x.sm&&y.sm
 | .fail=>true
def Os.sm:Os→Bool
 | .one _ _ k x=>Nat.blt k 8&&x.sm
 | .more _ _ k x rest=>Nat.blt k 8&&(x.sm&&(rest.sm&&rest.no k))
end
def Phi.le (F G:Phi):Prop:=∀p vs ls res,F p vs ls=some res→G p vs ls=some res
mutual
theorem Ot.go_mono {F G:Phi} (h:F.le G):∀(x:Ot) {vs ls res},x.go F vs ls=some res→x.go G vs ls=some res
 | .ask c x y,vs,ls,res,k=>by
  simp only[Ot.go] at k ⊢
  split at k
  ·exact Ot.go_mono h x k
  ·exact Ot.go_mono h y k
  ·cases k
 | .need c x,vs,ls,res,k=>by
  simp only[Ot.go] at k ⊢
  split at k
  ·exact Ot.go_mono h x k
  ·cases k
 | .call p a r x,vs,ls,res,k=>by
  simp only[Ot.go] at k ⊢
  split at k
  ·rename_i res' e
   rw[h _ _ _ _ e]
   exact Os.go_mono h x k
  ·cases k
 | .name te x,vs,ls,res,k=>by
  simp only[Ot.go] at k ⊢
  exact Ot.go_mono h x k
 | .ret k v l,vs,ls,res,e=>e
 | .two x,vs,ls,res,k=>by
  simp only[Ot.go] at k ⊢
  exact Ot.go_mono h x k
 | .both x y,vs,ls,res,k=>by
  simp only[Ot.go] at k ⊢
  obtain⟨k1,k2⟩:=qeY k
  rw[Ot.go_mono h x k1,Ot.go_mono h y k2,same_self]
 | .fail,vs,ls,res,e=>e
theorem Os.go_mono {F G:Phi} (h:F.le G):∀(x:Os) {rs vs ls res},x.go F rs vs ls=some res→x.go G rs vs ls=some res
 | .one _ _ k x,rs,vs,ls,res,e=>by
  simp only[Os.go] at e ⊢
  split at e
  ·rename_i hk;rw[if_pos hk];exact Ot.go_mono h x e
  ·cases e
 | .more _ _ k x rest,rs,vs,ls,res,e=>by
  simp only[Os.go] at e ⊢
  split at e
  ·rename_i hk;rw[if_pos hk];exact Ot.go_mono h x e
  ·rename_i hk;rw[if_neg hk];exact Os.go_mono h rest e
end
def qbO (F:Phi) (self:Nat):Phi:=fun p=>F (if p=0 then self else p)
noncomputable def phi (tr:Nat→Ot):Nat→Phi
 | 0=>fun _ _ _=>none
 | n+1=>fun p vs ls=>(tr p).go (qbO (phi tr n) p) vs ls
theorem qdE {F G:Phi} (h:F.le G) (self:Nat):(qbO F self).le (qbO G self):=fun p vs ls res k=>h _ _ _ _ k
theorem phi_succ (tr:Nat→Ot):∀n,(phi tr n).le (phi tr (n+1))
 | 0=>fun p vs ls res h=>by cases h
 | n+1=>fun p vs ls res h=>Ot.go_mono (qdE (phi_succ tr n) p) (tr p) h
theorem qfv (tr:Nat→Ot) {n m:Nat} (h:n≤m):(phi tr n).le (phi tr m):=by
 induction h with
 | refl=>exact fun _ _ _ _ k=>k
 | step h ih=>exact fun p vs ls res k=>phi_succ tr _ _ _ _ _ (ih _ _ _ _ k)
theorem qcw (tr:Nat→Ot) {n m p:Nat} {vs:List Value} {ls:List Rw} {r r':Res} (h:phi tr n p vs ls=some r) (h':phi tr m p vs ls=some r'):r=r':=by
 have h1:=qfv tr (Nat.le_max_left n m) _ _ _ _ h
 have h2:=qfv tr (Nat.le_max_right n m) _ _ _ _ h'
 rw[h1] at h2
 exact Option.some.inj h2
open Classical in
noncomputable def fin (tr:Nat→Ot):Phi:=fun p vs ls=>if h:∃n r,phi tr n p vs ls=some r then some h.choose_spec.choose else none
theorem fin_of (tr:Nat→Ot) {n p:Nat} {vs:List Value} {ls:List Rw} {r:Res} (h:phi tr n p vs ls=some r):fin tr p vs ls=some r:=by
 have hx:∃n r,phi tr n p vs ls=some r:=⟨n,r,h⟩
 unfold fin
 rw[dif_pos hx]
 exact congrArg some (qcw tr hx.choose_spec.choose_spec h)
theorem of_fin (tr:Nat→Ot) {p:Nat} {vs:List Value} {ls:List Rw} {r:Res} (h:fin tr p vs ls=some r):∃n,phi tr n p vs ls=some r:=by
 unfold fin at h
 split at h
 ·rename_i hx
  cases h
  exact⟨_,hx.choose_spec.choose_spec⟩
 ·cases h
mutual
theorem Ot.go_fin (tr:Nat→Ot) (self:Nat):∀(x:Ot) {vs ls res},x.go (qbO (fin tr) self) vs ls=some res→∃n,x.go (qbO (phi tr n) self) vs ls=some res
 | .ask c x y,vs,ls,res,k=>by
  simp only[Ot.go] at k ⊢
  split at k
  ·exact Ot.go_fin tr self x k
  ·exact Ot.go_fin tr self y k
  ·cases k
 | .need c x,vs,ls,res,k=>by
  simp only[Ot.go] at k ⊢
  split at k
  ·exact Ot.go_fin tr self x k
  ·cases k
 | .call p a r x,vs,ls,res,k=>by
  simp only[Ot.go] at k ⊢
  split at k
  ·rename_i res' e
   obtain⟨n,hn⟩:=of_fin tr (show fin tr _ _ _=some res' from e)
   obtain⟨m,hm⟩:=Os.go_fin tr self x k
   refine⟨max n m,?_⟩
   have e1:qbO (phi tr (max n m)) self p (a.map (Te.ev (syL vs ls))) (r.map (RT.ev (syL vs ls)))=some res':=qfv tr (Nat.le_max_left n m) _ _ _ _ hn
   rw[e1]
   exact Os.go_mono (qdE (qfv tr (Nat.le_max_right n m)) self) x hm
  ·cases k
 | .name te x,vs,ls,res,k=>by
  simp only[Ot.go] at k ⊢
  exact Ot.go_fin tr self x k
 | .ret k v l,vs,ls,res,e=>⟨0,e⟩
 | .two x,vs,ls,res,k=>by
  simp only[Ot.go] at k ⊢
  exact Ot.go_fin tr self x k
 | .both x y,vs,ls,res,k=>by
  simp only[Ot.go] at k ⊢
  obtain⟨k1,k2⟩:=qeY k
  obtain⟨n,hn⟩:=Ot.go_fin tr self x k1
  obtain⟨m,hm⟩:=Ot.go_fin tr self y k2
  refine⟨max n m,?_⟩
  rw[Ot.go_mono (qdE (qfv tr (Nat.le_max_left n m)) self) x hn,Ot.go_mono (qdE (qfv tr (Nat.le_max_right n m)) self) y hm,same_self]
 | .fail,vs,ls,res,e=>by cases e
theorem Os.go_fin (tr:Nat→Ot) (self:Nat):∀(x:Os) {rs vs ls res},x.go (qbO (fin tr) self) rs vs ls=some res→∃n,x.go (qbO (phi tr n) self) rs vs ls=some res
 | .one _ _ k x,rs,vs,ls,res,e=>by
  simp only[Os.go] at e ⊢
  split at e
  ·rename_i hk;simp only[if_pos hk];exact Ot.go_fin tr self x e
  ·cases e
 | .more _ _ k x rest,rs,vs,ls,res,e=>by
  simp only[Os.go] at e ⊢
  split at e
  ·rename_i hk;simp only[if_pos hk];exact Ot.go_fin tr self x e
  ·rename_i hk;simp only[if_neg hk];exact Os.go_fin tr self rest e
end
theorem qaa (tr:Nat→Ot) {p:Nat} {vs:List Value} {ls:List Rw} {r:Res} (h:(tr p).go (qbO (fin tr) p) vs ls=some r):fin tr p vs ls=some r:=by
 obtain⟨n,hn⟩:=Ot.go_fin tr p (tr p) h
 exact fin_of tr (n:=n+1) hn
theorem syL_take {vs0 t:List Value} {ls0 u:List Rw}:(tlF .s 0 vs0.length).ev (syL (vs0++t) (ls0++u))=vs0∧(rlF .s 0 ls0.length).ev (syL (vs0++t) (ls0++u))=ls0:=by
 constructor
 ·rw[qgH]
  apply List.ext_getElem
  ·simp
  ·intro i h1 h2
   simp[Te.ev,syL,List.getD_eq_getElem?_getD,List.getElem?_append_left h2,List.getElem?_eq_getElem h2]
 ·rw[qgA]
  apply List.ext_getElem
  ·simp
  ·intro i h1 h2
   simp[RT.ev,syL,List.getD_eq_getElem?_getD,List.getElem?_append_left h2,List.getElem?_eq_getElem h2]
structure Means (C:Cfg) (F:Phi) (me:Nat):Prop where
 pre:∀p a r res,F p a r=some res→C.pre p a r
 fact:∀p k a r vs ls res,k < 8→C.fact ((if p=0 then me else p)*8+k) a r vs ls→F p a r=some res→res=(k,vs,ls)
theorem Os.okL_no {C:Cfg} {F:Phi} {self nv nr p:Nat} (hM:Means C F self) {vs:List Value} {ls:List Rw} {a:TL} {r:RL} {rs:Res} (e:F p (a.ev (syL vs ls)) (r.ev (syL vs ls))=some rs):∀(x:Os),x.sm=true→x.no rs.1=true→(x.out self nv nr (if p=0 then self else p) a r).OkL C vs ls
 | .one mv mr k x,hs,hn=>by
  simp only[Os.sm,Bool.and_eq_true,Nat.blt_eq] at hs
  intro vs' ls' hv hl hfa
  have:=hM.fact _ _ _ _ _ _ _ hs.1 hfa e
  subst this
  simp[Os.no] at hn
 | .more mv mr k x rest,hs,hn=>by
  simp only[Os.sm,Bool.and_eq_true,Nat.blt_eq] at hs
  simp only[Os.no,Bool.and_eq_true] at hn
  refine⟨fun vs' ls' hv hl hfa=>?_,Os.okL_no hM e rest hs.2.2.1 hn.2⟩
  have:=hM.fact _ _ _ _ _ _ _ hs.1 hfa e
  subst this
  simp at hn
mutual
theorem Ot.okL {C:Cfg} {F:Phi} {self:Nat} (hM:Means C F self) {vs0:List Value} {ls0:List Rw}:∀(x:Ot) {t:List Value} {u:List Rw} {res:Res},x.sm=true→x.go F (vs0++t) (ls0++u)=some res→C.fact (self*8+res.1) vs0 ls0 res.2.1 res.2.2→(x.out self vs0.length ls0.length).OkL C (vs0++t) (ls0++u)
 | .ask c x y,t,u,res,hs,h,hf=>by
  simp only[Ot.sm,Bool.and_eq_true] at hs
  simp only[Ot.go] at h
  split at h
  ·rename_i hc
   exact⟨fun _=>Ot.okL hM x hs.1 h hf,fun hc'=>absurd (hc.symm.trans hc') (by simp)⟩
  ·rename_i hc
   exact⟨fun hc'=>absurd (hc.symm.trans hc') (by simp),fun _=>Ot.okL hM y hs.2 h hf⟩
  ·cases h
 | .need c x,t,u,res,hs,h,hf=>by
  simp only[Ot.sm] at hs
  simp only[Ot.go] at h
  split at h
  ·rename_i hc
   exact⟨hc,Ot.okL hM x hs h hf⟩
  ·cases h
 | .call p a r x,t,u,res,hs,h,hf=>by
  simp only[Ot.sm] at hs
  simp only[Ot.go] at h
  split at h
  ·rename_i res' e
   rw[←tl_ev,←rl_ev] at e
   refine⟨hM.pre _ _ _ _ e,?_⟩
   have:=Os.okL hM x (p:=p) (a:=tl a) (r:=rl r) hs e h hf
   rw[qaz,qau]
   exact this
  ·cases h
 | .name te x,t,u,res,hs,h,hf=>by
  simp only[Ot.sm] at hs
  simp only[Ot.go] at h
  show(x.out self vs0.length ls0.length).OkL C (vs0++t++[te.ev (syL (vs0++t) (ls0++u))]) (ls0++u)
  rw[List.append_assoc] at h ⊢
  exact Ot.okL hM x hs h hf
 | .ret k v l,t,u,res,hs,h,hf=>by
  simp only[Ot.go] at h
  cases h
  show C.fact _ _ _ _ _
  rw[syL_take.1,syL_take.2,tl_ev,rl_ev]
  exact hf
 | .two x,t,u,res,hs,h,hf=>by
  simp only[Ot.sm] at hs
  simp only[Ot.go] at h
  exact⟨Ot.okL hM x hs h hf,Ot.okL hM x hs h hf⟩
 | .both x y,t,u,res,hs,h,hf=>by
  simp only[Ot.sm,Bool.and_eq_true] at hs
  simp only[Ot.go] at h
  obtain⟨h1,h2⟩:=qeY h
  exact⟨Ot.okL hM x hs.1 h1 hf,Ot.okL hM y hs.2 h2 hf⟩
 | .fail,t,u,res,hs,h,hf=>by cases h
theorem Os.okL {C:Cfg} {F:Phi} {self:Nat} (hM:Means C F self) {vs0:List Value} {ls0:List Rw} {p:Nat} {a:TL} {r:RL}:∀(x:Os) {t:List Value} {u:List Rw} {res rs:Res},x.sm=true→F p (a.ev (syL (vs0++t) (ls0++u))) (r.ev (syL (vs0++t) (ls0++u)))=some rs→x.go F rs (vs0++t) (ls0++u)=some res→C.fact (self*8+res.1) vs0 ls0 res.2.1 res.2.2→(x.out self vs0.length ls0.length (if p=0 then self else p) a r).OkL C (vs0++t) (ls0++u)
 | .one mv mr k x,t,u,res,rs,hs,e,h,hf=>by
  simp only[Os.sm,Bool.and_eq_true,Nat.blt_eq] at hs
  simp only[Os.go] at h
  intro vs' ls' hv hl hfa
  have:=hM.fact _ _ _ _ _ _ _ hs.1 hfa e
  subst this
  rw[if_pos rfl] at h
  rw[List.append_assoc,List.append_assoc] at h ⊢
  exact Ot.okL hM x hs.2 h hf
 | .more mv mr k x rest,t,u,res,rs,hs,e,h,hf=>by
  simp only[Os.sm,Bool.and_eq_true,Nat.blt_eq] at hs
  simp only[Os.go] at h
  by_cases hk:rs.1=k
  ·rw[if_pos hk] at h
   refine⟨fun vs' ls' hv hl hfa=>?_,Os.okL_no hM e rest hs.2.2.1 (by rw[hk];exact hs.2.2.2)⟩
   have:=hM.fact _ _ _ _ _ _ _ hs.1 hfa e
   subst this
   rw[List.append_assoc,List.append_assoc] at h ⊢
   exact Ot.okL hM x hs.2.1 h hf
  ·rw[if_neg hk] at h
   refine⟨fun vs' ls' hv hl hfa=>?_,Os.okL hM rest hs.2.2.1 e h hf⟩
   have:=hM.fact _ _ _ _ _ _ _ hs.1 hfa e
   subst this
   exact absurd rfl hk
end
def Cfg.lv (C:Cfg) (tr:Nat→Ot) (n:Nat):Cfg :=
 { C with pre:=fun p vs ls=>∃r,phi tr n p vs ls=some r,fact:=fun id a r vs ls=>∃m,phi tr m (id / 8) a r=some (id % 8,vs,ls) }
def Cfg.pf (C:Cfg) (pre:Nat→List Value→List Rw→Prop) (fact:Nat→List Value→List Rw→List Value→List Rw→Prop):Cfg:={ C with pre:=pre,fact:=fact }
structure qaw (C:Cfg) (d:Db) (tr:Nat→Ot) (f:Nat) (s:Sum):Prop where
 pid:2≤s.pid
 run:∃F lf n,C.fn f=some F∧∀pre fact,runF ((C.pf pre fact).db d) lf n f F s=(tr s.pid).out s.pid s.nv s.nr
 bo:bO s.nv s.nr ((tr s.pid).out s.pid s.nv s.nr)=true
 sm:(tr s.pid).sm=true
structure qbj (C:Cfg) (d:Db) (tr:Nat→Ot) (f id:Nat) (s:Sum):Prop where
 pid:2≤s.pid
 run:∃F c x lf n,C.fn f=some F∧F.body=some c∧only id (qaC c)=[.block id (.loop x)]∧∀pre fact,runL ((C.pf pre fact).db d) lf n F.ntmps f x (s.rec' 1) (s.rec' 0) id=(tr s.pid).out s.pid s.nv s.nr
 bo:bO s.nv s.nr ((tr s.pid).out s.pid s.nv s.nr)=true
 sm:(tr s.pid).sm=true
 len:∀al∈s.outs,al.res.length=al.sl.length
 nodup:s.sl.Nodup
structure CtIn (C:Cfg) (d:Db) (tr:Nat→Ot) (f id:Nat) (s:Sum):Prop where
 pid:2≤s.pid
 run:∃F c x lf n,C.fn f=some F∧F.body=some c∧only id (qaC c)=[x]∧∀pre fact,runC ((C.pf pre fact).db d) lf n F.ntmps f x (s.rec' 1)=(tr s.pid).out s.pid s.nv s.nr
 bo:bO s.nv s.nr ((tr s.pid).out s.pid s.nv s.nr)=true
 sm:(tr s.pid).sm=true
 len:∀al∈s.outs,al.res.length=al.sl.length
structure FnBy (C:Cfg) (d:Db) (tr:Nat→Ot) (f:Nat) (s:Sum):Prop where
 pid:2≤s.pid
 told:∀n,DbOk (C.lv tr n) d→qcA (C.lv tr (n+1)) f s
structure Tab (C:Cfg) (d:Db) (tr:Nat→Ot):Prop where
 ok:C.Ok
 one:tr 1=.fail
 fns:∀p∈d.sums,qaw C d tr p.1 p.2∨FnBy C d tr p.1 p.2
 lps:∀p∈d.lps,qbj C d tr p.f p.id p.s∨CtIn C d tr p.f p.id p.s
theorem Tab.fpid {C:Cfg} {d:Db} {tr:Nat→Ot} (h:Tab C d tr) {p:Nat × Sum} (hp:p∈d.sums):2≤p.2.pid:=(h.fns p hp).elim (fun h=>h.pid) (fun h=>h.pid)
theorem Tab.lpid {C:Cfg} {d:Db} {tr:Nat→Ot} (h:Tab C d tr) {p:Lp} (hp:p∈d.lps):2≤p.s.pid:=(h.lps p hp).elim (fun h=>h.pid) (fun h=>h.pid)
section
variable {C:Cfg} {d:Db} {tr:Nat→Ot} {fr:Fr} {E E0:Env} {w0:Ws} {w w':World} {s:Sum}
mutual
theorem Ot.go_sm {F:Phi}:∀(x:Ot) {vs ls res},x.sm=true→x.go F vs ls=some res→res.1 < 8
 | .ask c x y,vs,ls,res,hs,k=>by
  simp only[Ot.sm,Bool.and_eq_true] at hs
  simp only[Ot.go] at k
  split at k
  ·exact Ot.go_sm x hs.1 k
  ·exact Ot.go_sm y hs.2 k
  ·cases k
 | .need c x,vs,ls,res,hs,k=>by
  simp only[Ot.sm] at hs
  simp only[Ot.go] at k
  split at k
  ·exact Ot.go_sm x hs k
  ·cases k
 | .call p a r x,vs,ls,res,hs,k=>by
  simp only[Ot.sm] at hs
  simp only[Ot.go] at k
  split at k
  ·exact Os.go_sm x hs k
  ·cases k
 | .name te x,vs,ls,res,hs,k=>by
  simp only[Ot.sm] at hs
  simp only[Ot.go] at k
  exact Ot.go_sm x hs k
 | .ret k v l,vs,ls,res,hs,e=>by
  simp only[Ot.sm,Nat.blt_eq] at hs
  simp only[Ot.go] at e
  cases e
  exact hs
 | .two x,vs,ls,res,hs,k=>by
  simp only[Ot.sm] at hs
  simp only[Ot.go] at k
  exact Ot.go_sm x hs k
 | .both x y,vs,ls,res,hs,k=>by
  simp only[Ot.sm,Bool.and_eq_true] at hs
  simp only[Ot.go] at k
  exact Ot.go_sm x hs.1 (qeY k).1
 | .fail,vs,ls,res,hs,e=>by cases e
theorem Os.go_sm {F:Phi}:∀(x:Os) {rs vs ls res},x.sm=true→x.go F rs vs ls=some res→res.1 < 8
 | .one _ _ k x,rs,vs,ls,res,hs,e=>by
  simp only[Os.sm,Bool.and_eq_true] at hs
  simp only[Os.go] at e
  split at e
  ·exact Ot.go_sm x hs.2 e
  ·cases e
 | .more _ _ k x rest,rs,vs,ls,res,hs,e=>by
  simp only[Os.sm,Bool.and_eq_true] at hs
  simp only[Os.go] at e
  split at e
  ·exact Ot.go_sm x hs.2.1 e
  ·exact Os.go_sm rest hs.2.2.1 e
end
theorem qdk {tr:Nat→Ot} {p k:Nat} {a:List Value} {r:List Rw} {vs:List Value} {ls:List Rw} (hk:k < 8):(C.lv tr 0).fact (p*8+k) a r vs ls↔∃m,phi tr m p a r=some (k,vs,ls):=by
 show(∃m,phi tr m ((p*8+k) / 8) a r=some ((p*8+k) % 8,vs,ls))↔_
 rw[show(p*8+k) / 8=p by omega,show(p*8+k) % 8=k by omega]
theorem qda {C':Cfg} {f:Nat} (hP:C.P=C'.P) (hf:C.fact=C'.fact) (hp:∀vs ls,C'.pre s.pid vs ls→C.pre s.pid vs ls) (h:qcA C f s):qcA C' f s:=by
 intro fr w0 w E0 vs a1 a2 a3 a4 a5 a6
 rw[←hP]
 refine(h fr w0 w E0 vs a1 a2 a3 a4 a5 (hp _ _ a6)).mono ?_
 rintro e w' ⟨al,hal,E1,v,r,b1,b2,b3,b4⟩
 exact⟨al,hal,E1,v,r,b1,b2,b3,qcY hf b4⟩
theorem qcj {C':Cfg} {N:Nat} {c:Code} {s':Sum} (hs:s'={ s with pid:=s'.pid }) (hP:C.P=C'.P) (hf:C.fact=C'.fact) (hp:∀vs ls,C'.pre s'.pid vs ls→C.pre s.pid vs ls) (h:qcR C N c s):qcR C' N c s':=by
 intro fr w0 w E0 a a1 a2 a3 a4 a5 a6 a7 a8
 rw[←hP]
 rw[hs] at a1 a2 a3 a4 a5 a7 a8
 refine wp_mono (h fr w0 w E0 a a1 a2 a3 a4 a5 (hp _ _ (by rw[hs] at a6;exact a6)) a7 a8) ?_
 intro e a' w' hq
 have key:∀e1,(∃al∈s.outs,al.ex=e1∧∃E1,qbW C fr w0 s E0 al E1 w'∧al.res.length=al.sl.length∧RelT E1 N (qcM al.sl al.res) a')→∃al∈s'.outs,al.ex=e1∧∃E1,qbW C' fr w0 s' E0 al E1 w'∧al.res.length=al.sl.length∧RelT E1 N (qcM al.sl al.res) a':=by
  rintro e1 ⟨al,b1,b2,E1,b3,b4,b5⟩
  rw[hs]
  exact⟨al,b1,b2,E1,qcY hf b3,b4,b5⟩
 cases e with
 | normal=>exact key _ hq
 | exit j=>exact key _ hq
 | ret=>exact key _ hq
 | goto l=>exact hq.elim
 | panic c=>exact hq.elim
 | outgrown=>exact hq.elim
theorem qbi:∀(c:Code) {id:Nat} {x:Code},(id,x)∈qaC c→∀q∈qaC x,q∈qaC c
 | .seq x y,id,z,h,q,hq=>by
  rcases List.mem_cons.1 h with h | h
  ·cases h;exact hq
  ·refine List.mem_cons_of_mem _ ?_
   rcases List.mem_append.1 h with h | h
   ·exact List.mem_append_left _ (qbi x h q hq)
   ·exact List.mem_append_right _ (qbi y h q hq)
 | .cond _ x y,id,z,h,q,hq=>by
  rcases List.mem_append.1 h with h | h
  ·exact List.mem_append_left _ (qbi x h q hq)
  ·exact List.mem_append_right _ (qbi y h q hq)
 | .block i x,id,z,h,q,hq=>by
  rcases List.mem_cons.1 h with h | h
  ·cases h;exact hq
  ·exact List.mem_cons_of_mem _ (qbi x h q hq)
 | .loop x,id,z,h,q,hq=>qbi x h q hq
 | .skip,id,z,h,q,hq=>by cases h
 | .region ..,id,z,h,q,hq=>by cases h
 | .exit ..,id,z,h,q,hq=>by cases h
 | .ret,id,z,h,q,hq=>by cases h
 | .scope ..,id,z,h,q,hq=>by cases h
 | .label ..,id,z,h,q,hq=>by cases h
 | .goto ..,id,z,h,q,hq=>by cases h
 | .refuse ..,id,z,h,q,hq=>by cases h
 | .rangeFunc ..,id,z,h,q,hq=>by cases h
theorem only_of {id:Nat} {x:Code}:∀{l:List (Nat × Code)},only id l=[x]→(id,x)∈l
 | p :: l,h=>by
  simp only[only] at h
  cases hb:Nat.beq p.1 id with
  | true =>
   rw[hb,cond_true] at h
   obtain rfl:=Nat.eq_of_beq_eq_true hb
   injection h with h1 h2
   rw[←h1]
   exact List.mem_cons_self
  | false =>
   rw[hb,cond_false] at h
   exact List.mem_cons_of_mem _ (only_of h)
theorem lv_fnO (hO:C.Ok) {n:Nat} (hd:DbOk (C.lv tr n) d) {f:Nat} (hin:qaw C d tr f s):qcA (C.lv tr (n+1)) f s:=by
 obtain⟨F,lf,k,hF,hrun⟩:=hin.run
 intro fr w0 w E0 vs hn hm hH hl hr hpre
 obtain⟨res,hres⟩:∃r,phi tr (n+1) s.pid (qcI E0.q s.nv) (qaL E0.q s.nr)=some r:=hpre
 have h8:=Ot.go_sm _ hin.sm (show(tr s.pid).go (qbO (phi tr n) s.pid) _ _=some res from hres)
 have hM:Means (((C.lv tr n).rc (fun a r=>∃x,phi tr n s.pid a r=some x)).db d) (qbO (phi tr n) s.pid) s.pid:=by
  refine⟨fun p a r x hx=>?_,fun p q a r v l x hq hf hx=>?_⟩
  ·by_cases hp:p=0
   ·subst hp
    exact⟨x,hx⟩
   ·show((C.lv tr n).rc _).pre p a r
    rw[rc_pre hp]
    exact⟨x,by simpa [qbO,hp] using hx⟩
  ·obtain⟨m,hm'⟩:=(qdk (C:=C) hq).1 hf
   exact qcw tr (show phi tr n (if p=0 then s.pid else p) a r=some x from hx) hm'
 have hlen:(qcI E0.q s.nv).length=s.nv:=by simp[qcI]
 have hlen2:(qaL E0.q s.nr).length=s.nr:=by simp[qaL]
 have hokL:=Ot.okL hM (vs0:=qcI E0.q s.nv) (ls0:=qaL E0.q s.nr) (tr s.pid) (t:=[]) (u:=[]) hin.sm (by rw[List.append_nil,List.append_nil];exact hres) ((qdk (C:=C) h8).2 ⟨n+1,hres⟩)
 rw[List.append_nil,List.append_nil,hlen,hlen2] at hokL
 have hOk:(runF (((C.lv tr n).rc (fun a r=>∃x,phi tr n s.pid a r=some x)).db d) lf k f F s).Ok (((C.lv tr n).rc (fun a r=>∃x,phi tr n s.pid a r=some x)).db d) (fun _ _ _ _=>True) E0.q:=by
  have e:=hrun ((C.lv tr n).rc (fun a r=>∃x,phi tr n s.pid a r=some x)).pre (C.lv tr n).fact
  have e2:runF (((C.lv tr n).rc (fun a r=>∃x,phi tr n s.pid a r=some x)).db d) lf k f F s=(tr s.pid).out s.pid s.nv s.nr:=e
  rw[e2]
  refine qdA _ E0.q _ _ (by rw[hn,hm];exact hin.bo) (by rw[hlen,hn]) (by rw[hlen2,hm]) ?_ hokL
  rw[←hn,←hm]
  exact q_has E0.q
 have hC:(((C.lv tr n).rc (fun a r=>∃x,phi tr n s.pid a r=some x)).db d).Ok:=⟨hO.ty,hO.fn,hO.mixed,hO.eqs⟩
 have hTd:=(hd.rc (fun a r=>∃x,phi tr n s.pid a r=some x)).told
 obtain⟨d1,d2⟩:=H0_def hH
 refine(funT_ok hC (qgo hC hTd k) hTd.sums hF (fun c hc=>hTd.loops f F c hF hc) hOk hH hl hr).mono ?_
 rintro e w' ⟨E',v,r,H',rfl,hle,hv,hH',hk⟩
 obtain⟨al,hal,_,_,E1,ht,hlen,hrel⟩:=endT_ok (usOf:=fun _=>[v]) hH' hle ⟨hn,hm⟩ d1 d2 (fun al xs hx=>by cases hx;exact⟨rfl,fun j x u hx hu=>by
  cases j with
  | zero=>simp at hx hu;subst hx hu;exact hv
  | succ j=>simp at hx⟩) s.outs hk
 match hres:al.res,hlen with
 | [r1],_=>exact⟨al,hal,E1,v,r1,rfl,hres,hrel 0 r1 v (by rw[hres];rfl) rfl,qcY rfl ht⟩
theorem lv_fn (hT:Tab C d tr) {n:Nat} (hd:DbOk (C.lv tr n) d) {f:Nat} (hin:qaw C d tr f s):qcA (C.lv tr (n+1)) f s:=lv_fnO hT.ok hd hin
theorem dbOk_cfg {C':Cfg} (hP:C.P=C'.P) (hfn:C.fn=C'.fn) {n:Nat} (hd:DbOk (C.lv tr n) d):DbOk (C'.lv tr n) d:=by
 refine⟨fun p hp=>⟨(hd.sums p hp).pid,qda (C:=C.lv tr n) hP rfl (fun _ _ h=>h) (hd.sums p hp).ok⟩,fun p hp=>⟨(hd.lps p hp).pid,?_⟩⟩
 obtain⟨F,c,x,h1,h2,h3,h4⟩:=(hd.lps p hp).ok
 exact⟨F,c,x,by rw[←h1];show C'.fn _=C.fn _;rw[hfn],h2,h3,qcj (C:=C.lv tr n) rfl hP rfl (fun _ _ h=>h) h4⟩
theorem fnBy_of {C':Cfg} {f:Nat} (hP:C'.P=C.P) (hfn:C'.fn=C.fn) (hO:C'.Ok) (h:qaw C' d tr f s):FnBy C d tr f s :=
 ⟨h.pid,fun n hd=>qda (C:=C'.lv tr (n+1)) hP rfl (fun _ _ h=>h) (lv_fnO hO (dbOk_cfg hP.symm hfn.symm hd) h)⟩
theorem least {p:Nat→Prop}:∀(n:Nat),p n→∃m,m≤n∧p m∧∀k,p k→m≤k:=by
 intro n
 induction n using Nat.strongRecOn with
 | ind n ih =>
  intro h
  by_cases hk:∃k,k < n∧p k
  ·obtain⟨k,hlt,hp⟩:=hk
   obtain⟨m,h1,h2,h3⟩:=ih k hlt hp
   exact⟨m,by omega,h2,h3⟩
  ·exact⟨n,Nat.le_refl _,h,fun k hp=>by
    rcases Nat.lt_or_ge k n with h4 | h4
    ·exact absurd ⟨k,h4,hp⟩ hk
    ·exact h4⟩
open Classical in
noncomputable def fuel (tr:Nat→Ot) (p:Nat) (vs:List Value) (ls:List Rw):Nat:=if h:∃m,(∃r,phi tr m p vs ls=some r)∧∀k,(∃r,phi tr k p vs ls=some r)→m≤k then h.choose else 0
theorem fuel_le {p n:Nat} {vs:List Value} {ls:List Rw} {r:Res} (h:phi tr n p vs ls=some r):fuel tr p vs ls≤n∧∃r,phi tr (fuel tr p vs ls) p vs ls=some r:=by
 have hx:∃m,(∃r,phi tr m p vs ls=some r)∧∀k,(∃r,phi tr k p vs ls=some r)→m≤k:=by
  obtain⟨m,_,h2,h3⟩:=least (p:=fun m=>∃r,phi tr m p vs ls=some r) n ⟨r,h⟩
  exact⟨m,h2,h3⟩
 unfold fuel
 rw[dif_pos hx]
 exact⟨hx.choose_spec.2 n ⟨r,h⟩,hx.choose_spec.1⟩
theorem lv_lp (hT:Tab C d tr) {n:Nat} (hd:DbOk (C.lv tr n) d) {f id:Nat} (hin:qbj C d tr f id s):∃F c x,C.fn f=some F∧F.body=some c∧only id (qaC c)=[x]∧qcR (C.lv tr (n+1)) F.ntmps x s:=by
 obtain⟨F,c,x,lf,k,hF,hc,ho,hrun⟩:=hin.run
 refine⟨F,c,_,hF,hc,ho,?_⟩
 have hpid:s.pid≠0∧s.pid≠1:=by have:=hin.pid;omega
 let P1:List Value→List Rw→Prop:=fun vs ls=>∃r,phi tr (n+1) s.pid vs ls=some r
 let preM:Nat→Nat→List Value→List Rw→Prop:=fun m p vs ls=>if p=0 then P1 vs ls∧fuel tr s.pid vs ls < m else if p=1 then P1 vs ls else (C.lv tr n).pre p vs ls
 have hTd:∀m,DbOk { (C.lv tr n) with pre:=preM m } d:=fun m=>by
  refine⟨fun p hp=>⟨(hd.sums p hp).pid,qda (C:=C.lv tr n) rfl rfl (fun vs ls h=>?_) (hd.sums p hp).ok⟩,fun p hp=>⟨(hd.lps p hp).pid,?_⟩⟩
  ·have h2:=hT.fpid hp
   simpa [preM,show p.2.pid≠0 by omega,show p.2.pid≠1 by omega] using h
  ·obtain⟨F',c',x',h1,h2,h3,h4⟩:=(hd.lps p hp).ok
   refine⟨F',c',x',h1,h2,h3,qcj (C:=C.lv tr n) rfl rfl rfl (fun vs ls h=>?_) h4⟩
   have h2:=hT.lpid hp
   simpa [preM,show p.s.pid≠0 by omega,show p.s.pid≠1 by omega] using h
 have key:∀m,qcR { ((C.lv tr n).db d) with pre:=preM m } F.ntmps (.block id (.loop x)) (s.rec' 1):=by
  refine loop_of_run (s:=s.rec' 1) (C0:=(C.lv tr n).db d) (preM:=preM) (mu:=fuel tr s.pid) (pid':=0) (fun m=>⟨hT.ok.ty,hT.ok.fn,hT.ok.mixed,hT.ok.eqs⟩) (fun m=>(hTd m).told) (fun m m' vs ls hh=>?_) (fun m vs ls hh=>?_) lf k F.ntmps f id x (fun m p hp=>?_) hin.len hin.nodup ?_
  ·simpa [preM,Sum.rec'] using hh
  ·simpa [preM,Sum.rec'] using hh
  ·exact(hTd m).told.loops f F c hF hc p (qbi c (only_of ho) p (List.mem_cons_of_mem _ hp))
  ·intro m q hn hm hp hmu
   obtain⟨r0,hr0⟩:P1 (qcI q s.nv) (qaL q s.nr):=by simpa [preM,Sum.rec'] using hp
   obtain⟨hle,res,hres⟩:=fuel_le hr0
   rw[show fuel tr s.pid (qcI q s.nv) (qaL q s.nr)=m from hmu] at hle hres
   cases m with
   | zero=>cases hres
   | succ j =>
    have h8:=Ot.go_sm _ hin.sm (show(tr s.pid).go (qbO (phi tr j) s.pid) _ _=some res from hres)
    have hM:Means ({ ((C.lv tr n).db d) with pre:=preM (j+1) }:Cfg) (qbO (phi tr j) s.pid) s.pid:=by
     refine⟨fun p a r x hx=>?_,fun p q a r v l x hq hf hx=>?_⟩
     ·by_cases hp:p=0
      ·subst hp
       have hx:phi tr j s.pid a r=some x:=hx
       have:=fuel_le hx
       exact⟨⟨x,qfv tr (by omega) _ _ _ _ hx⟩,by omega⟩
      ·have hx:phi tr j p a r=some x:=by simpa [qbO,hp] using hx
       by_cases hp1:p=1
       ·subst hp1
        cases j with
        | zero=>cases hx
        | succ j =>
         have:(tr 1).go (qbO (phi tr j) 1) a r=some x:=hx
         rw[hT.one] at this
         cases this
       ·show preM _ p a r
        simp only[preM,if_neg hp,if_neg hp1]
        exact⟨x,qfv tr (by omega) _ _ _ _ hx⟩
     ·obtain⟨m,hm'⟩:=(qdk (C:=C) hq).1 hf
      exact qcw tr (show phi tr j (if p=0 then s.pid else p) a r=some x from hx) hm'
    have hlen:(qcI q s.nv).length=s.nv:=by simp[qcI]
    have hlen2:(qaL q s.nr).length=s.nr:=by simp[qaL]
    have hokL:=Ot.okL hM (vs0:=qcI q s.nv) (ls0:=qaL q s.nr) (tr s.pid) (t:=[]) (u:=[]) hin.sm (by rw[List.append_nil,List.append_nil];exact hres) ((qdk (C:=C) h8).2 ⟨j+1,hres⟩)
    rw[List.append_nil,List.append_nil,hlen,hlen2] at hokL
    have e2:runL ({ ((C.lv tr n).db d) with pre:=preM (j+1) }:Cfg) lf k F.ntmps f x (s.rec' 1) ((s.rec' 1).rec' 0) id=(tr s.pid).out s.pid s.nv s.nr:=hrun (preM (j+1)) (C.lv tr n).fact
    rw[e2]
    have hn:q.n=s.nv:=hn
    have hm:q.m=s.nr:=hm
    refine qdA _ q _ _ (by rw[hn,hm];exact hin.bo) (by rw[hlen,hn]) (by rw[hlen2,hm]) ?_ hokL
    rw[←hn,←hm]
    exact q_has q
 refine qcj (C:={ ((C.lv tr n).db d) with pre:=preM 0 }) (s:=s.rec' 1) (s':=s) rfl rfl rfl (fun vs ls h=>?_) (key 0)
 show preM 0 1 vs ls
 simp only[preM,if_neg (show ¬(1:Nat)=0 by decide),if_true]
 exact h
theorem lv_ct (hT:Tab C d tr) {n:Nat} (hd:DbOk (C.lv tr n) d) {f id:Nat} (hin:CtIn C d tr f id s):∃F c x,C.fn f=some F∧F.body=some c∧only id (qaC c)=[x]∧qcR (C.lv tr (n+1)) F.ntmps x s:=by
 obtain⟨F,c,x,lf,k,hF,hc,ho,hrun⟩:=hin.run
 refine⟨F,c,x,hF,hc,ho,?_⟩
 have hpid:s.pid≠0∧s.pid≠1:=by have:=hin.pid;omega
 let P1:List Value→List Rw→Prop:=fun vs ls=>∃r,phi tr (n+1) s.pid vs ls=some r
 let preM:Nat→List Value→List Rw→Prop:=fun p vs ls=>if p=0 then ∃r,phi tr n s.pid vs ls=some r else if p=1 then P1 vs ls else (C.lv tr n).pre p vs ls
 have hTd:DbOk { (C.lv tr n) with pre:=preM } d:=by
  refine⟨fun p hp=>⟨(hd.sums p hp).pid,qda (C:=C.lv tr n) rfl rfl (fun vs ls h=>?_) (hd.sums p hp).ok⟩,fun p hp=>⟨(hd.lps p hp).pid,?_⟩⟩
  ·have h2:=hT.fpid hp
   simpa [preM,show p.2.pid≠0 by omega,show p.2.pid≠1 by omega] using h
  ·obtain⟨F',c',x',h1,h2,h3,h4⟩:=(hd.lps p hp).ok
   refine⟨F',c',x',h1,h2,h3,qcj (C:=C.lv tr n) rfl rfl rfl (fun vs ls h=>?_) h4⟩
   have h2:=hT.lpid hp
   simpa [preM,show p.s.pid≠0 by omega,show p.s.pid≠1 by omega] using h
 have key:qcR { ((C.lv tr n).db d) with pre:=preM } F.ntmps x (s.rec' 1):=by
  refine cut_of_run (C:={ ((C.lv tr n).db d) with pre:=preM }) (s:=s.rec' 1) ⟨hT.ok.ty,hT.ok.fn,hT.ok.mixed,hT.ok.eqs⟩ hTd.told lf k F.ntmps f x (fun p hp=>?_) hin.len ?_
  ·exact hTd.told.loops f F c hF hc p (qbi c (only_of ho) p hp)
  ·intro q hn hm hp
   obtain⟨res,hres⟩:P1 (qcI q s.nv) (qaL q s.nr):=by simpa [preM,Sum.rec'] using hp
   have h8:=Ot.go_sm _ hin.sm (show(tr s.pid).go (qbO (phi tr n) s.pid) _ _=some res from hres)
   have hM:Means ({ ((C.lv tr n).db d) with pre:=preM }:Cfg) (qbO (phi tr n) s.pid) s.pid:=by
    refine⟨fun p a r x hx=>?_,fun p q a r v l x hq hf hx=>?_⟩
    ·by_cases hp:p=0
     ·subst hp
      exact⟨x,hx⟩
     ·have hx:phi tr n p a r=some x:=by simpa [qbO,hp] using hx
      by_cases hp1:p=1
      ·subst hp1
       cases n with
       | zero=>cases hx
       | succ j =>
        have:(tr 1).go (qbO (phi tr j) 1) a r=some x:=hx
        rw[hT.one] at this
        cases this
      ·show preM p a r
       simp only[preM,if_neg hp,if_neg hp1]
       exact⟨x,hx⟩
    ·obtain⟨m,hm'⟩:=(qdk (C:=C) hq).1 hf
     exact qcw tr (show phi tr n (if p=0 then s.pid else p) a r=some x from hx) hm'
   have hlen:(qcI q s.nv).length=s.nv:=by simp[qcI]
   have hlen2:(qaL q s.nr).length=s.nr:=by simp[qaL]
   have hokL:=Ot.okL hM (vs0:=qcI q s.nv) (ls0:=qaL q s.nr) (tr s.pid) (t:=[]) (u:=[]) hin.sm (by rw[List.append_nil,List.append_nil];exact hres) ((qdk (C:=C) h8).2 ⟨n+1,hres⟩)
   rw[List.append_nil,List.append_nil,hlen,hlen2] at hokL
   have e2:runC ({ ((C.lv tr n).db d) with pre:=preM }:Cfg) lf k F.ntmps f x (s.rec' 1)=(tr s.pid).out s.pid s.nv s.nr:=hrun preM (C.lv tr n).fact
   rw[e2]
   have hn:q.n=s.nv:=hn
   have hm:q.m=s.nr:=hm
   refine qdA _ q _ _ (by rw[hn,hm];exact hin.bo) (by rw[hlen,hn]) (by rw[hlen2,hm]) ?_ hokL
   rw[←hn,←hm]
   exact q_has q
 refine qcj (C:={ ((C.lv tr n).db d) with pre:=preM }) (s:=s.rec' 1) (s':=s) rfl rfl rfl (fun vs ls h=>?_) key
 show preM 1 vs ls
 simp only[preM,if_neg (show ¬(1:Nat)=0 by decide),if_true]
 exact h
theorem tab_ok (hT:Tab C d tr):∀n,DbOk (C.lv tr n) d
 | 0=>by
  refine⟨fun p hp=>⟨by have:=hT.fpid hp;omega,?_⟩,fun p hp=>⟨by have:=hT.lpid hp;omega,?_⟩⟩
  ·intro fr w0 w E0 vs _ _ _ _ _ h
   obtain⟨r,h⟩:=h
   cases h
  ·rcases hT.lps p hp with hin | hin
   ·obtain⟨F,c,x,lf,k,hF,hc,ho,_⟩:=hin.run
    refine⟨F,c,_,hF,hc,ho,?_⟩
    intro fr w0 w E0 a _ _ _ _ _ h
    obtain⟨r,h⟩:=h
    cases h
   ·obtain⟨F,c,x,lf,k,hF,hc,ho,_⟩:=hin.run
    refine⟨F,c,_,hF,hc,ho,?_⟩
    intro fr w0 w E0 a _ _ _ _ _ h
    obtain⟨r,h⟩:=h
    cases h
 | n+1=>by
  have ih:=tab_ok hT n
  refine⟨fun p hp=>⟨by have:=hT.fpid hp;omega,(hT.fns p hp).elim (fun h=>lv_fn hT ih h) (fun h=>h.told n ih)⟩,fun p hp=>⟨by have:=hT.lpid hp;omega,?_⟩⟩
  obtain⟨F,c,x,h1,h2,h3,h4⟩:=(hT.lps p hp).elim (fun h=>lv_lp hT ih h) (fun h=>lv_ct hT ih h)
  exact⟨F,c,_,h1,h2,h3,h4⟩
def lawS2 (bs:List (Nat × List CK)) (as:List SV) (nv pid:Nat) (id:Nat:=0):Sum:=⟨[],as,roBl bs 0,nv,bs.length,pid,[⟨.ret,[],[.o (.c (.t .b (.s nv)))],(roBl bs 0).map some,1,0,id⟩]⟩
theorem law_of2 {C:Cfg} (w:World) {f:FuncId} {bs:List (Nat × List CK)} {as:List SV} {nv pid id:Nat} (hs:qcA C f (lawS2 bs as nv pid id)) {us vs:List Value} {Ls:List Rw} {args:Array Value} (hv:vs.length=nv) (hl:bs.length=us.length) (hl2:bs.length=Ls.length)
  (h:∀(b:Nat) p u L,bs[b]?=some p→us[b]?=some u→Ls[b]?=some L→Ro w u p.2 L) (hn:as.length=args.size)
  (ha:∀(j:Nat) x v,as[j]?=some x→args[j]?=some v→RelS (envOf (zipU bs us) vs Ls) x v) (hp:C.pre pid vs Ls) (hq:∀xs ls,C.fact id vs Ls xs ls→xs=[.bool true]) :
  Calls C.P f args w fun e w'=>e=.returned (.bool true)∧Below w.heap.size w w':=by
 have hvals:qcI (envOf (zipU bs us) vs Ls).q vs.length=vs:=by
  apply List.ext_getElem
  ·simp[qcI]
  ·intro i h1 h2
   simp[qcI,envOf,List.getD_eq_getElem?_getD,List.getElem?_eq_getElem h2]
 have hrows:qaL (envOf (zipU bs us) vs Ls).q Ls.length=Ls:=by
  apply List.ext_getElem
  ·simp[qaL]
  ·intro i h1 h2
   simp[qaL,envOf,List.getD_eq_getElem?_getD,List.getElem?_eq_getElem h2]
 subst hv
 refine(hs (fun g _=>g < w.heap.size) ⟨w,fun _ _=>False⟩ w (envOf (zipU bs us) vs Ls) args rfl hl2.symm ?_ hn ha ?_).mono ?_
 ·have:=law_start w bs us vs Ls hl hl2 h
  rw[←hl2] at this
  exact this
 ·show C.pre pid (qcI _ vs.length) (qaL _ bs.length)
  rw[hvals,hl2,hrows]
  exact hp
 ·rintro e w' ⟨al,hal,E1,v,r,rfl,hres,hv,hle,hcnt,hfa,hH⟩
  simp[lawS2] at hal
  subst hal
  simp at hres
  subst hres
  have e1:Te.ev E1.q.S (.s vs.length)=v:=hv.2 _ E1.q.has_self
  have hfa:C.fact id (qcI _ vs.length) (qaL _ bs.length) (newV E1.q vs.length 1) (newR E1.q bs.length 0):=hfa
  rw[hvals,hl2,hrows] at hfa
  have e2:=hq _ _ hfa
  have e3:E1.q.S.v vs.length=.bool true:=by simpa [newV] using e2
  have e4:v=.bool true:=e1.symm.trans e3
  refine⟨by rw[e4],hH.keep.os,hH.keep.tape,hH.keep.output,hH.keep.size,fun k hk=>hH.keep.full k (fun _=>hk) hk⟩
theorem law_fin2 (hT:Tab C d tr) (w:World) {f:FuncId} {bs:List (Nat × List CK)} {as:List SV} {nv pid:Nat} (hf:(f,lawS2 bs as nv pid (pid*8))∈d.sums) {us vs:List Value} {Ls:List Rw} {args:Array Value} (hv:vs.length=nv) (hl:bs.length=us.length) (hl2:bs.length=Ls.length)
  (h:∀(b:Nat) p u L,bs[b]?=some p→us[b]?=some u→Ls[b]?=some L→Ro w u p.2 L) (hn:as.length=args.size)
  (ha:∀(j:Nat) x v,as[j]?=some x→args[j]?=some v→RelS (envOf (zipU bs us) vs Ls) x v) (hp:fin tr pid vs Ls=some (0,[.bool true],[])) :
  Calls C.P f args w fun e w'=>e=.returned (.bool true)∧Below w.heap.size w w':=by
 obtain⟨n,hn'⟩:=of_fin tr hp
 refine law_of2 (C:=C.lv tr n) w ((tab_ok hT n).sums _ hf).ok hv hl hl2 h hn ha ⟨_,hn'⟩ ?_
 intro xs ls hx
 obtain⟨m,hm⟩:=(qdk (C:=C) (show 0 < 8 by omega)).1 hx
 have:=qcw tr hm hn'
 simp at this
 exact this.1
end
def askV (v:Value) (x y:Option Res):Option Res:=match v with
 | .bool true=>x
 | .bool false=>y
 | _=>none
def needV (v:Value) (x:Option Res):Option Res:=match v with
 | .bool true=>x
 | _=>none
def callV (r:Option Res) (k:Res→Option Res):Option Res:=match r with
 | some res=>k res
 | none=>none
theorem askV_bool (b:Bool) (x y:Option Res):askV (.bool b) x y=if b=true then x else y:=by cases b<;>rfl
theorem needV_bool (b:Bool) (x:Option Res):needV (.bool b) x=if b=true then x else none:=by cases b<;>rfl
theorem callV_some (r:Res) (k:Res→Option Res):callV (some r) k=k r:=rfl
theorem go_ask (F:Phi) (c:Te) (x y:Ot) (vs:List Value) (ls:List Rw):(Ot.ask c x y).go F vs ls=askV (c.ev (syL vs ls)) (x.go F vs ls) (y.go F vs ls):=by
 simp only[Ot.go]
 generalize c.ev (syL vs ls)=v
 unfold askV
 rcases v with _ | b | _ | _ | _ | _ | _ | _ | _ | _ | _ | _<;>first | rfl | (cases b<;>rfl)
theorem go_need (F:Phi) (c:Te) (x:Ot) (vs:List Value) (ls:List Rw):(Ot.need c x).go F vs ls=needV (c.ev (syL vs ls)) (x.go F vs ls):=by
 simp only[Ot.go]
 generalize c.ev (syL vs ls)=v
 unfold needV
 rcases v with _ | b | _ | _ | _ | _ | _ | _ | _ | _ | _ | _<;>first | rfl | (cases b<;>rfl)
theorem go_call (F:Phi) (p:Nat) (a:List Te) (r:List RT) (k:Os) (vs:List Value) (ls:List Rw):(Ot.call p a r k).go F vs ls=callV (F p (a.map (Te.ev (syL vs ls))) (r.map (RT.ev (syL vs ls)))) (fun res=>k.go F res vs ls):=by
 simp only[Ot.go]
 generalize F p (a.map (Te.ev (syL vs ls))) (r.map (RT.ev (syL vs ls)))=z
 unfold callV
 cases z<;>rfl
theorem go_ret (F:Phi) (k:Nat) (v:List Te) (l:List RT) (vs:List Value) (ls:List Rw):(Ot.ret k v l).go F vs ls=some (k,v.map (Te.ev (syL vs ls)),l.map (RT.ev (syL vs ls))):=by simp only[Ot.go]
theorem go_one (F:Phi) (mv mr k j:Nat) (x:Ot) (v:List Value) (l:List Rw) (vs:List Value) (ls:List Rw):(Os.one mv mr k x).go F (j,v,l) vs ls=if j=k then x.go F (vs++v) (ls++l) else none:=by simp only[Os.go]
theorem qac (F:Phi) (mv mr k j:Nat) (x:Ot) (rest:Os) (v:List Value) (l:List Rw) (vs:List Value) (ls:List Rw):(Os.more mv mr k x rest).go F (j,v,l) vs ls=if j=k then x.go F (vs++v) (ls++l) else rest.go F (j,v,l) vs ls:=by simp only[Os.go]
theorem qaG (F:Phi) (x:Ot) (vs:List Value) (ls:List Rw):(Ot.two x).go F vs ls=x.go F vs ls:=by simp only[Ot.go]
theorem qaE (F:Phi) (x y:Ot) (vs:List Value) (ls:List Rw):(Ot.both x y).go F vs ls=same (x.go F vs ls) (y.go F vs ls):=by simp only[Ot.go]
abbrev I (x:Int):Value:=.int .i64 x
abbrev B (b:Bool):Value:=.bool b
def wr (x:Int):Int:=IntKind.i64.wrap x
theorem qaj {x:Int} (h0:-9223372036854775808≤x) (h1:x≤9223372036854775807):wr x=x:=by
 unfold wr
 rw[IntKind.wrap_i64];omega
theorem bv_add (a b:Int):qbm .add (.int .i64 a) (.int .i64 b)=.int .i64 (wr (a+b)):=rfl
theorem bv_sub (a b:Int):qbm .sub (.int .i64 a) (.int .i64 b)=.int .i64 (wr (a - b)):=rfl
theorem bv_mul (a b:Int):qbm .mul (.int .i64 a) (.int .i64 b)=.int .i64 (wr (a*b)):=rfl
theorem bv_eql (k j:IntKind) (a b:Int):qbm .eql (.int k a) (.int j b)=.bool (decide (a=b)):=rfl
theorem bv_neq (k j:IntKind) (a b:Int):qbm .neq (.int k a) (.int j b)=.bool (!decide (a=b)):=rfl
theorem bv_lss (k j:IntKind) (a b:Int):qbm .lss (.int k a) (.int j b)=.bool (decide (a < b)):=rfl
theorem bv_leq (k j:IntKind) (a b:Int):qbm .leq (.int k a) (.int j b)=.bool (decide (a≤b)):=rfl
theorem bv_gtr (k j:IntKind) (a b:Int):qbm .gtr (.int k a) (.int j b)=.bool (decide (b < a)):=rfl
theorem bv_geq (k j:IntKind) (a b:Int):qbm .geq (.int k a) (.int j b)=.bool (decide (b≤a)):=rfl
theorem bv_rem (k j:IntKind) (a b:Int):qbm .rem (.int k a) (.int j b)=.int k (a.tmod b):=rfl
theorem isT_bool (b:Bool):isT (.bool b)=b:=rfl
theorem natOf_int (k:IntKind) (a:Int):qcy (.int k a)=a.toNat:=rfl
theorem selfP_eq (F:Phi) (self:Nat) (p:Nat):qbO F self p=F (if p=0 then self else p):=rfl
theorem syL_eq (vs:List Value) (ls:List Rw):syL vs ls=⟨fun i=>vs.getD i undef,fun i=>ls.getD i []⟩:=rfl
def TS:=And.intro go_ask (And.intro go_need (And.intro go_call (And.intro go_ret (And.intro go_one (And.intro qac (And.intro Te.ev.eq_1 (And.intro Te.ev.eq_2 (And.intro Te.ev.eq_3 (And.intro Te.ev.eq_4 (And.intro Te.ev.eq_5 (And.intro Te.ev.eq_6 (And.intro Te.ev.eq_7 (And.intro Te.ev.eq_8 (And.intro Te.ev.eq_9 (And.intro Te.ev.eq_10 (And.intro Te.ev.eq_11 (And.intro Te.ev.eq_12 (And.intro RT.ev.eq_1 (And.intro RT.ev.eq_2 (And.intro RT.ev.eq_3 (And.intro RT.ev.eq_4 (And.intro RT.ev.eq_5 (And.intro RT.ev.eq_6 (And.intro RT.ev.eq_7 (And.intro RT.ev.eq_8 (And.intro RT.ev.eq_9 (And.intro TL.ev.eq_1 (And.intro TL.ev.eq_2 (And.intro syL_eq (And.intro @List.getD_cons_zero.{0} (And.intro @List.getD_cons_succ.{0} (And.intro @List.map_cons.{0,0} (And.intro @List.map_nil.{0,0} (And.intro @List.cons_append.{0} (And.intro @List.nil_append.{0} (And.intro @List.append_nil.{0} (And.intro bv_add (And.intro bv_sub (And.intro bv_mul (And.intro bv_eql (And.intro bv_neq (And.intro bv_lss (And.intro bv_leq (And.intro bv_gtr (And.intro bv_geq (And.intro bv_rem (And.intro isT_bool (And.intro natOf_int (And.intro askV_bool (And.intro needV_bool (And.intro callV_some (And.intro @decide_eq_true_eq (And.intro decide_true (And.intro decide_false (And.intro @Bool.not_eq_true' (And.intro @decide_eq_false_iff_not (And.intro selfP_eq (And.intro @Nat.succ_ne_zero (And.intro @if_true.{1} @if_false.{1})))))))))))))))))))))))))))))))))))))))))))))))))))))))))))
def TT:=And.intro TS (And.intro Bool.false_eq_true (And.intro Bool.not_true Bool.not_false))
def TN:=And.intro @List.length_cons.{0} (And.intro @List.length_nil.{0} (And.intro Nat.zero_add (And.intro @Int.cast_ofNat_Int (And.intro Int.toNat_zero (And.intro Int.toNat_one Int.le_refl)))))
abbrev i64:CK:=.n .i64
abbrev ks (n:Nat):List CK:=List.replicate n i64
theorem getD_mem {L:Rw} {k:Nat} (hk:k < L.length):L.getD k []∈L:=by
 rw[List.getD_eq_getElem?_getD,List.getElem?_eq_getElem hk]
 exact List.getElem_mem _
def cel (L:Rw) (k j:Nat):Value:=(L.getD k []).getD j undef
def First (L:Rw) (c:Value) (k:Nat):Prop:=k < L.length∧cel L k 0=c∧∀j,j < k→cel L j 0≠c
def Nowhere (L:Rw) (c:Value):Prop:=∀j,j < L.length→cel L j 0≠c
theorem First.unique {L:Rw} {c:Value} {i k:Nat} (h:First L c i) (h':First L c k):i=k:=by
 rcases Nat.lt_trichotomy i k with g | g | g
 ·exact absurd h.2.1 (h'.2.2 i g)
 ·exact g
 ·exact absurd h'.2.1 (h.2.2 k g)
theorem First.some {L:Rw} {c:Value} {i:Nat} (h:First L c i) (h':Nowhere L c):False:=h' i h.1 h.2.1
def IntRows (z:Nat) (L:Rw):Prop:=RowOk (ks z) L
theorem IntRows.len {z:Nat} {L:Rw} (h:IntRows z L):∀e∈L,e.length=z:=fun e he=>by simpa [ks] using (h e he).1
theorem IntRows.at_ {z k j:Nat} {L:Rw} (h:IntRows z L) (hk:k < L.length) (hj:j < z):∃a,cel L k j=.int .i64 a:=by
 have hm:=getD_mem hk
 have hl:=h.len _ hm
 obtain⟨_,h2⟩:=h _ hm
 have hj':j < (L.getD k []).length:=by omega
 obtain⟨a,ha⟩:=h2 j i64 (L.getD k [])[j] (by rw[List.getElem?_replicate,if_pos hj]) (List.getElem?_eq_getElem hj')
 refine⟨a,?_⟩
 rw[cel,List.getD_eq_getElem?_getD,List.getElem?_eq_getElem hj']
 exact ha
end Go.Proofs.YtipomcnbjlfekaaGreat.Rs
