import Derived.Test.YtipomcnbjlfekaaGreatWa
import Derived.Laws.StructEq
import Derived.Laws.BytesString
import Derived.Laws.Cells
/- Parts of the proof, merged by a program. -/
namespace Go.Proofs.YtipomcnbjlfekaaGreat.Rs
set_option maxRecDepth 100000
set_option linter.all false
open Go.RowKit
def rtK (k:IntKind):List AC→Option RT
 | []=>some .nil
 | x :: xs =>
  match teO x,rtK k xs with
  | some (k',te),some r=>bif qgU k' (.n k) then some (.app (.one (.cons te .nil)) r) else none
  | _,_=>none
def zK (k:IntKind):List AC→Bool
 | []=>true
 | .v (.int k' a) :: xs=>qgU (.n k') (.n k)&&qfA a 0&&zK k xs
 | _=>false
def rtZ (k:IntKind) (xs:List AC):Option RT:=bif zK k xs then some (.rep (.cons (.l (.int k 0)) .nil) (.l (.int .i64 (xs.length:Int)))) else rtK k xs
def qbD:RT→Option (List Te)
 | .nil=>some []
 | .app (.one (.cons te .nil)) r=>(qbD r).map (te :: ·)
 | _=>none
theorem qgd (S:Sy):∀(rt:RT) {ts:List Te},qbD rt=some ts→rt.ev S=ts.map fun t=>[t.ev S]
 | .nil,ts,h=>by cases h;rfl
 | .app (.one (.cons te .nil)) r,ts,h=>by
  simp only[qbD] at h
  obtain⟨ts',h1,rfl⟩:=Option.map_eq_some_iff.1 h
  simp only[RT.ev,TL.ev,qgd S r h1,List.map_cons]
  rfl
 | .s _,ts,h=>by simp[qbD] at h
 | .one _,ts,h=>by simp[qbD] at h
 | .set ..,ts,h=>by simp[qbD] at h
 | .take ..,ts,h=>by simp[qbD] at h
 | .drop ..,ts,h=>by simp[qbD] at h
 | .rep ..,ts,h=>by simp[qbD] at h
 | .by ..,ts,h=>by simp[qbD] at h
 | .app (.s _) r,ts,h=>by simp[qbD] at h
 | .app .nil r,ts,h=>by simp[qbD] at h
 | .app (.one .nil) r,ts,h=>by simp[qbD] at h
 | .app (.one (.cons _ (.cons _ _))) r,ts,h=>by simp[qbD] at h
 | .app (.app _ _) r,ts,h=>by simp[qbD] at h
 | .app (.set ..) r,ts,h=>by simp[qbD] at h
 | .app (.take ..) r,ts,h=>by simp[qbD] at h
 | .app (.drop ..) r,ts,h=>by simp[qbD] at h
 | .app (.rep ..) r,ts,h=>by simp[qbD] at h
 | .app (.by ..) r,ts,h=>by simp[qbD] at h
def cellsR (k:IntKind) (rt:RT) (n:Nat):List AC:=(List.range n).map fun (i:Nat)=>.t (.n k) (.cell rt (.l (.int .i64 (i:Int))) 0)
def arrW (C:Cfg) (H:Hp) (tm:Tm):Op→Option (Option SV × Hp × List Te)
 | .alloc t =>
  match isArr C t,C.ty t with
  | some (n,k),some td =>
   match rtZ k (td.zero.map .v) with
   | some rt=>bif Nat.ble n 1000000&&Nat.blt t 1000000 then some (some (.o (.c (.p H.next 0))),H.push (.sy true t [.n k] rt),[]) else none
   | none=>none
  | _,_=>none
 | .box t x =>
  match isArr C t,avO tm x with
  | some (n,k),some (.ag xs) =>
   match rtZ k xs with
   | some rt=>bif Nat.ble n 1000000&&Nat.beq xs.length n&&Nat.blt t 1000000 then some (some (.o (.c (.p H.next 0))),H.push (.sy true t [.n k] rt),[]) else none
   | none=>none
  | _,_=>none
 | .store t x y =>
  match isArr C t,cO tm x,avO tm y with
  | some (n,k),some (.p b 0),some (.ag xs) =>
   match rtZ k xs,H.bs.get b with
   | some rt,some (.sy true t' [k'] rt0) =>
    bif Nat.beq xs.length n&&qgU k' (.n k)&&Nat.beq t t'&&Nat.blt t 1000000 then some (none,{ H with bs:=H.bs.put b (some (.sy true t [.n k] rt)) },[.bin .eql (.len rt0) (.l (.int .i64 (n:Int)))]) else none
   | _,_=>none
  | _,_,_=>none
 | .buildSlice t len parts =>
  match C.ty t with
  | some ⟨.slice e,_,_,_⟩ =>
   match C.ty e,qeZ tm parts.toList with
   | some ⟨.int k,1,zero,_⟩,some ps =>
    bif Nat.blt 0 len&&Nat.ble len 1000000&&Nat.blt e 1000000 then
     match qgD (fun i=>some (i*1,1)) (qbY zero len) ps with
     | some cs =>
      match rtZ k cs with
      | some rt=>bif Nat.beq cs.length len then some (some (.o (.c (.sr H.next))),H.push (.sy true e [.n k] rt),[]) else none
      | none=>none
     | none=>none
    else none
   | _,_=>none
  | _=>none
 | _=>none
def litR (C:Cfg):Op→Bool
 | .buildSlice _ len _=>!Nat.beq C.arr 0&&Nat.ble C.arr len
 | _=>false
def cellsA (k:IntKind) (rt:RT) (n:Nat):List AC :=
 match qbD rt with
 | some ts=>ts.map fun t=>.t (.n k) t
 | none=>cellsR k rt n
def arrL (C:Cfg) (H:Hp) (t:Nat):AC→Option (AV × List Te)
 | .p b 0 =>
  match isArr C t,H.bs.get b with
  | some (n,k),some (.sy true _ [k'] rt)=>bif qgU k' (.n k) then some (.ag (cellsA k rt n),[.bin .eql (.len rt) (.l (.int .i64 (n:Int)))]) else none
  | _,_=>none
 | _=>none
section
variable {C:Cfg} {fr:Fr} {E:Env} {N:Nat} {tm:Tm} {a:Act} {w0:Ws} {H:Hp} {w w':World}
theorem rtK_rel {k:IntKind}:∀(xs:List AC) {rt:RT} {us:List Value},rtK k xs=some rt→RelL E xs us→(∀S,E.q.has S→rt.ev S=us.map fun u=>[u])∧RowOk [.n k] (us.map fun u=>[u])
 | [],rt,us,h,hr=>by
  cases h
  have:us=[]:=List.eq_nil_of_length_eq_zero (by rw[←hr.1];rfl)
  subst this
  exact⟨fun _ _=>rfl,fun e he=>by simp at he⟩
 | x :: xs,rt,us,h,hr=>by
  simp only[rtK] at h
  split at h
  ·rename_i k' te r h1 h2
   cases hc:qgU k' (.n k) with
   | false=>rw[hc] at h;cases h
   | true =>
    rw[hc,cond_true] at h
    cases h
    obtain rfl:=qco hc
    match us,hr with
    | u :: us,hr =>
     obtain⟨g1,g2⟩:=qbl h1 (hr.2 0 x u rfl rfl)
     obtain⟨g3,g4⟩:=rtK_rel xs h2 (⟨by simpa using hr.1,fun j y v hy hv=>hr.2 (j+1) y v (by simpa using hy) (by simpa using hv)⟩:RelL E xs us)
     refine⟨fun S hS=>by simp only[RT.ev,TL.ev,g2 S hS,g3 S hS,List.map_cons];rfl,fun e he=>?_⟩
     rcases List.mem_cons.1 (by simpa using he:e∈[u] :: us.map fun u=>[u]) with rfl | he
     ·refine⟨rfl,fun j kk v hk hv=>?_⟩
      cases j with
      | zero=>simp at hk hv;subst hk hv;exact g1
      | succ j=>simp at hk
     ·exact g4 e he
    | [],hr=>exact absurd hr.1 (by simp)
  ·cases h
theorem zK_ok {k:IntKind}:∀(xs:List AC),zK k xs=true→xs=List.replicate xs.length (.v (.int k 0))
 | [],_=>rfl
 | .v (.int k' b) :: xs,h=>by
  simp only[zK,Bool.and_eq_true,qeG,decide_eq_true_eq] at h
  obtain⟨⟨h1,rfl⟩,h2⟩:=h
  have h1:=qco h1
  injection h1 with h1
  subst h1
  rw[List.length_cons,List.replicate_succ,←zK_ok xs h2]
theorem rtZ_rel {k:IntKind} {xs:List AC} {rt:RT} {us:List Value} (h:rtZ k xs=some rt) (hr:RelL E xs us):(∀S,E.q.has S→rt.ev S=us.map fun u=>[u])∧RowOk [.n k] (us.map fun u=>[u]):=by
 unfold rtZ at h
 cases hc:zK k xs with
 | false=>rw[hc] at h;exact rtK_rel xs h hr
 | true =>
  rw[hc,cond_true] at h
  cases h
  have hx:=zK_ok xs hc
  have hu:us=List.replicate us.length (.int k 0):=by
   refine List.eq_replicate_iff.2 ⟨rfl,fun u hu=>?_⟩
   obtain⟨j,hj⟩:=List.getElem?_of_mem hu
   have hlt:j < xs.length:=by rw[hr.1];exact(List.getElem?_eq_some_iff.1 hj).1
   have:=hr.2 j (.v (.int k 0)) u (by rw[hx,List.getElem?_replicate,if_pos hlt]) hj
   exact this.1
  refine⟨fun S hS=>?_,fun e he=>?_⟩
  ·simp only[RT.ev,TL.ev,Te.ev,qcy,Int.toNat_natCast]
   rw[hr.1,hu]
   simp
  ·rw[hu] at he
   simp at he
   rw[he.2]
   refine⟨rfl,fun j kk v hk hv=>?_⟩
   cases j with
   | zero=>simp at hk hv;subst hk hv;exact⟨_,rfl⟩
   | succ j=>simp at hk
theorem flat_one (us:List Value):(us.map fun u=>[u]).flatten=us:=by
 induction us with
 | nil=>rfl
 | cons u us ih=>simp[ih]
theorem newA_ok (hH:RelH fr w0 E H w) {t n:Nat} {k:IntKind} {rt:RT} {xs:List AC} {arr:Array Value} (hsz:arr.size=n) (hn0:0 < n) (hn:n≤maxLen) (hlt:t < 1000000) (hrt:rtZ k xs=some rt) (hr:RelL E xs arr.toList) :
  RelH fr w0 (E.new H.next ⟨some w.heap.size,0,n,1,t,true,.slice (some ⟨w.heap.size,0,none⟩) n n⟩) (H.push (.sy true t [.n k] rt)) (w.alloc (.cells arr t (0,0))):=by
 obtain⟨g1,g2⟩:=rtZ_rel hrt hr
 have hl:arr.toList.length=n:=by simpa using hsz
 obtain⟨n1,n2⟩:=hH.newg (r:=⟨some w.heap.size,0,n,1,t,true,.slice (some ⟨w.heap.size,0,none⟩) n n⟩) (g:=w.heap.size) rfl (Nat.le_refl _)
 refine hH.push_at (K:=fun _ _=>True) (Keeps.of_below ((Below.refl _ _).alloc (Nat.le_refl _) _)) (fun _ _ _ _ _ _ _ _=>trivial) n1 (fun _ _ _=>trivial) n2
  ⟨_,arr.toList.map fun u=>[u],Env.new_get _ _ _,rfl,g1,g2,.inr ⟨w.heap.size,arr,rfl,rfl,rfl,(qdR hlt).symm,by rw[List.length_map,hl],by rw[qdR hlt];show(w.heap.push _)[w.heap.size]?=_;simp,by rw[hsz,Nat.mul_one],by rw[List.length_map,hl];exact Nat.le_refl _,hn,?_⟩⟩
 rw[flat_one,List.length_map,hl,Nat.mul_one,List.take_of_length_le (by omega)]
theorem arrW_ok (hC:C.Ok) (hH:RelH fr w0 E H w) (hT:RelT E N tm a) {o:Oper} {r:Option SV} {H':Hp} {ns:List Te} (h:arrW C H tm o.op=some (r,H',ns)) (hn:∀c∈ns,c.ev E.q.S=.bool true) {Q:Exit→Act→World→Prop} {K:Act→World→Prop}
  (hK:∀E' w' v,E.le E'→E'.q=E.q→RelH fr w0 E' H' w'→Told E' r v→K (a.put o.dst v) w'):o.wp C.P a w K Q:=by
 cases ho:o.op with
 | alloc t =>
  rw[ho] at h
  simp only[arrW] at h
  split at h
  ·rename_i n k td hia ht
   split at h
   ·rename_i rt hrt
    cases hc:(Nat.ble n 1000000&&Nat.blt t 1000000) with
    | false=>rw[hc] at h;cases h
    | true =>
     rw[hc,cond_true] at h
     cases h
     simp only[Bool.and_eq_true,Nat.ble_eq,Nat.blt_eq] at hc
     obtain⟨hc,hlt⟩:=hc
     obtain⟨hn0,e,zero,bt,zero',bt',ht',_⟩:=qfJ hia
     rw[ht] at ht';cases ht'
     have hok:=hC.ty _ _ ht
     obtain⟨zv,hz,hzc⟩:=qcv hok w
     have hsz:zv.cells.size=n:=by have:=hok.len;rw[←hzc] at this;simpa using this
     have hnew:=newA_ok (t:=t) hH hsz hn0 (by simp only[maxLen];omega) hlt hrt (by rw[hzc];exact qfG hok)
     refine qbh ?_ (hK _ _ (.pointer (some ⟨w.heap.size,0,none⟩)) (hH.le_new _) rfl hnew ⟨_,w.heap.size,Env.new_get _ _ _,rfl,rfl⟩)
     unfold execOp;rw[ho]
     refine qbu ?_
     simp only[Instr.alloc,Sem.run_bind,hz,Result.andThen_ok]
     exact qdJ t zv w
   ·cases h
  ·cases h
 | box t x =>
  rw[ho] at h
  simp only[arrW] at h
  split at h
  ·rename_i n k xs hia hu
   split at h
   ·rename_i rt hrt
    cases hc:(Nat.ble n 1000000&&Nat.beq xs.length n&&Nat.blt t 1000000) with
    | false=>rw[hc] at h;cases h
    | true =>
     rw[hc,cond_true] at h
     cases h
     simp only[Bool.and_eq_true,Nat.ble_eq,qaz,decide_eq_true_eq,Nat.blt_eq] at hc
     obtain⟨hc,hlt⟩:=hc
     obtain⟨hn0,_⟩:=qfJ hia
     have hr:=(qbL hT hu).cells
     have hsz:(a.eval x).cells.size=n:=by rw[←hc.2];have:=hr.1;simpa [AV.cells] using this.symm
     have hnew:=newA_ok (t:=t) hH hsz hn0 (by simp only[maxLen];omega) hlt hrt hr
     refine qbh ?_ (hK _ _ (.pointer (some ⟨w.heap.size,0,none⟩)) (hH.le_new _) rfl hnew ⟨_,w.heap.size,Env.new_get _ _ _,rfl,rfl⟩)
     unfold execOp;rw[ho]
     exact qbu (qdJ t (a.eval x) w)
   ·cases h
  ·cases h
 | store t x y =>
  rw[ho] at h
  simp only[arrW] at h
  split at h
  ·rename_i n k b xs hia hx hu
   split at h
   ·rename_i rt t' k' rt0 hrt hb
    cases hc:(Nat.beq xs.length n&&qgU k' (.n k)&&Nat.beq t t'&&Nat.blt t 1000000) with
    | false=>rw[hc] at h;cases h
    | true =>
     rw[hc,cond_true] at h
     cases h
     simp only[Bool.and_eq_true,qaz,decide_eq_true_eq,Nat.blt_eq] at hc
     obtain⟨⟨⟨hxl,hk⟩,rfl⟩,htb⟩:=hc
     obtain rfl:=qco hk
     obtain⟨hn0,e,zero,bt,zero',bt',ht,_⟩:=qfJ hia
     have hok:=hC.ty _ _ ht
     obtain⟨r,g,hE,hg,hev⟩:=qaT hT hx
     have hr:=(qbL hT hu).cells
     have hvs:(a.eval y).cells.size=n:=by rw[←hxl];have:=hr.1;simpa [AV.cells] using this.symm
     have hvl:(a.eval y).cells.toList.length=n:=by simpa using hvs
     obtain⟨_,r',L,hE',q1,q2,q3,q4⟩:=hH.blk _ _ hb
     rw[hE] at hE';cases hE'
     have hlen:=hn _ List.mem_cons_self
     simp only[Te.ev,q2 _ E.q.has_self,qbm] at hlen
     have hlen:=qbg hlen
     have hlen:L.length=n:=by omega
     have q1:r.z=1:=q1
     rcases q4 with ⟨q5,_⟩ | ⟨g',arr,p1,p2,p0,pt,p3,p4,p5,p6,p7,p8⟩
     ·rw[q5] at hg;cases hg
     ·rw[hg] at p1;cases p1
      obtain⟨inf,zv,hinf,hs,_⟩:=qcB hok
      have hcap:n≤arr.size:=by rw[p5,q1];omega
      have hrun:=qcn (P:=C.P) w g 0 (unm t) t arr (a.eval y) p4 (by simp[hinf,hs,hvs]) (by rw[hvs];omega) hr.one
      have hsize:(arr.toList.take 0++((a.eval y).cells.toList++arr.toList.drop (0+(a.eval y).cells.size))).toArray.size=arr.size:=by
       simp only[List.size_toArray,List.length_append,List.length_take,List.length_drop,hvs,hvl,Array.length_toList]
       omega
      obtain⟨g1,g2⟩:=rtZ_rel hrt hr
      refine wp_skip' ?_ (hK E _ undef (Env.le_refl E) rfl (hH.turn hb (fun h=>h.lt htb) hE ((Keeps.setRow p4 hsize (fun _=>True) (fun o ho=>absurd trivial ho)).sub fun g2 o2 hno he2=>hno ⟨by rw[hg,he2.1],.inl p2⟩)
       ⟨r,(a.eval y).cells.toList.map fun u=>[u],hE,q1,g1,g2,.inr ⟨g,_,hg,p2,p0,pt,by rw[List.length_map,hvl,←hlen];exact p3,setRow_heap w g arr _ (unm t) _ p4,by rw[hsize];exact p5,by rw[List.length_map,hvl,←hlen];exact p6,p7,?_⟩⟩) rfl)
      ·unfold execOp;rw[ho]
       rw[p0] at hev
       simp only[Nat.add_zero] at hev
       simp[Instr.storeAt,Instr.sureAddr,Sem.run_bind,hev,hrun]
      ·rw[flat_one,List.length_map,hvl,q1,Nat.mul_one]
       simp[List.take_append_of_le_length,hvl]
   ·cases h
  ·cases h
 | buildSlice t len parts =>
  rw[ho] at h
  simp only[arrW] at h
  split at h
  ·rename_i e z zero bt ht
   split at h
   ·rename_i k zero' bt' ps he hp
    cases hc:(Nat.blt 0 len&&Nat.ble len 1000000&&Nat.blt e 1000000) with
    | false=>rw[hc] at h;cases h
    | true =>
     rw[hc,cond_true] at h
     simp only[Bool.and_eq_true,Nat.blt_eq,Nat.ble_eq] at hc
     split at h
     ·rename_i cs hf
      split at h
      ·rename_i rt hrt
       cases hcl:Nat.beq cs.length len with
       | false=>rw[hcl] at h;cases h
       | true =>
        rw[hcl,cond_true] at h
        cases h
        have hcl:=Nat.eq_of_beq_eq_true hcl
        have hok:=hC.ty _ _ he
        have hu:C.P.underlying t=some (.slice e):=(hC.ty _ _ ht).desc
        obtain⟨zv,hz,hzc⟩:=qcv hok w
        obtain⟨hl,hr⟩:=qcT hT parts.toList hp
        have h0:¬len*1=0:=by omega
        have hzr:RelL E (qbY zero' len) ((Array.range (len*1)).map ((zv.cells)[· % (zv.cells).size]!)).toList:=repl_rel hok zv.cells hzc len (by show 0 < 1;omega)
        obtain⟨arr,h1,h2⟩:=qeR (E:=E) (place:=fun i=>some (i*1,1)) ps (parts.toList.map fun (i,x)=>(i,a.eval x)) _ _ hzr hl hr hf
        have hasz:arr.size=len:=by rw[←hcl,h2.1];simp
        have hnew:=newA_ok (t:=e) hH hasz hc.1.1 (by simp only[maxLen];omega) hc.2 hrt h2
        refine qbh ?_ (hK _ _ (.slice (some ⟨w.heap.size,0,none⟩) len len) (hH.le_new _) rfl hnew ⟨_,Env.new_get _ _ _,rfl,_,_,_,rfl⟩)
        unfold execOp;rw[ho]
        refine qbu ?_
        have hps:(parts.map fun (i,x)=>(i,a.eval x)).toList=parts.toList.map fun (i,x)=>(i,a.eval x):=by simp
        have hlim:¬len*1 > 2 ^ 24:=by omega
        simp only[Instr.buildSlice,Sem.run_bind,qaf hu,Result.andThen_ok,qba hok,hlim,if_false,if_neg h0,hz,Sem.run_pure,hps,h1,newRow,newObj]
        rfl
      ·cases h
     ·cases h
   ·cases h
  ·cases h
 | _=>rw[ho] at h;simp[arrW] at h
theorem arrL_ok (hC:C.Ok) (hH:RelH fr w0 E H w) {t:Nat} {c:AC} {av:AV} {ns:List Te} (h:arrL C H t c=some (av,ns)) (hn:∀c∈ns,c.ev E.q.S=.bool true) {u:Value} (hu:RelC E c u):∃ad v,u=.pointer (some ad)∧RelV E av v∧(loadVar t ad).run C.P w=.ok v w:=by
 unfold arrL at h
 split at h
 ·rename_i b
  split at h
  ·rename_i n k t' k' rt hia hb
   cases hc:qgU k' (.n k) with
   | false=>rw[hc] at h;cases h
   | true =>
    rw[hc,cond_true] at h
    cases h
    obtain rfl:=qco hc
    obtain⟨hn0,e,zero,bt,zero',bt',ht,_⟩:=qfJ hia
    have hok:=hC.ty _ _ ht
    obtain⟨r,g,hE,hg,rfl⟩:=hu
    obtain⟨_,r',L,hE',q1,q2,q3,q4⟩:=hH.blk _ _ hb
    rw[hE] at hE';cases hE'
    have hlen:=hn _ List.mem_cons_self
    simp only[Te.ev,q2 _ E.q.has_self,qbm] at hlen
    have hlen:=qbg hlen
    have hlen:L.length=n:=by omega
    have q1:r.z=1:=q1
    rcases q4 with ⟨q5,_⟩ | ⟨g',arr,p1,p2,p0,pt,p3,p4,p5,p6,p7,p8⟩
    ·rw[q5] at hg;cases hg
    ·rw[hg] at p1;cases p1
     have hcap:n≤arr.size:=by rw[p5,q1];omega
     have ha:=qgM hok w
     refine⟨_,_,rfl,?_,qcC w g (r.lo+0) _ t arr (0,0) n p4 ha (qba hok w) (by rw[p0];omega)⟩
     refine⟨_,rfl,?_⟩
     rw[hlen,q1,Nat.mul_one] at p8
     have hsz:((arr.toList.drop (r.lo+0)).take n)=L.flatten:=by rw[p0];simpa using p8
     have hL1:∀(L:Rw),(∀e∈L,e.length=1)→∀(j:Nat),L.flatten[j]?=(L[j]?).bind (fun (e:List Value)=>e[0]?):=by
      intro L
      induction L with
      | nil=>intro _ j;simp
      | cons e L ih =>
       intro hl j
       have he:=hl e List.mem_cons_self
       match e,he with
       | [x],_ =>
        cases j with
        | zero=>simp
        | succ j=>simpa using ih (fun e he=>hl e (List.mem_cons_of_mem _ he)) j
     have hL:=hL1 L (fun e he=>(q3 e he).1)
     have hlx:(cellsA k rt n).length=n:=by
      unfold cellsA
      split
      ·rename_i ts hts
       have:=congrArg List.length (qgd E.q.S rt hts)
       rw[q2 _ E.q.has_self] at this
       simp at this ⊢
       omega
      ·simp[cellsR]
     refine⟨?_,fun j x v hx hv=>?_⟩
     ·have:((arr.toList.drop (r.lo+0)).take n).length=n:=by rw[List.length_take,List.length_drop,p0,Array.length_toList];omega
      rw[hlx]
      simpa using this.symm
     ·have hv2:L.flatten[j]?=some v:=by rw[←hsz];simpa using hv
      rw[hL] at hv2
      have hjn:j < n:=by
       have:=(List.getElem?_eq_some_iff.1 hx).1
       rwa [hlx] at this
      have hjl:j < L.length:=by omega
      rw[List.getElem?_eq_getElem hjl] at hv2
      have hmem:=List.getElem_mem hjl
      obtain⟨o1,o2⟩:=q3 _ hmem
      have hv3:(L[j])[0]?=some v:=hv2
      unfold cellsA at hx
      split at hx
      ·rename_i ts hts
       rw[List.getElem?_map] at hx
       obtain⟨te,hte,rfl⟩:=Option.map_eq_some_iff.1 hx
       refine⟨o2 0 (.n k) v rfl hv2,fun S hS=>?_⟩
       have he:=qgd S rt hts
       rw[q2 S hS] at he
       have:L[j]=[te.ev S]:=by
        have h5:L[j]?=some [te.ev S]:=by rw[he,List.getElem?_map,hte];rfl
        rw[List.getElem?_eq_getElem hjl] at h5
        exact Option.some.inj h5
       rw[this] at hv3
       simpa using hv3
      ·simp only[cellsR,List.getElem?_map,List.getElem?_range hjn,Option.map_some,Option.some.injEq] at hx
       subst hx
       refine⟨o2 0 (.n k) v rfl hv2,fun S hS=>?_⟩
       simp only[Te.ev,q2 S hS,qcy,Int.toNat_natCast,List.getD_eq_getElem?_getD,List.getElem?_eq_getElem hjl,Option.getD_some]
       rw[hv3]
       rfl
  ·cases h
 ·cases h
end
def eqTe:List Te→List Te→Te
 | x :: xs,y :: ys=>.and (.bin .eql x y) (eqTe xs ys)
 | _,_=>.l (.bool true)
def teL:List CK→List AC→Option (List Te)
 | [],[]=>some []
 | k :: ks,x :: xs =>
  match teO x,teL ks xs with
  | some (k',te),some r=>bif qgU k k' then some (te :: r) else none
  | _,_=>none
 | _,_=>none
def symX (C:Cfg) (H:Hp) (tm:Tm):Op→Option (SV × List Te)
 | .binOp op t x y _ =>
  match avO tm x,avO tm y with
  | some (.c a),some (.c b) =>
   match teO a,teO b with
   | some (.n k,tx),some (.n j,ty) =>
    match op with
    | .shl=>some (.o (.c (.t (.n k) (.bin .shl tx ty))),[.bin .leq i0 ty])
    | .shr=>some (.o (.c (.t (.n k) (.bin .shr tx ty))),[.bin .leq i0 ty])
    | .quo=>bif decide (k=j) then some (.o (.c (.t (.n k) (.bin .quo tx ty))),[.bin .neq ty i0]) else none
    | .rem=>bif decide (k=j) then some (.o (.c (.t (.n k) (.bin .rem tx ty))),[.bin .neq ty i0]) else none
    | _=>none
   | some (.s,tx),some (.s,ty) =>
    match op with
    | .add=>some (.o (.c (.t .s (.bin .add tx ty))),[.bin .leq (.sl tx) (.l (.int .i64 1000000000)),.bin .leq (.sl ty) (.l (.int .i64 1000000000))])
    | _=>none
   | _,_=>none
  | some (.ag xs),some (.ag ys) =>
   match C.eqs t with
   | some ks =>
    match teL ks xs,teL ks ys with
    | some txs,some tys =>
     match op with
     | .eql=>some (.o (.c (.t .b (eqTe txs tys))),[])
     | .neq=>some (.o (.c (.t .b (.not (eqTe txs tys)))),[])
     | _=>none
    | _,_=>none
   | none=>none
  | _,_=>none
 | .call { callee:=.builtin .min,args,argTypes } =>
  match args.toList with
  | [x,y] =>
   match cO tm x,cO tm y with
   | some a,some b =>
    match teO a,teO b with
    | some (.n k,tx),some (.n j,ty)=>bif decide (k=j) then some (.o (.c (.t (.n k) (.ite (.bin .lss ty tx) ty tx))),[]) else none
    | _,_=>none
   | _,_=>none
  | _=>none
 | .call { callee:=.builtin .max,args,argTypes } =>
  match args.toList with
  | [x,y] =>
   match cO tm x,cO tm y with
   | some a,some b =>
    match teO a,teO b with
    | some (.n k,tx),some (.n j,ty)=>bif decide (k=j) then some (.o (.c (.t (.n k) (.ite (.bin .gtr ty tx) ty tx))),[]) else none
    | _,_=>none
   | _,_=>none
  | _=>none
 | .indexAddr t x i =>
  match C.ty t,cO tm x,loT tm (some i) with
  | some ⟨.slice e,_,_,_⟩,some (.ss b k n),some ti =>
   match H.bs.get b,C.ty e with
   | some (.sy _ _ ks _),some de=>bif Nat.beq ks.length de.z&&Nat.blt 0 de.z then some (.o (.c (.pe b (.bin .add k ti) 0)),needIx ti n) else none
   | _,_=>none
  | _,_,_=>none
 | .slice t x lo hi none =>
  match C.ty t,cO tm x with
  | some ⟨.str,_,_,_⟩,some c =>
   match teO c with
   | some (.s,te) =>
    match loT tm lo,hiT tm (.sl te) hi with
    | some l,some h=>some (.o (.c (.t .s (.sub te l h))),qeL l h++qeL h (.sl te))
    | _,_=>none
   | _=>none
  | _,_=>none
 | _=>none
def pureT (C:Cfg) (H:Hp) (tm:Tm) (op:Op):Option (SV × List Te) :=
 match qcG C H tm op with
 | some r=>some (r,[])
 | none =>
  match symT C H tm op with
  | some r=>some r
  | none=>symX C H tm op
section
variable {C:Cfg} {fr:Fr} {E:Env} {N:Nat} {tm:Tm} {a:Act} {w0:Ws} {H:Hp} {w w':World}
theorem teL_rel:∀(ks:List CK) (xs:List AC) {ts:List Te} {us:List Value},teL ks xs=some ts→RelL E xs us→Fit ks us∧∀S,E.q.has S→ts.map (Te.ev S)=us
 | [],[],ts,us,h,hr=>by
  cases h
  have:us=[]:=List.eq_nil_of_length_eq_zero (by rw[←hr.1];rfl)
  subst this
  exact⟨⟨rfl,fun j k u h=>by simp at h⟩,fun _ _=>rfl⟩
 | k :: ks,x :: xs,ts,us,h,hr=>by
  simp only[teL] at h
  split at h
  ·rename_i k' te r h1 h2
   cases hc:qgU k k' with
   | false=>rw[hc] at h;cases h
   | true =>
    rw[hc,cond_true] at h
    cases h
    obtain rfl:=qco hc
    match us,hr with
    | u :: us,hr =>
     obtain⟨g1,g2⟩:=qbl h1 (hr.2 0 x u rfl rfl)
     obtain⟨⟨g3,g4⟩,g5⟩:=teL_rel ks xs h2 (⟨by simpa using hr.1,fun j y v hy hv=>hr.2 (j+1) y v (by simpa using hy) (by simpa using hv)⟩:RelL E xs us)
     refine⟨⟨by simp[g3],fun j kk v hk hv=>?_⟩,fun S hS=>by simp only[List.map_cons,g2 S hS,g5 S hS]⟩
     cases j with
     | zero=>simp at hk hv;subst hk hv;exact g1
     | succ j=>exact g4 j kk v (by simpa using hk) (by simpa using hv)
    | [],hr=>exact absurd hr.1 (by simp)
  ·cases h
 | [],_ :: _,ts,us,h,hr=>by cases h
 | _ :: _,[],ts,us,h,hr=>by cases h
theorem eqTe_ev (S:Sy):∀(xs ys:List Te),(eqTe xs ys).ev S=.bool (eqL (xs.map (Te.ev S)) (ys.map (Te.ev S)))
 | x :: xs,y :: ys=>by simp only[eqTe,Te.ev,eqTe_ev S xs ys,List.map_cons,eqL,isT]
 | [],[]=>rfl
 | [],_ :: _=>rfl
 | _ :: _,[]=>rfl
theorem symX_ok (hC : C.Ok) (hH : RelH fr w0 E H w) (hT : RelT E N tm a) {o : Oper} {r : SV} {ns : List Te} (h : symX C H tm o.op = some (r, ns)) (hn : ∀ c ∈ ns, c.ev E.q.S = .bool true) : ∃ v, RelS E r v ∧ ∀ w', (execOp a.eval o).run C.P w' = .ok (.value v) w' := by
  cases ho : o.op with
  | binOp op t x y lt =>
    rw [ho] at h
    simp only [symX] at h
    have hex : ∀ v, (∀ w', ((do eqGuard op t x y (a.eval x) (a.eval y); binOp op t (a.eval x) (a.eval y)) : Sem Value).run C.P w' = .ok v w') → ∀ w', (execOp a.eval o).run C.P w' = .ok (.value v) w' := by
      intro v hv w'
      unfold execOp; rw [ho]
      exact qbu (hv w')
    split at h
    · rename_i ca cb hx hy
      have rx : RelC E ca (a.eval x) := qbL hT hx
      have ry : RelC E cb (a.eval y) := qbL hT hy
      split at h
      · rename_i k tx j ty htx hty
        obtain ⟨⟨u, hu⟩, eu⟩ := qbl htx rx
        obtain ⟨⟨v, hv⟩, ev⟩ := qbl hty ry
        cases op <;> simp only at h <;> first | (cases h; done) | skip
        ·
          rw [qau] at h
          split at h
          · rename_i hkj
            subst hkj
            cases h
            have q := hn _ List.mem_cons_self
            simp only [Te.ev, i0, ev _ E.q.has_self, hv, qbm, Value.bool.injEq, Bool.not_eq_true', decide_eq_false_iff_not] at q
            refine ⟨_, ⟨⟨_, rfl⟩, fun S hS => by simp only [Te.ev, eu S hS, ev S hS, hu, hv, qbm]; rfl⟩, hex _ fun w' => ?_⟩
            rw [hu, hv]
            simp [eqGuard, Sem.run_bind, binOp, Op.intDiv, q]
          · cases h
        ·
          rw [qau] at h
          split at h
          · rename_i hkj
            subst hkj
            cases h
            have q := hn _ List.mem_cons_self
            simp only [Te.ev, i0, ev _ E.q.has_self, hv, qbm, Value.bool.injEq, Bool.not_eq_true', decide_eq_false_iff_not] at q
            refine ⟨_, ⟨⟨_, rfl⟩, fun S hS => by simp only [Te.ev, eu S hS, ev S hS, hu, hv, qbm]; rfl⟩, hex _ fun w' => ?_⟩
            rw [hu, hv]
            simp [eqGuard, Sem.run_bind, binOp, Op.intDiv, q]
          · cases h
        ·
          cases h
          have q := hn _ List.mem_cons_self
          simp only [Te.ev, i0, ev _ E.q.has_self, hv, qbm] at q
          have q := qbg q
          refine ⟨_, ⟨⟨_, rfl⟩, fun S hS => by simp only [Te.ev, eu S hS, ev S hS, hu, hv, qbm]; rfl⟩, hex _ fun w' => ?_⟩
          rw [hu, hv]
          simp [eqGuard, Sem.run_bind, binOp, Op.shift, show ¬ v < 0 by omega]
        ·
          cases h
          have q := hn _ List.mem_cons_self
          simp only [Te.ev, i0, ev _ E.q.has_self, hv, qbm] at q
          have q := qbg q
          refine ⟨_, ⟨⟨_, rfl⟩, fun S hS => by simp only [Te.ev, eu S hS, ev S hS, hu, hv, qbm]; rfl⟩, hex _ fun w' => ?_⟩
          rw [hu, hv]
          simp [eqGuard, Sem.run_bind, binOp, Op.shift, show ¬ v < 0 by omega]
      · rename_i tx ty htx hty
        obtain ⟨⟨u, hu⟩, eu⟩ := qbl htx rx
        obtain ⟨⟨v, hv⟩, ev⟩ := qbl hty ry
        cases op <;> simp only at h <;> first | (cases h; done) | skip
        cases h
        have q1 := hn _ List.mem_cons_self
        have q2 := hn _ (List.mem_cons_of_mem _ List.mem_cons_self)
        simp only [Te.ev, eu _ E.q.has_self, ev _ E.q.has_self, hu, hv, sizeV, qbm] at q1 q2
        have q1 := qbg q1
        have q2 := qbg q2
        refine ⟨.string (u ++ v), ⟨⟨_, rfl⟩, fun S hS => by simp only [Te.ev, eu S hS, ev S hS, hu, hv, qbm]⟩, hex _ fun w' => ?_⟩
        rw [hu, hv]
        have hb : ¬ ((u.size + v.size : Nat) : Int) > IntKind.i64.max := by
          have : IntKind.i64.max = 9223372036854775807 := rfl
          omega
        simp only [eqGuard, Sem.run_bind, binOp, Op.stringOp]
        simp only [if_neg hb]
        rfl
      · cases h
    · rename_i xs ys hx hy
      split at h
      · rename_i ks hks
        split at h
        · rename_i txs tys htx hty
          obtain ⟨arrx, ex, rx⟩ : RelV E (.ag xs) (a.eval x) := qbL hT hx
          obtain ⟨arry, ey, ry⟩ : RelV E (.ag ys) (a.eval y) := qbL hT hy
          obtain ⟨fx, gx⟩ := teL_rel ks xs htx rx
          obtain ⟨fy, gy⟩ := teL_rel ks ys hty ry
          have key := hC.eqs t ks hks arrx.toList arry.toList fx fy op x y
          simp only [Array.toArray_toList] at key
          cases op <;> simp only at h <;> first | (cases h; done) | skip
          · cases h
            refine ⟨.bool (eqL arrx.toList arry.toList), ⟨⟨_, rfl⟩, fun S hS => by rw [eqTe_ev, gx S hS, gy S hS]⟩, hex _ fun w' => ?_⟩
            rw [ex, ey]
            exact key w' (.inl rfl)
          · cases h
            refine ⟨.bool (!eqL arrx.toList arry.toList), ⟨⟨_, rfl⟩, fun S hS => by simp only [Te.ev]; rw [eqTe_ev, gx S hS, gy S hS]; rfl⟩, hex _ fun w' => ?_⟩
            rw [ex, ey]
            exact key w' (.inr rfl)
        · cases h
      · cases h
    · cases h
  | call c =>
    rw [ho] at h
    obtain ⟨callee, args, argTypes⟩ := c
    cases callee with
    | value f => simp [symX] at h
    | invoke f m => simp [symX] at h
    | builtin b =>
      have hex : ∀ v, (∀ w', (builtin b argTypes o.type (args.map fun | .const _ => true | _ => false) (args.map a.eval)).run C.P w' = .ok (.value v) w') → ∀ w', (execOp a.eval o).run C.P w' = .ok (.value v) w' := by
        intro v hv w'
        unfold execOp; rw [ho]
        simp only [resolve, Sem.run_bind, Sem.run_pure, Result.andThen_ok, invoke]
        exact hv w'
      cases b with
      | min =>
        simp only [symX] at h
        split at h
        · rename_i x y hargs
          obtain rfl : args = #[x, y] := by apply Array.toList_inj.1; simpa using hargs
          split at h
          · rename_i ca cb hx hy
            split at h
            · rename_i k tx j ty htx hty
              rw [qau] at h
              split at h
              · rename_i hkj
                subst hkj
                cases h
                obtain ⟨⟨u, hu⟩, eu⟩ := qbl htx (qaT hT hx)
                obtain ⟨⟨v, hv⟩, ev⟩ := qbl hty (qaT hT hy)
                refine ⟨.int k (if v < u then v else u), ⟨⟨_, rfl⟩, fun S hS => ?_⟩, hex _ fun w' => ?_⟩
                · simp only [Te.ev, eu S hS, ev S hS, hu, hv, qbm, isT]
                  rw [qau]
                  split <;> rfl
                · simp [builtin, Builtin.min_, Builtin.min2, Sem.run_bind, hu, hv]
              · cases h
            · cases h
          · cases h
        · cases h
      | max =>
        simp only [symX] at h
        split at h
        · rename_i x y hargs
          obtain rfl : args = #[x, y] := by apply Array.toList_inj.1; simpa using hargs
          split at h
          · rename_i ca cb hx hy
            split at h
            · rename_i k tx j ty htx hty
              rw [qau] at h
              split at h
              · rename_i hkj
                subst hkj
                cases h
                obtain ⟨⟨u, hu⟩, eu⟩ := qbl htx (qaT hT hx)
                obtain ⟨⟨v, hv⟩, ev⟩ := qbl hty (qaT hT hy)
                refine ⟨.int k (if v > u then v else u), ⟨⟨_, rfl⟩, fun S hS => ?_⟩, hex _ fun w' => ?_⟩
                · simp only [Te.ev, eu S hS, ev S hS, hu, hv, qbm, isT]
                  rw [qau]
                  split <;> rfl
                · simp [builtin, Builtin.max_, Builtin.max2, Sem.run_bind, hu, hv]
              · cases h
            · cases h
          · cases h
        · cases h
      | _ => simp [symX] at h
  | indexAddr t x i =>
    rw [ho] at h
    simp only [symX] at h
    split at h
    · rename_i e z zero bt b k n ti ht hx hi
      split at h
      · rename_i own tb ks rt de hb he
        cases hc : (Nat.beq ks.length de.z && Nat.blt 0 de.z) with
        | false => rw [hc] at h; cases h
        | true =>
          rw [hc, cond_true] at h
          cases h
          simp only [Bool.and_eq_true, qaz, decide_eq_true_eq, Nat.blt_eq] at hc
          obtain ⟨hz, hz0⟩ := hc
          obtain ⟨r, L, ad, c, hE, q1, q2, q3, q4, q5, q6, q7, q8⟩ := (hH.blk _ _ hb).2.val
          obtain ⟨r', aa, N', c', k', m, hE', hv', hkm, hev, a2, c2, hu, hpos, _⟩ := qaT hT hx
          rw [hE] at hE'; cases hE'
          rw [q5] at hv'; cases hv'
          obtain ⟨j, hjv, hje⟩ := qcL hT hi
          obtain ⟨h0, h1⟩ := qeV (y := (m : Int)) (hje _ E.q.has_self) (hev _ E.q.has_self).2 hn
          obtain ⟨j, rfl⟩ : ∃ jj : Nat, j = (jj : Int) := ⟨j.toNat, by omega⟩
          obtain ⟨g, o2, e1, e2⟩ := hpos (by omega)
          subst e1
          have hlen : L.length ≤ maxLen := q7
          have hmx : maxLen = 9223372036854775807 := rfl
          have hrun := qeh hC ht he g (o2 + k' * r.z) m c2 j (by omega)
          refine ⟨_, ⟨r, g, o2, L.length, c, k' + j, hE, q5, by omega, fun S hS => ?_, rfl⟩, fun w' => ?_⟩
          · simp only [Te.ev, (hev S hS).1, hje S hS, qbm, qcy]
            have e : ((k' : Int) + (j : Int)) = ((k' + j : Nat) : Int) := by omega
            rw [e, IntKind.wrap_i64]
            omega
          · unfold execOp; rw [ho]
            refine qaA ?_
            rw [hu, hjv, e2, hrun w']
            have : o2 + k' * r.z + j * de.z = o2 + ((k' + j) * r.z + 0) := by rw [q1, hz, Nat.add_mul]; omega
            rw [this]
      · cases h
    · cases h
  | slice t x lo hi mx =>
    rw [ho] at h
    cases mx with
    | some m => simp [symX] at h
    | none =>
      simp only [symX] at h
      split at h
      · rename_i z zero bt cx ht hx
        split at h
        · rename_i te hte
          split at h
          · rename_i tl th hl hhi
            cases h
            obtain ⟨⟨s, hs⟩, he⟩ := qbl hte (qaT hT hx)
            have hn1 : ∀ c ∈ qeL tl th, c.ev E.q.S = .bool true := fun c hc => hn c (List.mem_append_left _ hc)
            have hn2 : ∀ c ∈ qeL th (.sl te), c.ev E.q.S = .bool true := fun c hc => hn c (List.mem_append_right _ hc)
            have hlen : ∀ S, E.q.has S → (Te.sl te).ev S = .int .i64 (s.size : Int) := fun S hS => by simp only [Te.ev, he S hS, hs, sizeV]
            obtain ⟨xl, hlv, hle⟩ : ∃ n, (∀ lx, lo = some lx → a.eval lx = .int .i64 n) ∧ (lo = none → n = 0) ∧ ∀ S, E.q.has S → tl.ev S = .int .i64 n := by
              cases lo with
              | none => simp only [loT, Option.some.injEq] at hl; subst hl; exact ⟨0, by simp, fun _ => rfl, fun S _ => rfl⟩
              | some lx => obtain ⟨n, g1, g2⟩ := qcL hT hl; exact ⟨n, fun l e => by cases e; exact g1, by simp, g2⟩
            obtain ⟨xh, hhv, hhe⟩ : ∃ n, (∀ lx, hi = some lx → a.eval lx = .int .i64 n) ∧ (hi = none → n = s.size) ∧ ∀ S, E.q.has S → th.ev S = .int .i64 n := by
              cases hi with
              | none => simp only [hiT, Option.some.injEq] at hhi; subst hhi; exact ⟨s.size, by simp, fun _ => rfl, hlen⟩
              | some lx => obtain ⟨n, g1, g2⟩ := qcL (te := th) hT (by simpa [loT, hiT] using hhi); exact ⟨n, fun l e => by cases e; exact g1, by simp, g2⟩
            obtain ⟨a1, a2⟩ := qeM (hle.2 _ E.q.has_self) (hhe.2 _ E.q.has_self) hn1
            obtain ⟨a3, a4⟩ := qeM (hhe.2 _ E.q.has_self) (hlen _ E.q.has_self) hn2
            obtain ⟨l, rfl⟩ : ∃ k : Nat, xl = (k : Int) := ⟨xl.toNat, by omega⟩
            obtain ⟨hh, rfl⟩ : ∃ k : Nat, xh = (k : Int) := ⟨xh.toNat, by omega⟩
            have hu : C.P.underlying t = some .string := (hC.ty _ _ ht).desc
            have hlo : ∀ w', (match lo.map a.eval with | some v => Instr.sliceBound v hh .sliceB | none => (pure 0 : Sem Nat)).run C.P w' = .ok l w' := by
              intro w'
              cases lo with
              | none => have := hle.1 rfl; obtain rfl : l = 0 := by omega
                        rfl
              | some lx =>
                simp only [Option.map_some, hlv lx rfl]
                exact qbo w' l hh _ (by omega)
            have hhi' : ∀ w', (match hi.map a.eval with | some v => Instr.sliceBound v s.size .sliceAlen | none => (pure s.size : Sem Nat)).run C.P w' = .ok hh w' := by
              intro w'
              cases hi with
              | none => have := hhe.1 rfl; obtain rfl : hh = s.size := by omega
                        rfl
              | some hx2 =>
                simp only [Option.map_some, hhv hx2 rfl]
                exact qbo w' hh _ _ (by omega)
            have hbd : ∀ w', (Instr.sliceBounds false s.size s.size (lo.map a.eval) (hi.map a.eval) none).run C.P w' = .ok (l, hh, s.size) w' := by
              intro w'
              have h1 := hlo w'
              have h2 := hhi' w'
              cases hi with
              | none =>
                simp only [Option.map_none] at h2
                cases lo with
                | none => simp_all [Instr.sliceBounds, Sem.run_bind]
                | some lx => simp_all [Instr.sliceBounds, Sem.run_bind]
              | some hx2 =>
                simp only [Option.map_some] at h2
                cases lo with
                | none => simp_all [Instr.sliceBounds, Sem.run_bind]
                | some lx => simp_all [Instr.sliceBounds, Sem.run_bind]
            refine ⟨.string (s.extract l hh), ⟨⟨_, rfl⟩, fun S hS => by simp only [Te.ev, he S hS, hs, hle.2 S hS, hhe.2 S hS, subV, qcy, Int.toNat_natCast]⟩, fun w' => ?_⟩
            unfold execOp; rw [ho]
            refine qaA ?_
            simp [Instr.sliceAt, Instr.slice, hs, Sem.run_bind, qaf hu, hbd]
          · cases h
        · cases h
      · cases h
  | _ => rw [ho] at h; simp [symX] at h
theorem pureT_ok (hC:C.Ok) (hH:RelH fr w0 E H w) (hT:RelT E N tm a) {o:Oper} {r:SV} {ns:List Te} (h:pureT C H tm o.op=some (r,ns)) (hn:∀c∈ns,c.ev E.q.S=.bool true):∃v,RelS E r v∧∀w',(execOp a.eval o).run C.P w'=.ok (.value v) w':=by
 unfold pureT at h
 split at h
 ·rename_i r' hp
  cases h
  exact pureE_ok hC hH hT hp
 ·split at h
  ·rename_i r' hs
   cases h
   exact symT_ok hC hH hT hs hn
  ·exact symX_ok hC hH hT h hn
end
section
variable {P:Program} {d:Nat} {xs ys:Array Value} {f:Field} {fs:List Field} {a b:Value} {r s:Bool} {w:World}
theorem qev:(Op.eqFields d xs ys []).run P w=.ok true w:=by simp[Op.eqFields]
theorem qay (hn:(f.name == "_")=false) (ha:(part f.type xs f.offset).run P w=.ok a w) (hb:(part f.type ys f.offset).run P w=.ok b w) (he:(Op.equalIn d f.type a b).run P w=.ok r w) (hr:(Op.eqFields d xs ys fs).run P w=.ok s w):(Op.eqFields d xs ys (f :: fs)).run P w=.ok (r&&s) w:=by
 have hn':f.name ≠ "_":=by simpa using hn
 rw[Op.eqFields]
 simp only[if_pos hn',Sem.run_bind,ha,hb,he,Result.andThen_ok]
 cases r
 ·simp
 ·simpa using hr
theorem qgs {t:TypeId} {fs:Array Field} (hu:P.underlying t=some (.struct fs)) (hp:P.stoodInHeld t=false) (h:(Op.eqFields d xs ys fs.toList).run P w=.ok r w):(Op.equalIn (d+1) t (.agg xs) (.agg ys)).run P w=.ok r w:=by
 have hf:P.fieldsOf t=fs:=by simp[Program.fieldsOf,hu]
 rw[run_equalIn_struct (P:=P) w d t xs ys (by rw[hf];exact hu) hp,hf]
 exact h
theorem qbc {t:TypeId} {k:IntKind} (hu:P.underlying t=some (.int k)) (x y:Int):(Op.equalIn (d+1) t (.int k x) (.int k y)).run P w=.ok (x==y) w:=by
 simp[Op.equalIn,Sem.run_bind,qaf hu]
theorem qeq {t:TypeId} {ks:List CK} (hg:P.eqGuardType P.depth t=false) (h:∀(us vs:List Value) (w:World),Fit ks us→Fit ks vs→(Op.equalIn Op.maxDepth t (.agg us.toArray) (.agg vs.toArray)).run P w=.ok (eqL us vs) w):EqOk P t ks:=by
 intro us vs hu hv op x y w hop
 have h1:=h us vs w hu hv
 rcases hop with rfl | rfl
 ·simp[eqGuard,Sem.run_bind,hg,binOp,Op.equal,h1]
 ·simp[eqGuard,Sem.run_bind,hg,binOp,Op.equal,h1]
end
def strW (C:Cfg) (H:Hp) (tm:Tm):Op→Option (Option SV × Hp × List Te)
 | .convert s d x =>
  match C.ty s,C.ty d,cO tm x with
  | some ⟨.slice e,_,_,_⟩,some ⟨.str,_,_,_⟩,some c =>
   match C.ty e with
   | some ⟨.int .u8,_,_,_⟩ =>
    match newY H 1 [.n .u8] c with
    | some rt=>some (some (.o (.c (.t .s (.str rt)))),H,[])
    | none=>none
   | _=>none
  | _,_,_=>none
 | _=>none
theorem bytes_of:∀{L:Rw},RowOk [.n .u8] L→∃ns:List Int,L=ns.map fun n=>[.int .u8 n]
 | [],_=>⟨[],rfl⟩
 | e :: L,h=>by
  obtain⟨ns,hns⟩:=bytes_of (L:=L) (fun x hx=>h x (List.mem_cons_of_mem _ hx))
  obtain⟨h1,h2⟩:=h e List.mem_cons_self
  match e,h1,h2 with
  | [u],_,h2 =>
   obtain⟨n,rfl⟩:=h2 0 _ u rfl rfl
   exact⟨n :: ns,by rw[hns];rfl⟩
theorem qhk:∀(ns:List Int) (s:ByteArray),ns.foldl (fun r n=>r.push (UInt8.ofNat n.toNat)) s=⟨s.data++(ns.map fun n=>UInt8.ofNat n.toNat).toArray⟩
 | [],s=>by simp
 | n :: ns,s=>by
  rw[List.foldl_cons,qhk ns]
  simp[ByteArray.push]
theorem qha:∀ns:List Int,(ns.map fun n=>[Value.int .u8 n]).flatten=ns.map (Value.int .u8)
 | []=>rfl
 | n :: ns=>by rw[List.map_cons,List.flatten_cons,qha ns];rfl
section
variable {C:Cfg} {fr:Fr} {E:Env} {N:Nat} {tm:Tm} {a:Act} {w0:Ws} {H:Hp} {w w':World}
theorem strW_ok (hC:C.Ok) (hH:RelH fr w0 E H w) (hT:RelT E N tm a) {o:Oper} {r:Option SV} {H':Hp} {ns:List Te} (h:strW C H tm o.op=some (r,H',ns)) (hn:∀c∈ns,c.ev E.q.S=.bool true) {Q:Exit→Act→World→Prop} {K:Act→World→Prop}
  (hK:∀E' w' v,E.le E'→E'.q=E.q→RelH fr w0 E' H' w'→Told E' r v→K (a.put o.dst v) w'):o.wp C.P a w K Q:=by
 cases ho:o.op with
 | convert s d x =>
  rw[ho] at h
  simp only[strW] at h
  split at h
  ·rename_i e z zero bt z2 zero2 bt2 c hs hd hx
   split at h
   ·rename_i z3 zero3 bt3 he
    split at h
    ·rename_i rt hy
     cases h
     have e1:C.P.underlying s=some (.slice e):=(hC.ty _ _ hs).desc
     have e2:C.P.underlying d=some .string:=(hC.ty _ _ hd).desc
     have e3:C.P.underlying e=some (.int .u8):=(hC.ty _ _ he).desc
     obtain⟨M,ad,cp,y1,y2,y3,y4⟩:=newY_ok hH (z:=1) (ks:=[.n .u8]) rfl (by omega) hy (qaT hT hx)
     obtain⟨ns,rfl⟩:=bytes_of y2
     have hv:strV (ns.map fun n=>[Value.int .u8 n])=.string (ns.foldl (fun r n=>r.push (UInt8.ofNat n.toNat)) ByteArray.empty):=by
      rw[qhk]
      simp only[strV,List.map_map]
      congr 2
      show _=#[]++_
      rw[Array.empty_append]
      rfl
     have hrun:(convert s d (a.eval x)).run C.P w=.ok (.string (ns.foldl (fun r n=>r.push (UInt8.ofNat n.toNat)) ByteArray.empty)) w:=by
      rw[y3,run_convert_bytes_string w s d e _ _ _ e1 e3 e2]
      cases ad with
      | none =>
       have:ns=[]:=by
        cases ns with
        | nil=>rfl
        | cons n ns=>obtain⟨p,hp,_⟩:=y4 (by simp);cases hp
       subst this
       rfl
      | some p =>
       refine run_bytesToString w p _ cp ns ?_
       have:=run_loadCells_list (P:=C.P) (w:=w) p (ns.map (Value.int .u8)) (fun j v hj=>by
        have hp:0 < (ns.map fun n=>[Value.int .u8 n]).length:=by
         have:=(List.getElem?_eq_some_iff.1 hj).1
         simp at this ⊢
         omega
        obtain⟨p',hp',hc⟩:=y4 hp
        cases hp'
        exact hc j v (by rw[qha];exact hj))
       rw[List.length_map] at this ⊢
       exact this
     refine qbh ?_ (hK E w _ (Env.le_refl E) rfl hH ⟨⟨_,rfl⟩,fun S hS=>by simp only[Te.ev,y1 S hS];exact hv⟩)
     unfold execOp;rw[ho]
     exact qaA hrun
    ·cases h
   ·cases h
  ·cases h
 | _=>rw[ho] at h;simp[strW] at h
end
def mrkW (C:Cfg) (H:Hp) (tm:Tm):Op→Option (Option SV × Hp × List Te)
 | .call { callee:=.builtin .append,args,argTypes } =>
  match args.toList,argTypes.toList with
  | [x,y],[t,t'] =>
   match C.ty t,cO tm x,cO tm y with
   | some ⟨.slice e,_,_,_⟩,some (.sr b),some v =>
    match C.ty e,H.bs.get b with
    | some de,some (.sy true tb ks rx) =>
     match newY H de.z ks v with
     | some ry =>
      bif Nat.beq t t'&&Nat.blt 0 de.z&&Nat.ble de.bytes 100000&&Nat.blt e 1000000&&Nat.beq tb (e+1000000)&&Nat.beq ks.length de.z then
       some (some (.o (.c (.sr H.next))),(qdO H (some b)).push (.sy true tb ks (.app rx ry)),[.bin .leq (.len (.app rx ry)) (.l (.int .i64 100000000))])
      else none
     | none=>none
    | _,_=>none
   | _,_,_=>none
  | _,_=>none
 | _=>none
section
variable {C:Cfg} {fr:Fr} {E:Env} {N:Nat} {tm:Tm} {a:Act} {w0:Ws} {H:Hp} {w w':World}
theorem mrkW_ok (hC:C.Ok) (hH:RelH fr w0 E H w) (hT:RelT E N tm a) {o:Oper} {r:Option SV} {H':Hp} {ns:List Te} (h:mrkW C H tm o.op=some (r,H',ns)) (hn:∀c∈ns,c.ev E.q.S=.bool true) {Q:Exit→Act→World→Prop} {K:Act→World→Prop}
  (hK:∀E' w' v,E.le E'→E'.q=E.q→RelH fr w0 E' H' w'→Told E' r v→K (a.put o.dst v) w'):o.wp C.P a w K Q:=by
 unfold mrkW at h
 split at h
 ·rename_i args argTypes ho
  split at h
  ·rename_i x y t t' hargs htys
   obtain rfl:args=#[x,y]:=by apply Array.toList_inj.1;simpa using hargs
   obtain rfl:argTypes=#[t,t']:=by apply Array.toList_inj.1;simpa using htys
   split at h
   ·rename_i e z zero bt b v ht hu hv
    split at h
    ·rename_i de tb ks rx he hb
     split at h
     ·rename_i ry hy
      cases hc:(Nat.beq t t'&&Nat.blt 0 de.z&&Nat.ble de.bytes 100000&&Nat.blt e 1000000&&Nat.beq tb (e+1000000)&&Nat.beq ks.length de.z) with
      | false=>rw[hc] at h;cases h
      | true =>
       rw[hc,cond_true] at h
       cases h
       simp only[Bool.and_eq_true,qaz,decide_eq_true_eq,Nat.blt_eq,Nat.ble_eq] at hc
       obtain⟨⟨⟨⟨⟨rfl,hz0⟩,hby⟩,hem⟩,rfl⟩,hkz⟩:=hc
       have hok:=hC.ty _ _ he
       have hun:C.P.underlying t=some (.slice e):=(hC.ty _ _ ht).desc
       obtain⟨inf,zv,hinf,hisz,hiz,hzc,hbb⟩:=qcB hok
       obtain⟨r,hr,hxv,_⟩:=qaT hT hu
       obtain⟨_,r',L,hr',x3,x1,x2,x5⟩:=hH.blk _ _ hb
       rw[hr] at hr';cases hr'
       rw[hkz] at x3
       obtain⟨M,ad,c,y1,y2,y3,y4⟩:=newY_ok hH hkz hz0 hy (qaT hT hv)
       have q1:=hn _ (List.mem_cons_self)
       simp only[Te.ev,RT.ev,x1 _ E.q.has_self,y1 _ E.q.has_self,qbm] at q1
       have q1:=qbg q1
       simp only[List.length_append] at q1
       have hev:∀S,E.q.has S→(RT.app rx ry).ev S=L++M:=fun S hS=>by simp only[RT.ev,x1 S hS,y1 S hS]
       have hrow:RowOk ks (L++M):=fun e he=>by rcases List.mem_append.1 he with he | he;exact x2 e he;exact y2 e he
       have hHd:RelH fr w0 E (qdO H (some b)) w:=hH.drop b
       have hnx:(qdO H (some b)).next=H.next:=rfl
       have hmk:∀rt,Mk (.sy true (e+1000000) ks rt):=fun rt=>⟨_,_,_,rfl,by omega⟩
       have hlenL:=qcJ (z:=de.z) L (fun e he=>by rw[(x2 e he).1,hkz])
       rcases Nat.eq_zero_or_pos M.length with hM | hM
       ·have hM0:M=[]:=List.eq_nil_of_length_eq_zero hM
        subst hM0
        have hvv:∃base n cap,a.eval x=.slice base n cap∧n≤cap:=by
         rcases x5 with ⟨_,k2,_⟩ | ⟨g,arr,_,_,_,_,k3,_,_,k6,_⟩
         ·exact⟨none,0,0,by rw[hxv,k2],Nat.le_refl _⟩
         ·exact⟨_,_,_,by rw[hxv,k3],k6⟩
        obtain⟨base,n,cap,hxv2,hle⟩:=hvv
        have hrun:=qex hun hinf ho (a:=a) (w:=w) (C:=C) (by rw[y3];rfl) base n cap hle hxv2
        have hpa:∀c bc q g' o,(qdO H (some b)).bs.get c=some bc→E c=some q→q.has g' o→¬r.has g' o:=fun c bc q g' o hc hq h1 h2=>by
         have hc':(H.bs.put b none).get c=some bc:=hc
         rw[Tr.get_put] at hc'
         split at hc'
         ·cases hc'
         ·rename_i hne
          exact hne (hH.apart c b bc _ q r g' o hc' hb hq hr h1 h2)
        have hnew:=hHd.push_atU (r:=r) (bl:=.sy true (e+1000000) ks (.app rx ry)) (K:=fun _ _=>True) (Keeps.refl _ _) (fun _ _ _ _ _ _ _ _=>trivial) hpa (fun _ _ _=>trivial)
         (fun g o h1 h2=>by obtain⟨⟨_,k1⟩,k2⟩:=hH.free b _ r g o hb hr h1 h2;exact⟨⟨hmk _,k1⟩,k2⟩)
         ⟨r,L++[],Env.new_get _ _ _,by rw[x3,hkz],hev,hrow,by rw[List.append_nil];exact x5⟩
        rw[hnx] at hnew
        exact qbh hrun (hK (E.new H.next r) w _ (by have:=hHd.le_new r;rw[hnx] at this;exact this) rfl hnew ⟨r,Env.new_get _ _ _,by rw[←hxv2,hxv],_,_,_,by rw[←hxv];exact hxv2⟩)
       ·obtain⟨p,rfl,hnc⟩:=y4 hM
        have hlenM:=qcJ (z:=de.z) M (fun e he=>by rw[(y2 e he).1,hkz])
        have hone:∀u∈M.flatten,u.oneCell'=true:=by
         intro u hu
         obtain⟨e,he,hue⟩:=List.mem_flatten.1 hu
         obtain⟨j,hj⟩:=List.getElem?_of_mem hue
         have hjl:j < ks.length:=by rw[←(y2 e he).1];exact(List.getElem?_eq_some_iff.1 hj).1
         exact((y2 e he).2 j _ u (List.getElem?_eq_getElem hjl) hj).one
        have hbb2:(L.length+M.length)*de.bytes≤140737488355328:=by
         have:(L.length+M.length)*de.bytes≤100000000*100000:=Nat.mul_le_mul (by omega) hby
         omega
        have hLM:(L++M).length=L.length+M.length:=List.length_append
        have hwh:∀g,r.own=some g→r.whole=true:=fun g hg=>by
         rcases x5 with ⟨k1,_⟩ | ⟨_,_,_,k2,_⟩
         ·rw[k1] at hg;cases hg
         ·exact k2
        have hval:∀ad n c,r.val=.slice ad n c→n=L.length:=fun ad n c hq=>by
         rcases x5 with ⟨_,k2,k3⟩ | ⟨_,_,_,_,_,_,k3,_⟩
         ·rw[k2] at hq;cases hq;subst k3;rfl
         ·rw[k3] at hq;cases hq;rfl
        have hoth:∀c bc q g' o,(qdO H (some b)).bs.get c=some bc→E c=some q→q.has g' o→r.own≠some g':=fun c bc q g' o hc hq h1 h2=>by
         have hc':(H.bs.put b none).get c=some bc:=hc
         rw[Tr.get_put] at hc'
         split at hc'
         ·cases hc'
         ·rename_i hne
          exact hne (hH.apart c b bc _ q r g' o hc' hb hq hr h1 ⟨h2,.inl (hwh g' h2)⟩)
        have hfr:∀g' o,fr g' o→r.own=some g'→o < L.length*de.z∧w0.u g' o:=fun g' o hf h2=>by
         obtain⟨⟨_,ad,n,c,k1,k2⟩,k3⟩:=hH.free b _ r g' o hb hr ⟨h2,.inl (hwh g' h2)⟩ hf
         rw[hval _ _ _ k1,x3] at k2
         exact⟨k2,k3⟩
        have fin:∀(g cap:Nat) (w':World) (cur:Array Value),(Builtin.append_ #[t,t] o.type #[a.eval x,a.eval y]).run C.P w=.ok (.slice (some ⟨g,0,none⟩) (L.length+M.length) cap) w'→Keeps (fun g' o=>r.own=some g'→o < L.length*de.z) w w'→w'.heap[g]?=some (.cells cur e (0,0))→L.length+M.length≤cap→cap≤maxLen→cur.size=cap*de.z→cur.toList.take ((L.length+M.length)*de.z)=L.flatten++M.flatten→(r.own=some g∨w.heap.size≤g)→o.wp C.P a w K Q:=by
         intro g cap w' cur hrun hkeep hheap hnc' hcm hcs htake hat
         have hnew:=hHd.push_atU (r:=⟨some g,0,cap,de.z,e,true,.slice (some ⟨g,0,none⟩) (L.length+M.length) cap⟩) (bl:=.sy true (e+1000000) ks (.app rx ry)) (K:=fun g' o=>r.own=some g'→o < L.length*de.z) hkeep
          (fun c bc q g' o h1 h2 h3 h4=>absurd h4 (hoth c bc q g' o h1 h2 h3))
          (fun c bc q g' o h1 h2 h3 h4=>by
           have e4:=h4.1
           cases e4
           rcases hat with hat | hat
           ·exact hoth c bc q g o h1 h2 h3 hat
           ·obtain⟨q',hq',hlt⟩:=(hHd.blk c bc h1).2.lt
            rw[h2] at hq';cases hq'
            have:=hlt g h3.1
            omega)
          (fun g' o h1 h2=>(hfr g' o h1 h2).1)
          (fun g' o h1 h2=>by
           have e4:=h1.1
           cases e4
           rcases hat with hat | hat
           ·obtain⟨k1,k2⟩:=hfr g o h2 hat
            refine⟨⟨hmk _,_,_,_,rfl,?_⟩,k2⟩
            show o < (L.length+M.length)*de.z
            rw[Nat.add_mul]
            omega
           ·have:=hH.frlt g o h2
            have:=hH.keep.size
            omega)
          ⟨_,L++M,Env.new_get _ _ _,hkz.symm,hev,hrow,.inr ⟨g,cur,rfl,rfl,rfl,unm_mark.symm,by rw[hLM],by rw[unm_mark];exact hheap,hcs,by rw[hLM];exact hnc',hcm,by rw[hLM,List.flatten_append];exact htake⟩⟩
         rw[hnx] at hnew
         refine qbh ?_ (hK (E.new H.next ⟨some g,0,cap,de.z,e,true,.slice (some ⟨g,0,none⟩) (L.length+M.length) cap⟩) w' _ (by have:=hHd.le_new ⟨some g,0,cap,de.z,e,true,.slice (some ⟨g,0,none⟩) (L.length+M.length) cap⟩;rw[hnx] at this;exact this) rfl hnew ⟨_,Env.new_get _ _ _,rfl,_,_,_,rfl⟩)
         unfold execOp;rw[ho]
         simp only[resolve,invoke,builtin,Sem.run_bind,Sem.run_pure,Result.andThen_ok,List.map_toArray,List.map_cons,List.map_nil,hrun]
        have hall:∀{w':World},w.grownBy w' none→Keeps (fun g' o=>r.own=some g'→o < L.length*de.z) w w':=fun hg=>(Keeps.grown hg).sub fun g o _=>by simp
        have hzs:zv.cells.size=de.z:=by rw[←hok.len,←hzc];simp
        have hx5:=x5
        rcases x5 with ⟨k1,k2,k3⟩ | ⟨g0,arr,k1,k2,k3,k4,k5,k6,k7,k8,k9,k10⟩
        ·subst k3
         obtain⟨g,cap,w',hrun,⟨_,hor⟩,hgrow,hat,_⟩:=run_append_lies (P:=C.P) w t o.type 0 e inf zv de.z de.bytes hun hinf hiz hisz hbb hzs hz0 (.slice none 0 0) 0 [] (World.ownsRow_nil w _ e _) p M.length c M.flatten hlenM hnc hone hM (by simp only[maxLen];simp at q1;omega) (by simpa using hbb2) (Nat.zero_le _) _ rfl
         rcases hor with ⟨hbad,_⟩ | ⟨g',cap',cur,hv',_,hheap,hnc',hcm,hcs,htake⟩
         ·cases hbad
         ·cases hv'
          refine fin g cap w' cur ?_ (hall hgrow) hheap (by simpa using hnc') hcm hcs (by simpa using htake) ?_
          ·rw[hxv,k2,y3]
           exact hrun
          ·rcases hat with hat | hat
           ·cases hat
           ·exact .inr (by omega)
        ·rw[unm_mark] at k6
         rw[x3] at k7 k10
         by_cases hroom:L.length+M.length≤r.cap
         ·have hown:w.ownsRow 0 e de.z (.slice (some ⟨g0,0,none⟩) L.length r.cap) L.length L.flatten:=⟨hlenL,.inr ⟨g0,r.cap,arr,rfl,Nat.zero_le _,k6,k8,k9,k7,k10⟩⟩
          obtain⟨g,cap,w',hrun,⟨_,hor⟩,hgrow,hat,_⟩:=run_append_lies (P:=C.P) w t o.type 0 e inf zv de.z de.bytes hun hinf hiz hisz hbb hzs hz0 _ L.length L.flatten hown p M.length c M.flatten hlenM hnc hone hM (by simp only[maxLen];omega) hbb2 (Nat.zero_le _) _ rfl
          have hlm:(L.length+M.length)*de.z≤r.cap*de.z:=Nat.mul_le_mul_right _ hroom
          rw[Nat.add_mul] at hlm
          have hrun2:=run_append_room_cells (P:=C.P) w t o.type e inf hun hinf g0 0 L.length r.cap p M.length c M.flatten (by rw[hisz];exact hlenM) hnc hone hroom
           (fun j hj=>by
            rw[hisz,Nat.zero_add]
            simp only[World.cell?,k6]
            rw[Array.getElem?_eq_getElem (by omega)]
            rfl)
           (fun j hj=>by simp[World.frozen?,k6])
          have hsame:=hrun.symm.trans hrun2
          injection hsame with e1 e2
          injection e1 with e3 e4 e5
          injection e3 with e6
          injection e6 with e7 _ _
          subst e7 e5
          rcases hor with ⟨hbad,_⟩ | ⟨g',cap',cur,hv',_,hheap,hnc',hcm,hcs,htake⟩
          ·cases hbad
          ·cases hv'
           refine fin g r.cap w' cur (by rw[hxv,k5,y3];exact hrun) ?_ hheap hnc' hcm hcs htake (.inl k1)
           have hlen3:(L.flatten++M.flatten).length=(L.length+M.length)*de.z:=by rw[List.length_append,hlenL,hlenM,Nat.add_mul]
           refine⟨hgrow.os,hgrow.tape,hgrow.output,hgrow.size,fun g2 hg2 arr2 t2 fz2 hh=>?_,fun g2 hg2 hl2=>?_⟩
           ·by_cases hgg:g2=g
            ·subst hgg
             rw[k6] at hh
             cases hh
             refine⟨cur,hheap,by rw[hcs,k7],fun q hq=>?_⟩
             have hq:=hq k1
             have a1:cur.toList[q]?=(cur.toList.take ((L.length+M.length)*de.z))[q]?:=by rw[List.getElem?_take,if_pos (by rw[Nat.add_mul];omega)]
             have a2:arr.toList[q]?=(arr.toList.take (L.length*de.z))[q]?:=by rw[List.getElem?_take,if_pos hq]
             rw[←Array.getElem?_toList,←Array.getElem?_toList,a1,a2,htake,k10,List.getElem?_append_left (by rw[hlenL];exact hq)]
            ·exact⟨arr2,by rw[hgrow.block g2 (Array.getElem?_eq_some_iff.1 hh).1 (fun h=>hgg (by simpa [Value.ownBlock] using h))];exact hh,rfl,fun _ _=>rfl⟩
           ·by_cases hgg:g2=g
            ·subst hgg
             exact absurd (hg2 (L.length*de.z) k1) (Nat.lt_irrefl _)
            ·exact hgrow.block g2 hl2 (fun h=>hgg (by simpa [Value.ownBlock] using h))
         ·obtain⟨v',w',hrun,⟨_,hor⟩,hgrow⟩:=run_append_arg_grows (P:=C.P) w t o.type e inf zv de.z de.bytes hun hinf hiz hisz hbb hzs hz0 ⟨g0,0,none⟩ L.length r.cap L.flatten hlenL (fun j u hj=>by
           rw[qcs]
           have hj':(arr.toList.take (L.length*de.z))[j]?=some u:=by rw[k10];exact hj
           rw[List.getElem?_take] at hj'
           split at hj'
           ·simpa [World.cell?,k6] using hj'
           ·cases hj') p M.length c M.flatten hlenM hnc (by omega) (by simp only[maxLen];omega) hbb2
          rcases hor with ⟨_,hbad⟩ | ⟨g',cap',cur,rfl,hge,hheap,hnc',hcm,hcs,htake⟩
          ·omega
          ·exact fin g' cap' w' cur (by rw[hxv,k5,y3];exact hrun) (hall hgrow) hheap hnc' hcm hcs htake (.inr hge)
     ·cases h
    ·cases h
   ·cases h
  ·cases h
 ·cases h
end
def argsO (tm:Tm):List Operand→Option (List SV)
 | []=>some []
 | x :: xs =>
  match getO tm x,argsO tm xs with
  | some u,some r=>some (u :: r)
  | _,_=>none
def putS (N:Nat) (tm:Tm):Option Tmp→Option SV→Option Tm
 | none,_=>some tm
 | some d,some sv=>bif Nat.blt d N then some (tm.put d (some sv)) else none
 | some d,none=>some (tm.put d none)
def qge:List Te→Out→Out
 | [],x=>x
 | c :: cs,x=>.need c (qge cs x)
def peekC (C:Cfg) (H:Hp) (t:Nat):AC→Option AV
 | .p b o=>peekA C H t b o
 | .pe b i j=>peekP C H t b i j
 | _=>none
def putK (N:Nat) (tm:Tm) (d:Option Tmp) (r:Option SV) (H:Hp) (k:Tm→Hp→Out):Out :=
 match putS N tm d r with
 | some tm'=>k tm' H
 | none=>.fail
abbrev Ce:=FuncId→List SV→Hp→(SV→Hp→Out)→Out
def stepT (C:Cfg) (ce:Ce) (N:Nat) (H:Hp) (tm:Tm) (o:Oper) (k:Tm→Hp→Out):Out :=
 match pureT C H tm o.op with
 | some (r,ns)=>qge ns (putK N tm o.dst (some r) H k)
 | none =>
  match o.op with
  | .load t x =>
   match cO tm x with
   | some c =>
    match peekC C H t c with
    | some av=>putK N tm o.dst (some (.o av)) H k
    | none =>
     match arrL C H t c with
     | some (av,ns)=>qge ns (putK N tm o.dst (some (.o av)) H k)
     | none=>.fail
   | none=>.fail
  | .call { callee:=.value (.func f),args,argTypes } =>
   match C.fn f,argsO tm args.toList with
   | some F,some as=>bif F.body.isSome then ce f as H (fun r H'=>putK N tm o.dst (some r) H' k) else .fail
   | _,_=>.fail
  | op =>
   match (bif litR C op then none else qdo C H tm op) with
   | some (r,H')=>putK N tm o.dst r H' k
   | none =>
    match symW C H tm op with
    | some (r,H',ns)=>qge ns (putK N tm o.dst r H' k)
    | none =>
     match arrW C H tm op with
     | some (r,H',ns)=>qge ns (putK N tm o.dst r H' k)
     | none =>
      match strW C H tm op with
      | some (r,H',ns)=>qge ns (putK N tm o.dst r H' k)
      | none =>
       match mrkW C H tm op with
       | some (r,H',ns)=>qge ns (putK N tm o.dst r H' k)
       | none=>.fail
section
variable {C:Cfg} {K0:Qn→Ex→Tm→Hp→Prop}
theorem qct {q:Qn}:∀{ns:List Te} {x:Out},(qge ns x).Ok C K0 q→(∀c∈ns,c.ev q.S=.bool true)∧x.Ok C K0 q
 | [],x,h=>⟨fun c hc=>(by cases hc),h⟩
 | c :: cs,x,h=>by
  obtain⟨h1,h2⟩:=h
  obtain⟨h3,h4⟩:=qct (ns:=cs) h2
  exact⟨fun d hd=>by rcases List.mem_cons.1 hd with rfl | hd;exact h1;exact h3 d hd,h4⟩
def CeOk (C:Cfg) (K0:Qn→Ex→Tm→Hp→Prop) (fr:Fr) (w0:Ws) (ce:Ce):Prop :=
 ∀f as H k E w (vs:Array Value),(ce f as H k).Ok C K0 E.q→RelH fr w0 E H w→as.length=vs.size→(∀(j:Nat) x v,as[j]?=some x→vs[j]?=some v→RelS E x v) →
  Calls C.P f vs w fun e w'=>∃E' v r H',e=.returned v∧E.le E'∧RelS E' r v∧RelH fr w0 E' H' w'∧(k r H').Ok C K0 E'.q
end
section
variable {C:Cfg} {K0:Qn→Ex→Tm→Hp→Prop} {fr:Fr} {E:Env} {N:Nat} {tm tm':Tm} {a:Act} {w0:Ws} {H H':Hp} {w w':World} {ce:Ce}
theorem qeH (hT:RelT E N tm a):∀(l:List Operand) {as:List SV},argsO tm l=some as→as.length=l.length∧∀(j:Nat) x v,as[j]?=some x→(l.map a.eval)[j]?=some v→RelS E x v
 | [],as,h=>by cases h;exact⟨rfl,fun j x v hx=>by simp at hx⟩
 | x :: xs,as,h=>by
  simp only[argsO] at h
  split at h
  ·rename_i u r hu hr
   cases h
   obtain⟨h1,h2⟩:=qeH hT xs hr
   refine⟨by simp[h1],fun j y v hy hv=>?_⟩
   cases j with
   | zero=>simp at hy hv;subst hy hv;exact qbd hT hu
   | succ j=>simp at hy;exact h2 j y v hy (by simpa using hv)
  ·cases h
theorem putS_ok (hT:RelT E N tm a) {d:Option Tmp} {r:Option SV} (h:putS N tm d r=some tm') {v:Value} (hv:Told E r v):RelT E N tm' (a.put d v):=by
 cases d with
 | none=>cases h;exact hT
 | some d =>
  cases r with
  | none=>cases h;exact hT.strike d v
  | some sv =>
   simp only[putS] at h
   cases hc:Nat.blt d N with
   | false=>rw[hc] at h;cases h
   | true =>
    rw[hc] at h
    cases h
    exact hT.put (by simpa using hc) hv
theorem qfM (hC:C.Ok) (hH:RelH fr w0 E H w) {t:Nat} {c:AC} {av:AV} (h:peekC C H t c=some av) {u:Value} (hu:RelC E c u):∃ad v,u=.pointer (some ad)∧RelV E av v∧(loadVar t ad).run C.P w=.ok v w:=by
 cases c with
 | p b o =>
  obtain⟨r,g,hr,hg,rfl⟩:=hu
  obtain⟨v,h1,h2⟩:=peek_ok hC hH h hr hg
  exact⟨_,v,rfl,h1,h2⟩
 | pe b i j=>exact peekP_ok hC hH h hu
 | _=>cases h
theorem qbX (hT:RelT E N tm a) {d:Option Tmp} {r:Option SV} {k:Tm→Hp→Out} {q:Qn} (h:(putK N tm d r H k).Ok C K0 q) {v:Value} (hv:Told E r v):∃tm',RelT E N tm' (a.put d v)∧(k tm' H).Ok C K0 q:=by
 unfold putK at h
 split at h
 ·rename_i tm' hp
  exact⟨tm',putS_ok hT hp hv,h⟩
 ·exact h.elim
theorem stepT_ok (hC:C.Ok) (hce:CeOk C K0 fr w0 ce) (hH:RelH fr w0 E H w) (hT:RelT E N tm a) {o:Oper} {k:Tm→Hp→Out} (h:(stepT C ce N H tm o k).Ok C K0 E.q) {Q:Exit→Act→World→Prop} {K:Act→World→Prop}
  (hK:∀E' w' v tm' H',E.le E'→RelH fr w0 E' H' w'→RelT E' N tm' (a.put o.dst v)→(k tm' H').Ok C K0 E'.q→K (a.put o.dst v) w'):o.wp C.P a w K Q:=by
 unfold stepT at h
 split at h
 ·rename_i r ns hp
  obtain⟨h1,h2⟩:=qct h
  obtain⟨v,hv,hrun⟩:=pureT_ok hC hH hT hp h1
  obtain⟨tm',h3,h4⟩:=qbX (r:=some r) hT h2 hv
  exact qbh (hrun w) (hK E w v tm' H (Env.le_refl E) hH h3 h4)
 ·split at h
  ·rename_i t x ho
   split at h
   ·rename_i c hx
    split at h
    ·rename_i av hpk
     obtain⟨ad,v,hev,hv,hrun⟩:=qfM hC hH hpk (qaT hT hx)
     obtain⟨tm',h3,h4⟩:=qbX (r:=some (.o av)) hT h hv
     refine qbh (v:=v) ?_ (hK E w v tm' H (Env.le_refl E) hH h3 h4)
     unfold execOp;rw[ho]
     refine qbu ?_
     simp only[Instr.loadAt,hev,Sem.run_bind,sureAddr_run,Result.andThen_ok,hrun]
    ·split at h
     ·rename_i av ns hpk
      obtain⟨h1,h2⟩:=qct h
      obtain⟨ad,v,hev,hv,hrun⟩:=arrL_ok hC hH hpk h1 (qaT hT hx)
      obtain⟨tm',h3,h4⟩:=qbX (r:=some (.o av)) hT h2 hv
      refine qbh (v:=v) ?_ (hK E w v tm' H (Env.le_refl E) hH h3 h4)
      unfold execOp;rw[ho]
      refine qbu ?_
      simp only[Instr.loadAt,hev,Sem.run_bind,sureAddr_run,Result.andThen_ok,hrun]
     ·exact h.elim
   ·exact h.elim
  ·rename_i f args argTypes ho
   split at h
   ·rename_i F as hF has
    cases hb:F.body.isSome with
    | false=>rw[hb] at h;exact h.elim
    | true =>
     rw[hb,cond_true] at h
     obtain⟨hf,hnm⟩:=hC.fn _ _ hF
     obtain⟨hl,hr⟩:=qeH hT args.toList has
     have hcall:=hce f as H _ E w (args.map a.eval) h hH (by rw[hl];simp) (fun j x v hx hv=>hr j x v hx (by simpa using hv))
     have hrun:(execOp a.eval o).run C.P w=.ok (.enter f (args.map a.eval)) w:=by
      unfold execOp;rw[ho]
      have hnn:F.body.isNone=false:=by cases hbb:F.body<;>simp_all
      simp only[resolve,Act.eval,Deferred.ofValue,invoke,callFunc,Sem.run_bind,Sem.run_pure,Result.andThen_ok,run_program,hf]
      simp[hnm,hnn]
     unfold Oper.wp
     rw[hrun]
     refine Calls.mono hcall ?_
     rintro e w' ⟨E',v,r,H',rfl,hle,hv,hH',hk⟩
     obtain⟨tm',h3,h4⟩:=qbX (r:=some r) (hT.mono hle) hk hv
     exact hK E' w' v tm' H' hle hH' h3 h4
   ·exact h.elim
  ·rename_i op ho1 ho2
   split at h
   ·rename_i r H2 hw
    have hw:qdo C H tm o.op=some (r,H2):=by
     cases hq:litR C o.op with
     | true=>rw[hq] at hw;cases hw
     | false=>rw[hq,cond_false] at hw;exact hw
    refine writeE_ok hC hH hT hw fun E' w' v hle hq hH' hv=>?_
    rw[←hq] at h
    obtain⟨tm',h3,h4⟩:=qbX (hT.mono hle) h hv
    exact hK E' w' v tm' H2 hle hH' h3 h4
   ·split at h
    ·rename_i r H2 ns hw
     obtain⟨h1,h2⟩:=qct h
     refine symW_ok hC hH hT hw h1 fun E' w' v hle hq hH' hv=>?_
     rw[←hq] at h2
     obtain⟨tm',h3,h4⟩:=qbX (hT.mono hle) h2 hv
     exact hK E' w' v tm' H2 hle hH' h3 h4
    ·split at h
     ·rename_i r H2 ns hw
      obtain⟨h1,h2⟩:=qct h
      refine arrW_ok hC hH hT hw h1 fun E' w' v hle hq hH' hv=>?_
      rw[←hq] at h2
      obtain⟨tm',h3,h4⟩:=qbX (hT.mono hle) h2 hv
      exact hK E' w' v tm' H2 hle hH' h3 h4
     ·split at h
      ·rename_i r H2 ns hw
       obtain⟨h1,h2⟩:=qct h
       refine strW_ok hC hH hT hw h1 fun E' w' v hle hq hH' hv=>?_
       rw[←hq] at h2
       obtain⟨tm',h3,h4⟩:=qbX (hT.mono hle) h2 hv
       exact hK E' w' v tm' H2 hle hH' h3 h4
      ·split at h
       ·rename_i r H2 ns hw
        obtain⟨h1,h2⟩:=qct h
        refine mrkW_ok hC hH hT hw h1 fun E' w' v hle hq hH' hv=>?_
        rw[←hq] at h2
        obtain⟨tm',h3,h4⟩:=qbX (hT.mono hle) h2 hv
        exact hK E' w' v tm' H2 hle hH' h3 h4
       ·exact h.elim
end
mutual
def teSz:Te→Nat
 | .s _=>1
 | .l _=>1
 | .bin _ a b=>teSz a+teSz b+1
 | .not a=>teSz a+1
 | .and a b=>teSz a+teSz b+1
 | .cv _ a=>teSz a+1
 | .sl a=>teSz a+1
 | .len _=>1
 | .cell _ _ _=>1
 | .ite c a b=>teSz c+teSz a+teSz b+1
 | .sub a i j=>teSz a+teSz i+teSz j+1
 | .str _=>1
def rtSz:RT→Nat
 | _=>1
def tlSz:TL→Nat
 | _=>1
end
def bigT (b:Nat) (te:Te):Bool:=bif Nat.beq b 0 then false else Nat.ble b (teSz te)
def nameL (C:Cfg):List Nat→Tm→Hp→(Tm→Hp→Out)→Out
 | [],tm,H,k=>k tm H
 | d :: ds,tm,H,k =>
  match tm.get d with
  | some (.o (.c (.t ck te)))=>bif bigT C.big te then .name te (nameL C ds (tm.put d (some (.o (.c (.t ck (.s H.n)))))) ⟨H.next,H.bs,H.n+1,H.m⟩ k) else nameL C ds tm H k
  | _=>nameL C ds tm H k
def srcOf (o:Oper):List Nat :=
 match o.op with
 | .store _ _ (.tmp d)=>[d]
 | _=>[]
def asgs:List Oper→List Nat
 | []=>[]
 | o :: l =>
  match o.op,o.dst with
  | .assign _,some d=>d :: asgs l
  | _,_=>asgs l
def stepN (C:Cfg) (ce:Ce) (N:Nat) (H:Hp) (tm:Tm) (o:Oper) (k:Tm→Hp→Out):Out:=nameL C (srcOf o) tm H fun tm H=>stepT C ce N H tm o k
def Env.nm (E:Env) (v:Value):Env:=⟨E.rg,E.q.ext [v] []⟩
section
variable {C:Cfg} {K0:Qn→Ex→Tm→Hp→Prop} {fr:Fr} {E:Env} {N:Nat} {tm tm':Tm} {a:Act} {w0:Ws} {H H':Hp} {w w':World} {ce:Ce}
theorem Env.le_nm (E:Env) (v:Value):E.le (E.nm v):=⟨fun _ _ h=>h,Qn.le_ext _ _ _⟩
theorem RelH.named (hH:RelH fr w0 E H w) (v:Value):RelH fr w0 (E.nm v) ⟨H.next,H.bs,H.n+1,H.m⟩ w where
 blk b bl hb:=⟨(hH.blk b bl hb).1,RelB.mono (Env.le_nm E v) (hH.blk b bl hb).2⟩
 fresh:=hH.fresh
 apart:=hH.apart
 free:=hH.free
 frlt:=hH.frlt
 keep:=hH.keep
 cnt:=⟨by show E.q.n+1=H.n+1;rw[hH.cnt.1],hH.cnt.2⟩
theorem RelT.reput (hT:RelT E N tm a) {E':Env} (hle:E.le E') {d:Nat} {sv sv':SV} (hc:tm.get d=some sv) (h:RelS E' sv' (a.tmps.getD d undef)):RelT E' N (tm.put d (some sv')) a:=by
 refine⟨hT.size,hT.defers,fun t q hq=>?_⟩
 rw[Tr.get_put] at hq
 split at hq
 ·rename_i e
  cases hq
  subst e
  exact⟨(hT.at_ _ _ hc).1,h⟩
 ·exact⟨(hT.at_ _ _ hq).1,(hT.at_ _ _ hq).2.mono hle⟩
theorem qdK {k:Tm→Hp→Out}:∀(ds:List Nat) (E:Env) (tm:Tm) (H:Hp),(nameL C ds tm H k).Ok C K0 E.q→RelH fr w0 E H w→RelT E N tm a→∃E' tm' H',E.le E'∧RelH fr w0 E' H' w∧RelT E' N tm' a∧(k tm' H').Ok C K0 E'.q
 | [],E,tm,H,h,hH,hT=>⟨E,tm,H,Env.le_refl E,hH,hT,h⟩
 | d :: ds,E,tm,H,h,hH,hT=>by
  simp only[nameL] at h
  split at h
  ·rename_i ck te hg
   cases hb:bigT C.big te with
   | false=>rw[hb] at h;exact qdK ds E tm H h hH hT
   | true =>
    rw[hb,cond_true] at h
    obtain⟨hd,hk,hev⟩:=hT.at_ d _ hg
    have hv:=hev _ E.q.has_self
    have h:(nameL C ds (tm.put d (some (.o (.c (.t ck (.s H.n)))))) ⟨H.next,H.bs,H.n+1,H.m⟩ k).Ok C K0 (E.nm (te.ev E.q.S)).q:=h
    obtain⟨E',tm',H',h1,h2,h3,h4⟩:=qdK ds (E.nm (te.ev E.q.S)) _ _ h (hH.named _) (hT.reput (Env.le_nm E _) hg (sv':=.o (.c (.t ck (.s H.n)))) ⟨hk,fun S hS=>by
     have hn:H.n < (E.nm (te.ev E.q.S)).q.n:=by show H.n < E.q.n+1;rw[hH.cnt.1];omega
     show S.v H.n=_
     rw[hS.1 _ hn]
     show(if H.n < E.q.n then E.q.S.v H.n else [te.ev E.q.S].getD (H.n - E.q.n) undef)=_
     rw[if_neg (by rw[hH.cnt.1];omega),show H.n - E.q.n=0 from by rw[hH.cnt.1];omega]
     exact hv⟩)
    exact⟨E',tm',H',Env.le_trans (Env.le_nm E _) h1,h2,h3,h4⟩
  ·exact qdK ds E tm H h hH hT
theorem stepN_ok (hC:C.Ok) (hce:CeOk C K0 fr w0 ce) (hH:RelH fr w0 E H w) (hT:RelT E N tm a) {o:Oper} {k:Tm→Hp→Out} (h:(stepN C ce N H tm o k).Ok C K0 E.q) {Q:Exit→Act→World→Prop} {K:Act→World→Prop}
  (hK:∀E' w' v tm' H',E.le E'→RelH fr w0 E' H' w'→RelT E' N tm' (a.put o.dst v)→(k tm' H').Ok C K0 E'.q→K (a.put o.dst v) w'):o.wp C.P a w K Q:=by
 obtain⟨E1,tm1,H1,h1,h2,h3,h4⟩:=qdK (srcOf o) E tm H h hH hT
 exact stepT_ok hC hce h2 h3 h4 fun E' w' v tm' H' hle=>hK E' w' v tm' H' (Env.le_trans h1 hle)
end
inductive Gd where
 | yes
 | no
 | ask (d:Nat) (te:Te) (want:Bool)
 | bad
def guardT (all:Array Oper) (tm:Tm) (o:Oper):Gd :=
 match o.guard with
 | none=>.yes
 | some (j,want) =>
  match (all[j]?).bind (·.dst) with
  | some d =>
   match tm.get d with
   | some (.o (.c (.v (.bool b))))=>bif b==want then .yes else .no
   | some (.o (.c (.t .b te)))=>.ask d te want
   | some (.tu [])=>.no
   | _=>.bad
  | none=>.bad
def qdf (N:Nat) (tm:Tm):Option Tmp→Tm
 | none=>tm
 | some d=>bif Nat.blt d N then tm.put d (some (.tu [])) else tm.put d none
def qhb (b:Bool):SV:=.o (.c (.v (.bool b)))
def askG (d:Nat) (te:Te) (want:Bool) (tm:Tm) (yes no:Tm→Out):Out :=
 bif want then .ask te (yes (tm.put d (some (qhb true)))) (no (tm.put d (some (qhb false)))) else .ask te (no (tm.put d (some (qhb true)))) (yes (tm.put d (some (qhb false))))
def opsT (C:Cfg) (ce:Ce) (N:Nat) (all:Array Oper):List Oper→Tm→Hp→(Tm→Hp→Out)→Out
 | [],tm,H,k=>k tm H
 | o :: rest,tm,H,k =>
  match guardT all tm o with
  | .yes=>stepN C ce N H tm o (fun tm' H'=>opsT C ce N all rest tm' H' k)
  | .no=>opsT C ce N all rest (qdf N tm o.dst) H k
  | .ask d te want=>askG d te want tm (fun tm=>stepN C ce N H tm o (fun tm' H'=>opsT C ce N all rest tm' H' k)) (fun tm=>opsT C ce N all rest (qdf N tm o.dst) H k)
  | .bad=>.fail
section
variable {C:Cfg} {K0:Qn→Ex→Tm→Hp→Prop} {fr:Fr} {E:Env} {N:Nat} {tm tm':Tm} {a:Act} {w0:Ws} {H H':Hp} {w w':World} {ce:Ce}
theorem qgj (hT:RelT E N tm a) {all:Array Oper} {o:Oper} {j d:Nat} {want c:Bool} (hg:o.guard=some (j,want)) (hd:(all[j]?).bind (·.dst)=some d) {sv:SV} (hc:tm.get d=some sv) (hv:a.tmps.getD d undef=.bool c):Region.wanted o (yielded all a.tmps)=(c==want):=by
 unfold Region.wanted
 rw[hg]
 simp only
 obtain⟨hdn,_⟩:=hT.at_ d _ hc
 have hlt:d < a.tmps.size:=by rw[hT.size];exact hdn
 have hq:a.tmps[d]?=some (.bool c):=by
  rw[Array.getElem?_eq_getElem hlt]
  simp only[Array.getD,hlt,dif_pos] at hv
  rw[←hv]
  rfl
 have:yielded all a.tmps j=some c:=by
  unfold yielded
  rw[hd]
  simp only[Option.bind_some,hq]
 rw[this]
 cases c<;>cases want<;>rfl
theorem RelT.know (hT:RelT E N tm a) {d:Nat} {sv:SV} (hc:tm.get d=some sv) {b:Bool} (hv:a.tmps.getD d undef=.bool b):RelT E N (tm.put d (some (qhb b))) a:=by
 refine⟨hT.size,hT.defers,fun t q hq=>?_⟩
 rw[Tr.get_put] at hq
 split at hq
 ·rename_i e
  cases hq
  subst e
  exact⟨(hT.at_ _ _ hc).1,by rw[hv];exact⟨rfl,rfl⟩⟩
 ·exact hT.at_ t q hq
theorem qfg (hT:RelT E N tm a) (d:Option Tmp):RelT E N (qdf N tm d) (a.put d undef):=by
 cases d with
 | none=>exact hT
 | some d =>
  simp only[qdf]
  cases hc:Nat.blt d N with
  | false=>exact hT.strike d undef
  | true=>exact hT.put (sv:=.tu []) (by simpa using hc) (show RelS E (.tu []) undef from ⟨#[],rfl,rfl,fun j x v h=>by simp at h⟩)
theorem qdx (hT:RelT E N tm a) {all:Array Oper} {o:Oper} {yes no:Tm→Out} (h:(match guardT all tm o with | .yes=>yes tm | .no=>no tm | .ask d te want=>askG d te want tm yes no | .bad=>.fail).Ok C K0 E.q) :
  ∃tm',RelT E N tm' a∧((Region.wanted o (yielded all a.tmps)=true∧(yes tm').Ok C K0 E.q)∨(Region.wanted o (yielded all a.tmps)=false∧(no tm').Ok C K0 E.q)):=by
 unfold guardT at h
 cases hg:o.guard with
 | none =>
  rw[hg] at h
  exact⟨tm,hT,.inl ⟨by unfold Region.wanted;rw[hg],h⟩⟩
 | some p =>
  obtain⟨j,want⟩:=p
  rw[hg] at h
  dsimp only at h
  cases hd:(all[j]?).bind (·.dst) with
  | none=>rw[hd] at h;exact h.elim
  | some d =>
   rw[hd] at h
   dsimp only at h
   by_cases htu:tm.get d=some (.tu [])
   ·rw[htu] at h
    obtain⟨hdn,arr,hu,hsz,_⟩:=hT.at_ d _ htu
    have harr:arr=#[]:=Array.eq_empty_of_size_eq_zero (by simpa using hsz.symm)
    have hlt:d < a.tmps.size:=by rw[hT.size];exact hdn
    have hq:a.tmps[d]?=some undef:=by
     rw[Array.getElem?_eq_getElem hlt]
     simp only[Array.getD,hlt,dif_pos] at hu
     rw[harr] at hu
     exact congrArg some hu
    refine⟨tm,hT,.inr ⟨?_,h⟩⟩
    unfold Region.wanted
    rw[hg]
    simp only
    have:yielded all a.tmps j=none:=by
     unfold yielded
     rw[hd]
     simp only[Option.bind_some,hq]
     rfl
    rw[this]
    rfl
   split at h
   ·rename_i heq
    split at heq
    ·rename_i b hc
     cases hbw:(b==want) with
     | false=>rw[hbw] at heq;cases heq
     | true=>exact⟨tm,hT,.inl ⟨by rw[qgj hT hg hd hc (hT.at_ d _ hc).2.1,hbw],h⟩⟩
    ·cases heq
    ·cases heq
    ·cases heq
   ·rename_i heq
    split at heq
    ·rename_i b hc
     cases hbw:(b==want) with
     | true=>rw[hbw] at heq;cases heq
     | false=>exact⟨tm,hT,.inr ⟨by rw[qgj hT hg hd hc (hT.at_ d _ hc).2.1,hbw],h⟩⟩
    ·cases heq
    ·rename_i hc
     exact absurd hc htu
    ·cases heq
   ·rename_i d' te want' heq
    split at heq
    ·rename_i b hc
     cases hbw:(b==want) with
     | true=>rw[hbw] at heq;cases heq
     | false=>rw[hbw] at heq;cases heq
    ·rename_i te' hc
     cases heq
     obtain⟨⟨b,hb⟩,hev⟩:=(hT.at_ d _ hc).2
     have hbe:=hev _ E.q.has_self
     rw[hb] at hbe
     have hwt:=qgj hT hg hd hc hb
     have hkn:=hT.know hc hb
     unfold askG at h
     cases want with
     | true =>
      rw[cond_true] at h
      cases b with
      | true=>exact⟨_,hkn,.inl ⟨hwt,h.1 hbe⟩⟩
      | false=>exact⟨_,hkn,.inr ⟨hwt,h.2 hbe⟩⟩
     | false =>
      rw[cond_false] at h
      cases b with
      | true=>exact⟨_,hkn,.inr ⟨hwt,h.1 hbe⟩⟩
      | false=>exact⟨_,hkn,.inl ⟨hwt,h.2 hbe⟩⟩
    ·cases heq
    ·cases heq
   ·exact h.elim
theorem opsT_ok (hC:C.Ok) (hce:CeOk C K0 fr w0 ce) {all:Array Oper} {Q:Exit→Act→World→Prop} {k:Tm→Hp→Out}:∀(l:List Oper) (tm:Tm) (H:Hp) (E:Env) (a:Act) (w:World),(opsT C ce N all l tm H k).Ok C K0 E.q→RelH fr w0 E H w→RelT E N tm a →
  (∀E' a' w' tm' H',E.le E'→RelH fr w0 E' H' w'→RelT E' N tm' a'→(k tm' H').Ok C K0 E'.q→Q .normal a' w')→wpList C.P all Q l a w
 | [],tm,H,E,a,w,h,hH,hT,hQ=>wpList_nil (hQ E a w tm H (Env.le_refl E) hH hT h)
 | o :: rest,tm,H,E,a,w,h,hH,hT,hQ=>by
  simp only[opsT] at h
  obtain⟨tm1,hT1,⟨hw,h1⟩ | ⟨hw,h1⟩⟩:=qdx (yes:=fun tm=>stepN C ce N H tm o (fun tm' H'=>opsT C ce N all rest tm' H' k)) (no:=fun tm=>opsT C ce N all rest (qdf N tm o.dst) H k) hT h
  ·refine wpList_step fun K hK=>?_
   rw[if_pos hw]
   refine stepN_ok hC hce hH hT1 h1 fun E' w' v tm' H' hle hH' hT' hk=>hK _ _ ?_
   exact opsT_ok hC hce rest tm' H' E' _ w' hk hH' hT' fun E2 a2 w2 tm2 H2 hle2=>hQ E2 a2 w2 tm2 H2 (Env.le_trans hle hle2)
  ·refine wpList_step fun K hK=>?_
   rw[if_neg (by rw[hw];decide)]
   refine hK _ _ ?_
   exact opsT_ok hC hce rest _ H E _ w h1 hH (qfg hT1 o.dst) hQ
end
def isWriter:Op→Bool
 | .store .. | .alloc _ | .box .. | .buildSlice .. | .makeSlice ..=>true
 | .call { callee:=.builtin .append,.. }=>true
 | .call { callee:=.value _,.. }=>true
 | _=>false
def isWr (C:Cfg):Op→Bool
 | .convert s _ _=>match C.ty s with
  | some ⟨.slice _,_,_,_⟩=>true
  | _=>false
 | .load t _=>match C.ty t with
  | some ⟨.struct _,1,[.slice _ _ _],_⟩=>true
  | _=>false
 | op=>isWriter op
inductive Pl where
 | done
 | take (i:Nat) (rest:Pl)
 | one (i:Nat) (rest:Pl)
 | two (i:Nat) (x:Pl) (j:Nat) (y:Pl)
def Pl.dep:Pl→Nat
 | .done=>0
 | .take _ r=>r.dep+1
 | .one _ r=>r.dep+1
 | .two _ x _ y=>max x.dep y.dep+1
def qfT (wr:Op→Bool) (ops:Array Oper):Nat→Array Bool→Pl
 | 0,_=>.done
 | n+1,listed =>
  match (Region.ready .any ops listed).find? (fun i=>!wr (ops.getD i default).op) with
  | some i=>.take i (qfT wr ops n (listed.setIfInBounds i true))
  | none =>
   match Region.ready .any ops listed with
   | [i]=>.one i (qfT wr ops n (listed.setIfInBounds i true))
   | [i,j]=>.two i (qfT wr ops n (listed.setIfInBounds i true)) j (qfT wr ops n (listed.setIfInBounds j true))
   | _=>.done
def oneOf:List Nat→Nat→Bool
 | [j],i=>Nat.beq j i
 | _,_=>false
def twoOf:List Nat→Nat→Nat→Bool
 | [a,b],i,j=>Nat.beq a i&&Nat.beq b j
 | _,_,_=>false
def qcq (ops:Array Oper):Pl→Array Bool→Bool
 | .done,listed=>(Region.ready .any ops listed).isEmpty
 | .take i rest,listed=>Region.free .any ops listed i&&(Region.ready .any ops listed).contains i&&qcq ops rest (listed.setIfInBounds i true)
 | .one i rest,listed=>oneOf (Region.ready .any ops listed) i&&qcq ops rest (listed.setIfInBounds i true)
 | .two i x j y,listed=>twoOf (Region.ready .any ops listed) i j&&qcq ops x (listed.setIfInBounds i true)&&qcq ops y (listed.setIfInBounds j true)
def planned (wr:Op→Bool) (ops:Array Oper):Option Pl :=
 let p:=qfT wr ops ops.size (Array.replicate ops.size false)
 bif Region.noSelect ops&&qcq ops p (Array.replicate ops.size false)&&Nat.ble p.dep ops.size then some p else none
def isWr0 (C:Cfg):Op→Bool
 | .convert s _ _=>match C.ty s with
  | some ⟨.slice _,_,_,_⟩=>true
  | _=>false
 | op=>isWriter op
def planR (C:Cfg) (ops:Array Oper):Option Pl :=
 match planned (isWr C) ops with
 | some p=>some p
 | none=>planned (isWr0 C) ops
theorem qgX {wr:Op→Bool} {ops:Array Oper} {p:Pl} (h:planned wr ops=some p):Region.noSelect ops=true∧qcq ops p (Array.replicate ops.size false)=true∧p.dep≤ops.size:=by
 unfold planned at h
 simp only at h
 cases hc:(Region.noSelect ops&&qcq ops (qfT wr ops ops.size (Array.replicate ops.size false)) (Array.replicate ops.size false)&&Nat.ble (qfT wr ops ops.size (Array.replicate ops.size false)).dep ops.size) with
 | false=>rw[hc] at h;cases h
 | true =>
  rw[hc] at h
  cases h
  simp only[Bool.and_eq_true,Nat.ble_eq] at hc
  exact⟨hc.1.1,hc.1.2,hc.2⟩
theorem planR_ok {C:Cfg} {ops:Array Oper} {p:Pl} (h:planR C ops=some p):Region.noSelect ops=true∧qcq ops p (Array.replicate ops.size false)=true∧p.dep≤ops.size:=by
 unfold planR at h
 split at h
 ·rename_i hp;cases h;exact qgX hp
 ·exact qgX h
def valEq:Value→Value→Bool
 | .bool a,.bool b=>a==b
 | .int k a,.int j b=>decide (k=j)&&qfA a b
 | .string s,.string t=>decide (s=t)
 | .slice none 0 0,.slice none 0 0=>true
 | .pointer none,.pointer none=>true
 | _,_=>false
theorem qfQ {x y:Value} (h:valEq x y=true):x=y:=by
 unfold valEq at h
 split at h
 ·simp only[beq_iff_eq] at h;rw[h]
 ·simp only[Bool.and_eq_true,decide_eq_true_eq] at h;rw[qeG] at h;rw[h.1,of_decide_eq_true h.2]
 ·simp only[decide_eq_true_eq] at h;rw[h]
 ·rfl
 ·rfl
 ·cases h
mutual
def qcQ:Te→Te→Bool
 | .s i,.s j=>Nat.beq i j
 | .l v,.l w=>valEq v w
 | .bin op a b,.bin op' a' b'=>decide (op=op')&&qcQ a a'&&qcQ b b'
 | .not a,.not a'=>qcQ a a'
 | .and a b,.and a' b'=>qcQ a a'&&qcQ b b'
 | .cv k a,.cv k' a'=>decide (k=k')&&qcQ a a'
 | .sl a,.sl a'=>qcQ a a'
 | .len r,.len r'=>qhf r r'
 | .cell r i j,.cell r' i' j'=>qhf r r'&&qcQ i i'&&Nat.beq j j'
 | .ite c a b,.ite c' a' b'=>qcQ c c'&&qcQ a a'&&qcQ b b'
 | .sub a i j,.sub a' i' j'=>qcQ a a'&&qcQ i i'&&qcQ j j'
 | .str r,.str r'=>qhf r r'
 | _,_=>false
def qhf:RT→RT→Bool
 | .s i,.s j=>Nat.beq i j
 | .nil,.nil=>true
 | .one cs,.one cs'=>tlEq cs cs'
 | .app a b,.app a' b'=>qhf a a'&&qhf b b'
 | .set r i j cs,.set r' i' j' cs'=>qhf r r'&&qcQ i i'&&Nat.beq j j'&&tlEq cs cs'
 | .take r n,.take r' n'=>qhf r r'&&qcQ n n'
 | .drop r n,.drop r' n'=>qhf r r'&&qcQ n n'
 | .rep cs n,.rep cs' n'=>tlEq cs cs'&&qcQ n n'
 | .by a,.by a'=>qcQ a a'
 | _,_=>false
def tlEq:TL→TL→Bool
 | .nil,.nil=>true
 | .cons x xs,.cons y ys=>qcQ x y&&tlEq xs ys
 | _,_=>false
end
mutual
theorem qaS:∀(x y:Te),qcQ x y=true→x=y
 | .s i,y,h=>by cases y<;>simp only[qcQ] at h<;>first | (rw[Nat.eq_of_beq_eq_true h];done) | cases h
 | .l v,y,h=>by cases y<;>simp only[qcQ] at h<;>first | (rw[qfQ h];done) | cases h
 | .bin op a b,y,h=>by
  cases y<;>simp only[qcQ] at h<;>first | cases h | skip
  simp only[Bool.and_eq_true,decide_eq_true_eq] at h
  rw[h.1.1,qaS _ _ h.1.2,qaS _ _ h.2]
 | .not a,y,h=>by cases y<;>simp only[qcQ] at h<;>first | (rw[qaS _ _ h];done) | cases h
 | .and a b,y,h=>by
  cases y<;>simp only[qcQ] at h<;>first | cases h | skip
  simp only[Bool.and_eq_true] at h
  rw[qaS _ _ h.1,qaS _ _ h.2]
 | .cv k a,y,h=>by
  cases y<;>simp only[qcQ] at h<;>first | cases h | skip
  simp only[Bool.and_eq_true,decide_eq_true_eq] at h
  rw[h.1,qaS _ _ h.2]
 | .sl a,y,h=>by cases y<;>simp only[qcQ] at h<;>first | (rw[qaS _ _ h];done) | cases h
 | .len r,y,h=>by cases y<;>simp only[qcQ] at h<;>first | (rw[qcP _ _ h];done) | cases h
 | .cell r i j,y,h=>by
  cases y<;>simp only[qcQ] at h<;>first | cases h | skip
  simp only[Bool.and_eq_true] at h
  rw[qcP _ _ h.1.1,qaS _ _ h.1.2,Nat.eq_of_beq_eq_true h.2]
 | .ite c a b,y,h=>by
  cases y<;>simp only[qcQ] at h<;>first | cases h | skip
  simp only[Bool.and_eq_true] at h
  rw[qaS _ _ h.1.1,qaS _ _ h.1.2,qaS _ _ h.2]
 | .sub a i j,y,h=>by
  cases y<;>simp only[qcQ] at h<;>first | cases h | skip
  simp only[Bool.and_eq_true] at h
  rw[qaS _ _ h.1.1,qaS _ _ h.1.2,qaS _ _ h.2]
 | .str r,y,h=>by cases y<;>simp only[qcQ] at h<;>first | (rw[qcP _ _ h];done) | cases h
theorem qcP:∀(x y:RT),qhf x y=true→x=y
 | .s i,y,h=>by cases y<;>simp only[qhf] at h<;>first | (rw[Nat.eq_of_beq_eq_true h];done) | cases h
 | .nil,y,h=>by cases y<;>simp only[qhf] at h<;>first | rfl | cases h
 | .one cs,y,h=>by cases y<;>simp only[qhf] at h<;>first | (rw[tlEq_eq _ _ h];done) | cases h
 | .app a b,y,h=>by
  cases y<;>simp only[qhf] at h<;>first | cases h | skip
  simp only[Bool.and_eq_true] at h
  rw[qcP _ _ h.1,qcP _ _ h.2]
 | .set r i j cs,y,h=>by
  cases y<;>simp only[qhf] at h<;>first | cases h | skip
  simp only[Bool.and_eq_true] at h
  rw[qcP _ _ h.1.1.1,qaS _ _ h.1.1.2,Nat.eq_of_beq_eq_true h.1.2,tlEq_eq _ _ h.2]
 | .take r n,y,h=>by
  cases y<;>simp only[qhf] at h<;>first | cases h | skip
  simp only[Bool.and_eq_true] at h
  rw[qcP _ _ h.1,qaS _ _ h.2]
 | .drop r n,y,h=>by
  cases y<;>simp only[qhf] at h<;>first | cases h | skip
  simp only[Bool.and_eq_true] at h
  rw[qcP _ _ h.1,qaS _ _ h.2]
 | .rep cs n,y,h=>by
  cases y<;>simp only[qhf] at h<;>first | cases h | skip
  simp only[Bool.and_eq_true] at h
  rw[tlEq_eq _ _ h.1,qaS _ _ h.2]
 | .by a,y,h=>by cases y<;>simp only[qhf] at h<;>first | (rw[qaS _ _ h];done) | cases h
theorem tlEq_eq:∀(x y:TL),tlEq x y=true→x=y
 | .nil,y,h=>by cases y<;>simp only[tlEq] at h<;>first | rfl | cases h
 | .cons x xs,y,h=>by
  cases y<;>simp only[tlEq] at h<;>first | cases h | skip
  simp only[Bool.and_eq_true] at h
  rw[qaS _ _ h.1,tlEq_eq _ _ h.2]
end
def acEq:AC→AC→Bool
 | .v x,.v y=>valEq x y
 | .t k te,.t k' te'=>qgU k k'&&qcQ te te'
 | .p b o,.p c q=>Nat.beq b c&&Nat.beq o q
 | .pe b i j,.pe c i' j'=>Nat.beq b c&&qcQ i i'&&Nat.beq j j'
 | .sl b i n,.sl c j m=>Nat.beq b c&&Nat.beq i j&&Nat.beq n m
 | .sr b,.sr c=>Nat.beq b c
 | _,_=>false
theorem acEq_eq {x y:AC} (h:acEq x y=true):x=y∧x.sure=true:=by
 unfold acEq at h
 split at h
 ·exact⟨by rw[qfQ h],rfl⟩
 ·simp only[Bool.and_eq_true] at h;exact⟨by rw[qco h.1,qaS _ _ h.2],rfl⟩
 ·simp only[Bool.and_eq_true] at h;exact⟨by rw[Nat.eq_of_beq_eq_true h.1,Nat.eq_of_beq_eq_true h.2],rfl⟩
 ·simp only[Bool.and_eq_true] at h;exact⟨by rw[Nat.eq_of_beq_eq_true h.1.1,qaS _ _ h.1.2,Nat.eq_of_beq_eq_true h.2],rfl⟩
 ·simp only[Bool.and_eq_true] at h;exact⟨by rw[Nat.eq_of_beq_eq_true h.1.1,Nat.eq_of_beq_eq_true h.1.2,Nat.eq_of_beq_eq_true h.2],rfl⟩
 ·exact⟨by rw[Nat.eq_of_beq_eq_true h],rfl⟩
 ·cases h
def allEq:List AC→List AC→Bool
 | [],[]=>true
 | x :: xs,y :: ys=>acEq x y&&allEq xs ys
 | _,_=>false
theorem allEq_eq:∀{xs ys:List AC},allEq xs ys=true→xs=ys∧∀x∈xs,x.sure=true
 | [],[],_=>⟨rfl,fun x h=>by cases h⟩
 | x :: xs,y :: ys,h=>by
  simp only[allEq,Bool.and_eq_true] at h
  obtain⟨rfl,hs⟩:=acEq_eq h.1
  obtain⟨rfl,hs2⟩:=allEq_eq h.2
  exact⟨rfl,fun z hz=>by rcases List.mem_cons.1 hz with rfl | hz;exact hs;exact hs2 z hz⟩
 | [],_ :: _,h=>by cases h
 | _ :: _,[],h=>by cases h
def avEq:AV→AV→Bool
 | .c x,.c y=>acEq x y
 | .ag xs,.ag ys=>allEq xs ys
 | _,_=>false
structure Ld where
 i:Nat
 t:Nat
 c:AC
 av:AV
def qec (ops:Array Oper) (j k:Nat):Bool :=
 match ops[j]? with
 | some o=>o.after.any fun e=>Region.binds .any e&&Nat.beq e.on k
 | none=>false
def takeT (C:Cfg) (H:Hp) (tm:Tm) (i:Nat) (o:Oper):Option (SV × List Te × List Ld) :=
 match pureT C H tm o.op with
 | some (r,ns)=>some (r,ns,[])
 | none =>
  match o.op with
  | .load t x =>
   match cO tm x with
   | some c =>
    match peekC C H t c with
    | some av=>some (.o av,[],[⟨i,t,c,av⟩])
    | none=>none
   | _=>none
  | _=>none
def sameAt (C:Cfg) (H:Hp) (l:Ld):Bool :=
 match peekC C H l.t l.c with
 | some y=>avEq l.av y
 | none=>false
def drawY (C:Cfg) (ce:Ce) (N:Nat) (ops:Array Oper) (i:Nat) (tk:Bool) (o:Oper) (pend:List Ld) (H:Hp) (next:List Ld→Tm→Hp→Out) (tm:Tm):Out :=
 match tk with
 | true =>
  match takeT C H tm i o with
  | none=>.fail
  | some (r,ns,l)=>qge ns (putK N tm o.dst (some r) H fun tm' H=>next (l++pend) tm' H)
 | false=>stepN C ce N H tm o fun tm' H'=>bif (pend.filter fun l=>!qec ops i l.i).all (sameAt C H') then next (pend.filter fun l=>!qec ops i l.i) tm' H' else .fail
def qgi (C:Cfg) (ce:Ce) (N:Nat) (ops:Array Oper) (i:Nat) (tk:Bool) (pend:List Ld) (tm:Tm) (H:Hp) (next:List Ld→Tm→Hp→Out):Out :=
 match ops[i]? with
 | none=>.fail
 | some o =>
  match guardT ops tm o with
  | .yes=>drawY C ce N ops i tk o pend H next tm
  | .no=>next pend (qdf N tm o.dst) H
  | .ask d te want=>askG d te want tm (drawY C ce N ops i tk o pend H next) (fun tm=>next pend (qdf N tm o.dst) H)
  | .bad=>.fail
def drawT (C:Cfg) (ce:Ce) (N:Nat) (ops:Array Oper):Pl→List Ld→Tm→Hp→(Tm→Hp→Out)→Out
 | .done,_,tm,H,k=>k tm H
 | .take i rest,pend,tm,H,k=>qgi C ce N ops i true pend tm H (fun pend tm H=>drawT C ce N ops rest pend tm H k)
 | .one i rest,pend,tm,H,k=>qgi C ce N ops i false pend tm H (fun pend tm H=>drawT C ce N ops rest pend tm H k)
 | .two i x j y,pend,tm,H,k=>.both (qgi C ce N ops i false pend tm H (fun pend tm H=>drawT C ce N ops x pend tm H k)) (qgi C ce N ops j false pend tm H (fun pend tm H=>drawT C ce N ops y pend tm H k))
section
variable {P:Program} {ops:Array Oper} {Q:Exit→Act→World→Prop}
abbrev Pd:=List (Nat × (World→Prop))
def keep (ops:Array Oper) (pend:Pd) (j:Nat):Pd:=pend.filter fun p=>!qec ops j p.1
def qck (P:Program) (ops:Array Oper) (Q:Exit→Act→World→Prop):Nat→Pd→Array Bool→Act→World→Prop
 | 0,_,listed,a,w=>Region.ready .any ops listed=[]∧Q .normal a w
 | fuel+1,pend,listed,a,w =>
  (Region.ready .any ops listed=[]→Q .normal a w) ∧
  ∀i∈Region.ready .any ops listed,wpOp P ops Q i (fun a' w'=>(∀p∈keep ops pend i,p.2 w')∧qck P ops Q fuel (keep ops pend i) (listed.setIfInBounds i true) a' w') a w
theorem qfq:∀(fuel:Nat) (pend:Pd) (listed:Array Bool) (a:Act) (w:World),qck P ops Q fuel pend listed a w→wpAny P .any ops Q fuel listed a w
 | 0,_,_,_,_,h=>h
 | fuel+1,_,_,_,_,h=>⟨h.1,fun i hi=>wpOp_mono (fun a' w' h'=>qfq fuel _ _ a' w' h'.2) (h.2 i hi)⟩
theorem keep_sub {p q:Pd} (h:∀x∈p,x∈q) (j:Nat):∀x∈keep ops p j,x∈keep ops q j:=fun x hx=>by
 have:=List.mem_filter.1 hx
 exact List.mem_filter.2 ⟨h x this.1,this.2⟩
theorem qgI {p:Pd} {j:Nat}:∀x∈keep ops p j,x∈p:=fun x hx=>(List.mem_filter.1 hx).1
theorem qep:∀(fuel:Nat) (p q:Pd) (listed:Array Bool) (a:Act) (w:World),(∀x∈p,x∈q)→qck P ops Q fuel q listed a w→qck P ops Q fuel p listed a w
 | 0,_,_,_,_,_,_,h=>h
 | fuel+1,p,q,_,_,_,hs,h=>⟨h.1,fun i hi=>wpOp_mono (fun a' w' h'=>⟨fun x hx=>h'.1 x (keep_sub hs i x hx),qep fuel _ _ _ a' w' (keep_sub hs i) h'.2⟩) (h.2 i hi)⟩
theorem no_wait {i j:Nat} {listed:Array Bool} (hi:i∈Region.ready .any ops listed) (hj:j∈Region.ready .any ops listed):qec ops j i=false:=by
 obtain⟨hjun,oj,hoj,hall⟩:=mem_ready.1 hj
 have h0:=(mem_ready.1 hi).1
 unfold qec
 rw[hoj]
 simp only[Array.any_eq_false]
 intro k hk hb
 simp only[Bool.and_eq_true,qaz,decide_eq_true_eq] at hb
 have h1:=hall oj.after[k] (Array.getElem_mem hk) hb.1
 rw[hb.2] at h1
 rcases Nat.lt_or_ge i listed.size with h' | h'
 ·simp[h'] at h0 h1;rw[h0] at h1;cases h1
 ·simp[Array.getElem?_eq_none h'] at h1
theorem qdy {i:Nat} {oi:Oper} {v:Value} {Y:World→Prop} (hi:ops[i]?=some oi) (hsel:∀(j:Nat) (o:Oper) cs b,ops[j]?=some o→o.op≠.select cs b)
  (hQ:∀c a w,Q (.panic c) (a.put oi.dst v) w→Q (.panic c) a w) :
  ∀(fuel:Nat) (pend:Pd) (listed:Array Bool) (a:Act) (w:World),
   (∀j oj,ops[j]?=some oj→j≠i→listed.getD j true=false→(∀e∈oj.after,Region.binds .any e=true→e.on≠i)→oi.apart ops oj=true) →
   i∈Region.ready .any ops listed→YieldsIf P ops Y oi v a→Y w→(∀p∈pend,p.2 w) →
   qck P ops Q fuel ((i,Y) :: pend) (listed.setIfInBounds i true) (a.put oi.dst v) w→qck P ops Q (fuel+1) pend listed a w:=by
 intro fuel
 induction fuel with
 | zero =>
  intro pend listed a w _ hr hy hS hp H
  refine⟨fun h=>(by rw[h] at hr;cases hr),fun j hj=>?_⟩
  by_cases hji:j=i
  ·subst hji;exact hy.wpOp hi hS ⟨fun x hx=>hp x (qgI x hx),H⟩
  ·have:=ready_mono hj hji
   rw[H.1] at this
   cases this
 | succ fuel ih =>
  intro pend listed a w hfree hr hy hS hp H
  refine⟨fun h=>(by rw[h] at hr;cases hr),fun j hj=>?_⟩
  by_cases hji:j=i
  ·subst hji;exact hy.wpOp hi hS ⟨fun x hx=>hp x (qgI x hx),qep _ _ _ _ _ _ (fun x hx=>List.mem_cons_of_mem _ (qgI x hx)) H⟩
  ·have h1:=H.2 j (ready_mono hj hji)
   obtain⟨hjun,oj,hoj,hall⟩:=mem_ready.1 hj
   have hnot:∀e∈oj.after,Region.binds .any e=true→e.on≠i:=fun e he hb heq=>by
    have h1:=hall e he hb
    have h0:=(mem_ready.1 hr).1
    rw[heq] at h1
    rcases Nat.lt_or_ge i listed.size with h' | h'
    ·simp[h'] at h0 h1;rw[h0] at h1;cases h1
    ·simp[Array.getElem?_eq_none h'] at h1
   have hk:keep ops ((i,Y) :: pend) j=(i,Y) :: keep ops pend j:=by
    unfold keep
    rw[List.filter_cons_of_pos]
    simp only[no_wait hr hj,Bool.not_false]
   rw[hk] at h1
   have h2:=wpOp_putIf hoj (hfree j oj hoj hji hjun hnot) (fun cs b=>hsel i oi cs b hi) (fun cs b=>hsel j oj cs b hoj) hQ hy h1
   have hfree':∀k ok,ops[k]?=some ok→k≠i→(listed.setIfInBounds j true).getD k true=false →
     (∀e∈ok.after,Region.binds .any e=true→e.on≠i)→oi.apart ops ok=true:=fun k ok hk hki hun hno=>by
    refine hfree k ok hk hki ?_ hno
    by_cases hjk:j=k
    ·subst hjk;exact hjun
    ·rw[getD_set_ne true hjk] at hun;exact hun
   refine wpOp_mono (fun a' w' h3=>?_) h2
   obtain⟨hy',hs',hW⟩:=h3
   refine⟨fun x hx=>hs' x (List.mem_cons_of_mem _ hx),ih (keep ops pend j) (listed.setIfInBounds j true) a' w' hfree' (ready_mono hr (Ne.symm hji)) hy' (hs' (i,Y) List.mem_cons_self) (fun x hx=>hs' x (List.mem_cons_of_mem _ hx)) ?_⟩
   rw[Array.setIfInBounds_comm _ _ hji]
   exact hW
theorem qef {i:Nat}:∀(fuel:Nat) (p:Pd) (listed:Array Bool) (a:Act) (w:World),qck P ops Q fuel p listed a w→qck P ops Q fuel ((i,fun _=>True) :: p) listed a w
 | 0,_,_,_,_,h=>h
 | fuel+1,p,_,_,_,h=>⟨h.1,fun j hj=>wpOp_mono (fun a' w' h'=>by
   unfold keep at h' ⊢
   cases hw:qec ops j i with
   | true=>rw[List.filter_cons_of_neg (by simp[hw])];exact h'
   | false =>
    rw[List.filter_cons_of_pos (by simp[hw])]
    refine⟨fun x hx=>?_,qef fuel _ _ a' w' h'.2⟩
    rcases List.mem_cons.1 hx with rfl | hx
    ·trivial
    ·exact h'.1 x hx) (h.2 j hj)⟩
theorem wpAnyW_done {pend:Pd} {listed:Array Bool} {a:Act} {w:World} (hr:Region.ready .any ops listed=[]) (h:Q .normal a w):∀fuel,qck P ops Q fuel pend listed a w
 | 0=>⟨hr,h⟩
 | _+1=>⟨fun _=>h,by rw[hr];simp⟩
end
section
variable {C:Cfg} {K0:Qn→Ex→Tm→Hp→Prop} {fr:Fr} {E:Env} {N:Nat} {tm tm':Tm} {a:Act} {w0:Ws} {H H':Hp} {w w':World} {ce:Ce}
theorem RelL.unique {xs:List AC} {us vs:List Value} (hs:∀x∈xs,x.sure=true) (h:RelL E xs us) (h':RelL E xs vs):us=vs:=by
 apply List.ext_getElem?
 intro j
 by_cases hj:j < xs.length
 ·have h1:j < us.length:=by rw[←h.1];exact hj
  have h2:j < vs.length:=by rw[←h'.1];exact hj
  rw[List.getElem?_eq_getElem h1,List.getElem?_eq_getElem h2]
  congr 1
  exact RelC.unique (hs _ (List.getElem_mem hj)) (h.2 j xs[j] us[j] (List.getElem?_eq_getElem hj) (List.getElem?_eq_getElem h1)) (h'.2 j xs[j] vs[j] (List.getElem?_eq_getElem hj) (List.getElem?_eq_getElem h2))
 ·rw[List.getElem?_eq_none (by rw[←h.1];omega),List.getElem?_eq_none (by rw[←h'.1];omega)]
theorem avEq_unique {x y:AV} (h:avEq x y=true) {u v:Value} (hu:RelV E x u) (hv:RelV E y v):u=v:=by
 unfold avEq at h
 split at h
 ·obtain⟨rfl,hs⟩:=acEq_eq h
  exact RelC.unique hs hu hv
 ·obtain⟨rfl,hs⟩:=allEq_eq h
  obtain⟨a1,rfl,h1⟩:=hu
  obtain⟨a2,rfl,h2⟩:=hv
  rw[Array.toList_inj.1 (RelL.unique hs h1 h2)]
 ·cases h
def PdRel (C:Cfg) (E:Env):List Ld→Pd→Prop
 | [],[]=>True
 | l :: ls,p :: ps=>(l.i=p.1∧∃u v,RelC E l.c u∧RelV E l.av v∧p.2=fun w=>∃ad,u=.pointer (some ad)∧(loadVar l.t ad).run C.P w=.ok v w)∧PdRel C E ls ps
 | _,_=>False
theorem PdRel.mono {E':Env} (h:E.le E'):∀{ls:List Ld} {ps:Pd},PdRel C E ls ps→PdRel C E' ls ps
 | [],[],_=>trivial
 | _ :: _,_ :: _,⟨⟨hi,u,v,hr,hv,hp⟩,k⟩=>⟨⟨hi,u,v,hr.mono h,hv.mono h,hp⟩,PdRel.mono h k⟩
 | [],_ :: _,k=>k.elim
 | _ :: _,[],k=>k.elim
theorem PdRel.filter {ops:Array Oper} {j:Nat}:∀{ls:List Ld} {ps:Pd},PdRel C E ls ps→PdRel C E (ls.filter fun l=>!qec ops j l.i) (keep ops ps j)
 | [],[],_=>trivial
 | l :: ls,p :: ps,⟨h1,k⟩=>by
  have hi:=h1.1
  unfold keep
  cases hw:qec ops j l.i with
  | true =>
   rw[List.filter_cons_of_neg (by simp[hw]),List.filter_cons_of_neg (by rw[←hi];simp[hw])]
   exact k.filter
  | false =>
   rw[List.filter_cons_of_pos (by simp[hw]),List.filter_cons_of_pos (by rw[←hi];simp[hw])]
   exact⟨h1,k.filter⟩
 | [],_ :: _,k=>k.elim
 | _ :: _,[],k=>k.elim
theorem PdRel.holds (hC:C.Ok) (hH:RelH fr w0 E H w):∀{ls:List Ld} {ps:Pd},PdRel C E ls ps→ls.all (sameAt C H)=true→∀p∈ps,p.2 w
 | [],[],_,_,p,hp=>by cases hp
 | l :: ls,q :: ps,⟨⟨hi,u,v,hr,hv,hq⟩,k⟩,h,p,hp=>by
  simp only[List.all_cons,Bool.and_eq_true] at h
  rcases List.mem_cons.1 hp with rfl | hp
  ·have hs:=h.1
   unfold sameAt at hs
   split at hs
   ·rename_i y hy
    obtain⟨ad,v2,hu,hv2,hru⟩:=qfM hC hH hy hr
    rw[hq]
    exact⟨ad,hu,by rw[hru,avEq_unique hs hv hv2]⟩
   ·cases hs
  ·exact PdRel.holds hC hH k h.2 p hp
 | [],_ :: _,k,_,_,_=>k.elim
 | _ :: _,[],k,_,_,_=>k.elim
theorem qdw (hC:C.Ok) (hce:CeOk C K0 fr w0 ce) {ops:Array Oper} {Q:Exit→Act→World→Prop} {n i:Nat} {pend:List Ld} {ps:Pd} {listed:Array Bool} {next:List Ld→Tm→Hp→Out} (h:(qgi C ce N ops i false pend tm H next).Ok C K0 E.q)
  (hH:RelH fr w0 E H w) (hT:RelT E N tm a) (hpd:PdRel C E pend ps) (hps:∀p∈ps,p.2 w)
  (hnext:∀pend ps tm H E' a w,E.le E'→(next pend tm H).Ok C K0 E'.q→RelH fr w0 E' H w→RelT E' N tm a→PdRel C E' pend ps→(∀p∈ps,p.2 w)→qck C.P ops Q n ps (listed.setIfInBounds i true) a w) :
  wpOp C.P ops Q i (fun a' w'=>(∀p∈keep ops ps i,p.2 w')∧qck C.P ops Q n (keep ops ps i) (listed.setIfInBounds i true) a' w') a w:=by
 unfold qgi at h
 split at h
 ·exact h.elim
 ·rename_i o ho
  obtain⟨tm1,hT1,hor⟩:=qdx (yes:=drawY C ce N ops i false o pend H next) (no:=fun tm=>next pend (qdf N tm o.dst) H) hT h
  unfold wpOp
  rw[ho]
  simp only
  rcases hor with ⟨hw,h1⟩ | ⟨hw,h1⟩
  ·rw[if_pos hw]
   simp only[drawY] at h1
   refine .inl (stepN_ok hC hce hH hT1 h1 fun E' w' v tm' H' hle' hH' hT' hk=>?_)
   cases hall:(pend.filter fun l=>!qec ops i l.i).all (sameAt C H') with
   | false=>rw[hall] at hk;exact hk.elim
   | true =>
    rw[hall,cond_true] at hk
    have hpd':PdRel C E' (pend.filter fun l=>!qec ops i l.i) (keep ops ps i):=(hpd.mono hle').filter
    have hh:=hpd'.holds hC hH' hall
    exact⟨hh,hnext _ _ tm' H' E' _ w' hle' hk hH' hT' hpd' hh⟩
  ·rw[if_neg (by rw[hw];decide)]
   refine⟨fun x hx=>hps x (qgI x hx),qep _ _ _ _ _ _ (fun x hx=>qgI x hx) (hnext pend ps _ H E _ w (Env.le_refl E) h1 hH (qfg hT1 o.dst) hpd hps)⟩
theorem qhu (hC:C.Ok) (hce:CeOk C K0 fr w0 ce) {ops:Array Oper} (hsel:Region.noSelect ops=true) {Q:Exit→Act→World→Prop} (hQ:∀c a a' w,Q (.panic c) a w→Q (.panic c) a' w) {n i:Nat} {pend:List Ld} {ps:Pd} {listed:Array Bool} {next:List Ld→Tm→Hp→Out}
  (h:(qgi C ce N ops i true pend tm H next).Ok C K0 E.q) (hfree:Region.free .any ops listed i=true) (hr:i∈Region.ready .any ops listed)
  (hH:RelH fr w0 E H w) (hT:RelT E N tm a) (hpd:PdRel C E pend ps) (hps:∀p∈ps,p.2 w)
  (hnext:∀pend ps tm H E' a w,E.le E'→(next pend tm H).Ok C K0 E'.q→RelH fr w0 E' H w→RelT E' N tm a→PdRel C E' pend ps→(∀p∈ps,p.2 w)→qck C.P ops Q n ps (listed.setIfInBounds i true) a w) :
  qck C.P ops Q (n+1) ps listed a w:=by
 unfold qgi at h
 split at h
 ·exact h.elim
 ·rename_i o ho
  obtain⟨tm1,hT1,hor⟩:=qdx (yes:=drawY C ce N ops i true o pend H next) (no:=fun tm=>next pend (qdf N tm o.dst) H) hT h
  rcases hor with ⟨hw,h1⟩ | ⟨hw,h1⟩
  ·simp only[drawY] at h1
   split at h1
   ·exact h1.elim
   ·rename_i r ns l htk
    obtain⟨hns,h2⟩:=qct h1
    unfold takeT at htk
    split at htk
    ·rename_i q ns' hpu
     cases htk
     obtain⟨v,hv,hrun⟩:=pureT_ok hC hH hT1 hpu hns
     obtain⟨tm2,hT2,h3⟩:=qbX (r:=some r) hT1 h2 hv
     refine qdy (v:=v) (Y:=fun _=>True) ho (Region.noSelect_spec hsel) (fun c a w=>hQ c _ _ w) _ ps listed a w (Region.free_spec ho hfree) hr (.inl ⟨hw,fun w' _=>hrun w'⟩) trivial hps ?_
     exact qef _ _ _ _ _ (hnext pend ps tm2 H E _ w (Env.le_refl E) h3 hH hT2 hpd hps)
    ·split at htk
     ·rename_i t x hop
      split at htk
      ·rename_i c hx
       split at htk
       ·rename_i av hpk
        cases htk
        have hu:=qaT hT1 hx
        obtain⟨ad,v,hev,hv,hrun⟩:=qfM hC hH hpk hu
        obtain⟨tm2,hT2,h3⟩:=qbX (r:=some (.o av)) hT1 h2 hv
        refine qdy (v:=v) (Y:=fun w=>∃ad,a.eval x=.pointer (some ad)∧(loadVar t ad).run C.P w=.ok v w) ho (Region.noSelect_spec hsel) (fun c a w=>hQ c _ _ w) _ ps listed a w (Region.free_spec ho hfree) hr (.inl ⟨hw,fun w' hw'=>?_⟩) ⟨ad,hev,hrun⟩ hps ?_
        ·obtain⟨ad',hev',hw'⟩:=hw'
         unfold execOp;rw[hop]
         refine qbu ?_
         simp only[Instr.loadAt,hev',Sem.run_bind,sureAddr_run,Result.andThen_ok]
         exact hw'
        ·refine hnext _ ((i,fun w=>∃ad,a.eval x=.pointer (some ad)∧(loadVar t ad).run C.P w=.ok v w) :: ps) tm2 H E _ w (Env.le_refl E) h3 hH hT2 ⟨⟨rfl,_,v,hu,hv,rfl⟩,hpd⟩ (fun p hp=>?_)
         rcases List.mem_cons.1 hp with rfl | hp
         ·exact⟨ad,hev,hrun⟩
         ·exact hps p hp
       ·cases htk
      ·cases htk
     ·cases htk
  ·refine qdy (v:=undef) (Y:=fun _=>True) ho (Region.noSelect_spec hsel) (fun c a w=>hQ c _ _ w) _ ps listed a w (Region.free_spec ho hfree) hr (.inr ⟨hw,rfl⟩) trivial hps ?_
   exact qef _ _ _ _ _ (hnext pend ps _ H E _ w (Env.le_refl E) h1 hH (qfg hT1 o.dst) hpd hps)
theorem drawT_ok (hC:C.Ok) (hce:CeOk C K0 fr w0 ce) {ops:Array Oper} (hsel:Region.noSelect ops=true) {Q:Exit→Act→World→Prop} (hQ:∀c a a' w,Q (.panic c) a w→Q (.panic c) a' w) {k:Tm→Hp→Out} :
  ∀(plan:Pl) (fuel:Nat) (pend:List Ld) (ps:Pd) (tm:Tm) (H:Hp) (listed:Array Bool) (E:Env) (a:Act) (w:World),plan.dep≤fuel→(drawT C ce N ops plan pend tm H k).Ok C K0 E.q→qcq ops plan listed=true →
   RelH fr w0 E H w→RelT E N tm a→PdRel C E pend ps→(∀p∈ps,p.2 w) →
   (∀E' a' w' tm' H',E.le E'→RelH fr w0 E' H' w'→RelT E' N tm' a'→(k tm' H').Ok C K0 E'.q→Q .normal a' w')→qck C.P ops Q fuel ps listed a w:=by
 intro plan
 induction plan with
 | done=>intro fuel pend ps tm H listed E a w hd h hp hH hT hpd hps hK;exact wpAnyW_done (by simpa [qcq] using hp) (hK E a w tm H (Env.le_refl E) hH hT h) _
 | take i rest ih =>
  intro fuel pend ps tm H listed E a w hd h hp hH hT hpd hps hK
  simp only[qcq,Bool.and_eq_true] at hp
  obtain⟨⟨hfree,hready⟩,hrest⟩:=hp
  have hr:i∈Region.ready .any ops listed:=by simpa using hready
  simp only[Pl.dep] at hd
  obtain⟨n,rfl⟩:∃n,fuel=n+1:=⟨fuel - 1,by omega⟩
  exact qhu hC hce hsel hQ h hfree hr hH hT hpd hps fun pend ps tm H E' a w hle h hH hT hpd hps=>ih n pend ps tm H _ E' a w (by omega) h hrest hH hT hpd hps (fun E2 a2 w2 tm2 H2 hle2=>hK E2 a2 w2 tm2 H2 (Env.le_trans hle hle2))
 | one i rest ih =>
  intro fuel pend ps tm H listed E a w hd h hp hH hT hpd hps hK
  simp only[qcq,Bool.and_eq_true] at hp
  obtain⟨hone,hrest⟩:=hp
  have hr:Region.ready .any ops listed=[i]:=by
   unfold oneOf at hone
   split at hone
   ·rename_i j hj;rw[hj,Nat.eq_of_beq_eq_true hone]
   ·cases hone
  simp only[Pl.dep] at hd
  obtain⟨n,rfl⟩:∃n,fuel=n+1:=⟨fuel - 1,by omega⟩
  refine⟨fun h0=>(by rw[hr] at h0;cases h0),fun i' hi'=>?_⟩
  obtain rfl:i'=i:=by rw[hr] at hi';simpa using hi'
  exact qdw hC hce h hH hT hpd hps fun pend ps tm H E' a w hle h hH hT hpd hps=>ih n pend ps tm H _ E' a w (by omega) h hrest hH hT hpd hps (fun E2 a2 w2 tm2 H2 hle2=>hK E2 a2 w2 tm2 H2 (Env.le_trans hle hle2))
 | two i x j y ihx ihy =>
  intro fuel pend ps tm H listed E a w hd h hp hH hT hpd hps hK
  simp only[qcq,Bool.and_eq_true] at hp
  obtain⟨⟨htwo,hrx⟩,hry⟩:=hp
  have hr:Region.ready .any ops listed=[i,j]:=by
   unfold twoOf at htwo
   split at htwo
   ·rename_i p q hj
    simp only[Bool.and_eq_true] at htwo
    rw[hj,Nat.eq_of_beq_eq_true htwo.1,Nat.eq_of_beq_eq_true htwo.2]
   ·cases htwo
  simp only[Pl.dep] at hd
  obtain⟨n,rfl⟩:∃n,fuel=n+1:=⟨fuel - 1,by omega⟩
  obtain⟨h1,h2⟩:=h
  refine⟨fun h0=>(by rw[hr] at h0;cases h0),fun i' hi'=>?_⟩
  rw[hr] at hi'
  rcases List.mem_cons.1 hi' with rfl | hi'
  ·exact qdw hC hce h1 hH hT hpd hps fun pend ps tm H E' a w hle h hH hT hpd hps=>ihx n pend ps tm H _ E' a w (by omega) h hrx hH hT hpd hps (fun E2 a2 w2 tm2 H2 hle2=>hK E2 a2 w2 tm2 H2 (Env.le_trans hle hle2))
  ·obtain rfl:i'=j:=by simpa using hi'
   exact qdw hC hce h2 hH hT hpd hps fun pend ps tm H E' a w hle h hH hT hpd hps=>ihy n pend ps tm H _ E' a w (by omega) h hry hH hT hpd hps (fun E2 a2 w2 tm2 H2 hle2=>hK E2 a2 w2 tm2 H2 (Env.le_trans hle hle2))
end
def isRow:AC→Bool
 | .v (.slice none 0 0)=>true
 | .sl _ _ _=>true
 | .ss _ (.l (.int .i64 i)) _=>qfA i 0
 | _=>false
def nC (H0 H:Hp) (p x:AC):AC × Hp :=
 match p with
 | .sr c =>
  match H0.bs.get c with
  | some (.sy true t ks _) =>
   bif isRow x then
    match ownX H t ks.length ks x with
    | some (rt,ob)=>(.sr H.next,(qdO H ob).push (.sy true t ks rt))
    | none=>(x,H)
   else (x,H)
  | _=>(x,H)
 | _=>(x,H)
def nL (H0:Hp):Hp→List AC→List AC→List AC × Hp
 | H,p :: ps,x :: xs=>((nC H0 H p x).1 :: (nL H0 (nC H0 H p x).2 ps xs).1,(nL H0 (nC H0 H p x).2 ps xs).2)
 | H,_,xs=>(xs,H)
def nV (H0 H:Hp):AV→AV→AV × Hp
 | .c p,.c x=>(.c (nC H0 H p x).1,(nC H0 H p x).2)
 | .ag ps,.ag xs=>(.ag (nL H0 H ps xs).1,(nL H0 H ps xs).2)
 | _,x=>(x,H)
def nVs (H0:Hp):Hp→List AV→List AV→List AV × Hp
 | H,p :: ps,x :: xs=>((nV H0 H p x).1 :: (nVs H0 (nV H0 H p x).2 ps xs).1,(nVs H0 (nV H0 H p x).2 ps xs).2)
 | H,_,xs=>(xs,H)
def nS (H0 H:Hp):SV→SV→SV × Hp
 | .o p,.o x=>(.o (nV H0 H p x).1,(nV H0 H p x).2)
 | .tu ps,.tu xs=>(.tu (nVs H0 H ps xs).1,(nVs H0 H ps xs).2)
 | _,x=>(x,H)
def nA (H0:Hp):Hp→List SV→List SV→List SV × Hp
 | H,p :: ps,x :: xs=>((nS H0 H p x).1 :: (nA H0 (nS H0 H p x).2 ps xs).1,(nA H0 (nS H0 H p x).2 ps xs).2)
 | H,_,xs=>(xs,H)
structure Mt where
 v:Tr Te
 r:Tr RT
 b:Tr (Nat × Nat)
 H:Hp
def bC (m:Mt):AC→AC→Mt
 | .t _ (.s i),y =>
  match teO y with
  | some (_,te)=>{ m with v:=m.v.put i (some te) }
  | none=>m
 | .p c 0,.p b o=>{ m with b:=m.b.put c (some (b,o)) }
 | .sr c,.sr b=>{ m with b:=m.b.put c (some (b,0)) }
 | .ss c (.s i) (.s j),.ss b k n=>{ m with v:=(m.v.put i (some k)).put j (some n),b:=m.b.put c (some (b,0)) }
 | _,_=>m
def bL:Mt→List AC→List AC→Mt
 | m,p :: ps,x :: xs=>bL (bC m p x) ps xs
 | m,_,_=>m
def bV (m:Mt):AV→AV→Mt
 | .c p,.c x=>bC m p x
 | .ag ps,.ag xs=>bL m ps xs
 | _,_=>m
def bVs:Mt→List AV→List AV→Mt
 | m,p :: ps,x :: xs=>bVs (bV m p x) ps xs
 | m,_,_=>m
def bA:Mt→List SV→List SV→Mt
 | m,.o p :: ps,.o x :: xs=>bA (bV m p x) ps xs
 | m,.tu p :: ps,.tu x :: xs=>bA (bVs m p x) ps xs
 | m,_ :: ps,_ :: xs=>bA m ps xs
 | m,_,_=>m
def bB (H0:Hp) (m:Mt) (c:Nat):Mt :=
 match H0.bs.get c,m.b.get c with
 | some (.sy _ _ _ (.s j)),some (b,_) =>
  match m.H.bs.get b with
  | some (.sy _ _ _ rt)=>{ m with r:=m.r.put j (some rt) }
  | _=>m
 | some (.rows _ z 1 es0),some (b,o) =>
  match m.H.bs.get b,es0.get 0 with
  | some (.rows tb zb 1 es),some ps =>
   match es.get 0 with
   | some xs =>
    match (nL H0 m.H ps ((xs.drop o).take z)).2.bs.get b with
    | some (.rows tb' zb' 1 es') =>
     match es'.get 0 with
     | some xs' =>
      bif Nat.beq zb' zb&&Nat.beq xs'.length zb&&Nat.beq xs.length zb&&Nat.ble (o+z) zb then
       bL { m with H:={ (nL H0 m.H ps ((xs.drop o).take z)).2 with bs:=(nL H0 m.H ps ((xs.drop o).take z)).2.bs.put b (some (.rows tb' zb' 1 (es'.put 0 (some (xs'.take o++((nL H0 m.H ps ((xs.drop o).take z)).1++xs'.drop (o+z))))))) } } ps (nL H0 m.H ps ((xs.drop o).take z)).1
      else m
     | none=>m
    | _=>m
   | none=>m
  | _,_=>m
 | _,_=>m
def bBs (H0:Hp):Nat→Nat→Mt→Mt
 | 0,_,m=>m
 | n+1,c,m=>bBs H0 n (c+1) (bB H0 m c)
def qbJ (s:Sum) (as:List SV) (H:Hp):List SV × Mt :=
 ((nA s.H0 H s.as0 as).1,bBs s.H0 s.H0.next 0 (bA ⟨.e,.e,.e,(nA s.H0 H s.as0 as).2⟩ s.as0 (nA s.H0 H s.as0 as).1))
section
variable {C:Cfg} {fr:Fr} {E:Env} {w0:Ws} {H H0:Hp} {w w':World}
theorem own_push (hH:RelH fr w0 E H w) {e:Nat} {ks:List CK} {x:AC} {rt:RT} {ob:Option Nat} (hx:ownX H e ks.length ks x=some (rt,ob)) {u:Value} (hu:RelC E x u) :
  ∃r,E.le (E.new H.next r)∧RelH fr w0 (E.new H.next r) ((qdO H ob).push (.sy true e ks rt)) w∧RelC (E.new H.next r) (.sr H.next) u:=by
 obtain⟨r,L,x1,x2,x3,x4,x5,x6⟩:=ownX_ok hH rfl hx hu
 have hHd:RelH fr w0 E (qdO H ob) w:=by cases ob with
  | none=>exact hH
  | some b=>exact hH.drop b
 have hnx:(qdO H ob).next=H.next:=by cases ob<;>rfl
 have hpa:(∀c bc q g' o,(qdO H ob).bs.get c=some bc→E c=some q→q.has g' o→¬r.has g' o)∧(∀g' o,r.has g' o→¬fr g' o):=by
  cases hro:r.own with
  | none=>exact⟨fun _ _ _ _ _ _ _ _ h=>(by have:=h.1;rw[hro] at this;cases this),fun _ _ h=>(by have:=h.1;rw[hro] at this;cases this)⟩
  | some g =>
   rcases x6 with ⟨_,hown⟩ | ⟨b,bl,r1,hob,hb,hmk,hr1,hown,hwh⟩
   ·rw[hro] at hown;cases hown
   ·subst hob
    obtain⟨_,p2,_,p4⟩:=hH.grown_facts hb hmk hr1 (by rw[hown,hro]) (hwh g hro) hro (.inl rfl)
    exact⟨p2,p4⟩
 have hval:∃a n c,r.val=.slice a n c:=by
  rcases x5 with ⟨_,k2,_⟩ | ⟨g,arr,_,_,_,_,k3,_⟩
  ·exact⟨_,_,_,k2⟩
  ·exact⟨_,_,_,k3⟩
 have hnew:=hHd.push_at (r:=r) (bl:=.sy true e ks rt) (K:=fun _ _=>True) (Keeps.refl _ _) (fun _ _ _ _ _ _ _ _=>trivial) hpa.1 (fun _ _ _=>trivial) hpa.2 ⟨r,L,Env.new_get _ _ _,x3,x1,x2,x5⟩
 rw[hnx] at hnew
 exact⟨r,by have:=hHd.le_new r;rw[hnx] at this;exact this,hnew,⟨r,Env.new_get _ _ _,x4.symm,hval⟩⟩
theorem nC_ok (hH:RelH fr w0 E H w) (p:AC) {x:AC} {u:Value} (hu:RelC E x u):∃E',E.le E'∧E'.q=E.q∧RelH fr w0 E' (nC H0 H p x).2 w∧RelC E' (nC H0 H p x).1 u:=by
 have hid:∃E',E.le E'∧E'.q=E.q∧RelH fr w0 E' H w∧RelC E' x u:=⟨E,Env.le_refl E,rfl,hH,hu⟩
 unfold nC
 split
 ·split
  ·cases hr:isRow x with
   | false=>exact hid
   | true =>
    rw[cond_true]
    split
    ·rename_i hx
     obtain⟨r,h1,h2,h3⟩:=own_push hH hx hu
     exact⟨_,h1,rfl,h2,h3⟩
    ·exact hid
  ·exact hid
 ·exact hid
theorem nL_ok:∀(ps xs:List AC) (us:List Value) {E:Env} {H:Hp},RelH fr w0 E H w→RelL E xs us→∃E',E.le E'∧E'.q=E.q∧RelH fr w0 E' (nL H0 H ps xs).2 w∧RelL E' (nL H0 H ps xs).1 us
 | [],xs,us,E,H,hH,hr=>by
  refine⟨E,Env.le_refl E,rfl,?_,?_⟩<;>cases xs<;>assumption
 | p :: ps,[],us,E,H,hH,hr=>⟨E,Env.le_refl E,rfl,hH,hr⟩
 | p :: ps,x :: xs,[],E,H,hH,hr=>absurd hr.1 (by simp)
 | p :: ps,x :: xs,u :: us,E,H,hH,hr=>by
  obtain⟨E1,h1,h2,h3,h4⟩:=nC_ok (H0:=H0) hH p (hr.2 0 x u rfl rfl)
  have hr':RelL E xs us:=⟨by simpa using hr.1,fun j y v hy hv=>hr.2 (j+1) y v (by simpa using hy) (by simpa using hv)⟩
  obtain⟨E2,k1,k2,k3,k4⟩:=nL_ok ps xs us h3 (hr'.mono h1)
  exact⟨E2,Env.le_trans h1 k1,k2.trans h2,k3,RelL.cons (h4.mono k1) k4⟩
theorem nV_ok (hH:RelH fr w0 E H w):∀(p x:AV) {u:Value},RelV E x u→∃E',E.le E'∧E'.q=E.q∧RelH fr w0 E' (nV H0 H p x).2 w∧RelV E' (nV H0 H p x).1 u
 | .c p,.c x,u,hu=>nC_ok hH p hu
 | .ag ps,.ag xs,u,⟨arr,e,hu⟩=>by
  obtain⟨E1,h1,h2,h3,h4⟩:=nL_ok (H0:=H0) ps xs _ hH hu
  exact⟨E1,h1,h2,h3,arr,e,h4⟩
 | .c p,.ag x,u,hu=>⟨E,Env.le_refl E,rfl,hH,hu⟩
 | .ag p,.c x,u,hu=>⟨E,Env.le_refl E,rfl,hH,hu⟩
theorem nVs_ok:∀(ps xs:List AV) (us:List Value) {E:Env} {H:Hp},RelH fr w0 E H w→xs.length=us.length→(∀(j:Nat) x v,xs[j]?=some x→us[j]?=some v→RelV E x v) →
  ∃E',E.le E'∧E'.q=E.q∧RelH fr w0 E' (nVs H0 H ps xs).2 w∧(nVs H0 H ps xs).1.length=us.length∧∀(j:Nat) x v,(nVs H0 H ps xs).1[j]?=some x→us[j]?=some v→RelV E' x v
 | [],xs,us,E,H,hH,hl,hr=>by
  refine⟨E,Env.le_refl E,rfl,?_,?_,?_⟩<;>cases xs<;>assumption
 | p :: ps,[],us,E,H,hH,hl,hr=>⟨E,Env.le_refl E,rfl,hH,hl,hr⟩
 | p :: ps,x :: xs,[],E,H,hH,hl,hr=>absurd hl (by simp)
 | p :: ps,x :: xs,u :: us,E,H,hH,hl,hr=>by
  obtain⟨E1,h1,h2,h3,h4⟩:=nV_ok (H0:=H0) hH p x (hr 0 x u rfl rfl)
  obtain⟨E2,k1,k2,k3,k4,k5⟩:=nVs_ok ps xs us h3 (by simpa using hl) (fun j y v hy hv=>(hr (j+1) y v (by simpa using hy) (by simpa using hv)).mono h1)
  refine⟨E2,Env.le_trans h1 k1,k2.trans h2,k3,by simp only[nVs,List.length_cons,k4],fun j y v hy hv=>?_⟩
  cases j with
  | zero =>
   simp only[nVs,List.getElem?_cons_zero,Option.some.injEq] at hy hv
   subst hy hv
   exact h4.mono k1
  | succ j=>exact k5 j y v (by simpa [nVs] using hy) (by simpa using hv)
theorem nS_ok (hH:RelH fr w0 E H w):∀(p x:SV) {u:Value},RelS E x u→∃E',E.le E'∧E'.q=E.q∧RelH fr w0 E' (nS H0 H p x).2 w∧RelS E' (nS H0 H p x).1 u
 | .o p,.o x,u,hu=>nV_ok hH p x hu
 | .o p,.tu x,u,hu=>⟨E,Env.le_refl E,rfl,hH,hu⟩
 | .tu p,.o x,u,hu=>⟨E,Env.le_refl E,rfl,hH,hu⟩
 | .tu p,.tu x,u,⟨arr,e,hl,hu⟩=>by
  obtain⟨E1,h1,h2,h3,h4,h5⟩:=nVs_ok (H0:=H0) p x arr.toList hH (by simpa using hl) (fun j y v hy hv=>hu j y v hy (by simpa using hv))
  exact⟨E1,h1,h2,h3,arr,e,by simpa using h4,fun j y v hy hv=>h5 j y v hy (by simpa using hv)⟩
theorem nA_ok:∀(ps xs:List SV) (us:List Value) {E:Env} {H:Hp},RelH fr w0 E H w→xs.length=us.length→(∀(j:Nat) x v,xs[j]?=some x→us[j]?=some v→RelS E x v) →
  ∃E',E.le E'∧E'.q=E.q∧RelH fr w0 E' (nA H0 H ps xs).2 w∧(nA H0 H ps xs).1.length=us.length∧∀(j:Nat) x v,(nA H0 H ps xs).1[j]?=some x→us[j]?=some v→RelS E' x v
 | [],xs,us,E,H,hH,hl,hr=>by
  refine⟨E,Env.le_refl E,rfl,?_,?_,?_⟩<;>cases xs<;>assumption
 | p :: ps,[],us,E,H,hH,hl,hr=>⟨E,Env.le_refl E,rfl,hH,hl,hr⟩
 | p :: ps,x :: xs,[],E,H,hH,hl,hr=>absurd hl (by simp)
 | p :: ps,x :: xs,u :: us,E,H,hH,hl,hr=>by
  obtain⟨E1,h1,h2,h3,h4⟩:=nS_ok (H0:=H0) hH p x (hr 0 x u rfl rfl)
  obtain⟨E2,k1,k2,k3,k4,k5⟩:=nA_ok ps xs us h3 (by simpa using hl) (fun j y v hy hv=>(hr (j+1) y v (by simpa using hy) (by simpa using hv)).mono h1)
  refine⟨E2,Env.le_trans h1 k1,k2.trans h2,k3,by simp only[nA,List.length_cons,k4],fun j y v hy hv=>?_⟩
  cases j with
  | zero =>
   simp only[nA,List.getElem?_cons_zero,Option.some.injEq] at hy hv
   subst hy hv
   exact h4.mono k1
  | succ j=>exact k5 j y v (by simpa [nA] using hy) (by simpa using hv)
theorem bC_H (m:Mt) (p x:AC):(bC m p x).H=m.H:=by
 unfold bC
 split
 ·split<;>rfl
 ·rfl
 ·rfl
 ·rfl
 ·rfl
theorem bL_H:∀(m:Mt) (ps xs:List AC),(bL m ps xs).H=m.H
 | m,[],xs=>by cases xs<;>rfl
 | m,p :: ps,[]=>rfl
 | m,p :: ps,x :: xs=>by simp only[bL];rw[bL_H,bC_H]
theorem bV_H (m:Mt):∀(p x:AV),(bV m p x).H=m.H
 | .c p,.c x=>bC_H m p x
 | .ag p,.ag x=>bL_H m p x
 | .c p,.ag x=>rfl
 | .ag p,.c x=>rfl
theorem bVs_H:∀(m:Mt) (ps xs:List AV),(bVs m ps xs).H=m.H
 | m,[],xs=>by cases xs<;>rfl
 | m,p :: ps,[]=>rfl
 | m,p :: ps,x :: xs=>by simp only[bVs];rw[bVs_H,bV_H]
theorem bA_H:∀(m:Mt) (ps xs:List SV),(bA m ps xs).H=m.H
 | m,[],xs=>by cases xs<;>rfl
 | m,p :: ps,[]=>by cases p<;>rfl
 | m,.o p :: ps,.o x :: xs=>by simp only[bA];rw[bA_H,bV_H]
 | m,.o p :: ps,.tu x :: xs=>by simp only[bA];rw[bA_H]
 | m,.tu p :: ps,.o x :: xs=>by simp only[bA];rw[bA_H]
 | m,.tu p :: ps,.tu x :: xs=>by simp only[bA];rw[bA_H,bVs_H]
theorem split3 {α:Type} (l:List α) (o z:Nat):l=l.take o++((l.drop o).take z++l.drop (o+z)):=by
 have h:l.drop (o+z)=(l.drop o).drop z:=by rw[List.drop_drop]
 rw[h,List.take_append_drop,List.take_append_drop]
theorem bB_ok (m:Mt) (c:Nat) {E:Env} (hH:RelH fr w0 E m.H w):∃E',E.le E'∧E'.q=E.q∧RelH fr w0 E' (bB H0 m c).H w:=by
 have hid:∃E',E.le E'∧E'.q=E.q∧RelH fr w0 E' m.H w:=⟨E,Env.le_refl E,rfl,hH⟩
 unfold bB
 split
 ·split<;>exact hid
 ·rename_i t0 z es0 b o _ _
  split
  ·rename_i tb zb es ps hb hps
   split
   ·rename_i xs hx
    split
    ·rename_i tb' zb' es' hb'
     split
     ·rename_i xs' hx'
      cases hc:(Nat.beq zb' zb&&Nat.beq xs'.length zb&&Nat.beq xs.length zb&&Nat.ble (o+z) zb) with
      | false=>exact hid
      | true =>
       rw[cond_true,bL_H]
       simp only[Bool.and_eq_true,qaz,decide_eq_true_eq,Nat.ble_eq] at hc
       obtain⟨⟨⟨c1,c2⟩,c3⟩,c4⟩:=hc
       subst c1
       obtain⟨_,r,g,arr,hr,hg,hz,hheap,_,_,_,hn,_,_,hes⟩:=hH.blk _ _ hb
       obtain⟨xs1,hx1,hrel⟩:=hes 0 (by omega)
       rw[hx] at hx1;cases hx1
       have hseg:=(hrel.drop o).take z
       obtain⟨E',k1,k2,k3,k4⟩:=nL_ok (H0:=H0) ps _ _ hH hseg
       refine⟨E',k1,k2,?_⟩
       obtain⟨_,r',g',arr',hr',hg',hz',hheap',q1,q2,q3,hn',q4,q5,hes'⟩:=k3.blk _ _ hb'
       rw[k1.1 _ _ hr] at hr';cases hr'
       rw[hg] at hg';cases hg'
       rw[hheap] at hheap';cases hheap'
       refine k3.turn hb' (fun h=>h.rows) (k1.1 _ _ hr) (Keeps.refl _ _) ⟨r,g,arr,k1.1 _ _ hr,hg,hz,hheap,q1,q2,q3,hn,q4,q5,fun i hi=>?_⟩
       obtain rfl:i=0:=by omega
       obtain⟨xs2,hx2,hrel2⟩:=hes' 0 (by omega)
       rw[hx'] at hx2;cases hx2
       refine⟨_,by rw[Tr.get_put];rfl,?_⟩
       have hl:=hrel2.1
       have e1:=split3 ((arr.toList.drop (r.lo+0*zb')).take zb') o z
       rw[e1]
       exact(hrel2.take o).append (k4.append (hrel2.drop (o+z)))
     ·exact hid
    ·exact hid
   ·exact hid
  ·exact hid
 ·exact hid
theorem bBs_ok:∀(n c:Nat) (m:Mt) {E:Env},RelH fr w0 E m.H w→∃E',E.le E'∧E'.q=E.q∧RelH fr w0 E' (bBs H0 n c m).H w
 | 0,c,m,E,hH=>⟨E,Env.le_refl E,rfl,hH⟩
 | n+1,c,m,E,hH=>by
  obtain⟨E1,h1,h2,h3⟩:=bB_ok (H0:=H0) m c hH
  obtain⟨E2,k1,k2,k3⟩:=bBs_ok n (c+1) (bB H0 m c) h3
  exact⟨E2,Env.le_trans h1 k1,k2.trans h2,k3⟩
theorem bind1_ok {s:Sum} {as:List SV} {vs:List Value} (hH:RelH fr w0 E H w) (hl:as.length=vs.length) (hr:∀(j:Nat) x v,as[j]?=some x→vs[j]?=some v→RelS E x v) :
  ∃E',E.le E'∧E'.q=E.q∧RelH fr w0 E' (qbJ s as H).2.H w∧(qbJ s as H).1.length=vs.length∧∀(j:Nat) x v,(qbJ s as H).1[j]?=some x→vs[j]?=some v→RelS E' x v:=by
 obtain⟨E1,h1,h2,h3,h4,h5⟩:=nA_ok (H0:=s.H0) s.as0 as vs hH hl hr
 have hm:(bA ⟨.e,.e,.e,(nA s.H0 H s.as0 as).2⟩ s.as0 (nA s.H0 H s.as0 as).1).H=(nA s.H0 H s.as0 as).2:=bA_H _ _ _
 obtain⟨E2,k1,k2,k3⟩:=bBs_ok (fr:=fr) (w0:=w0) (w:=w) (H0:=s.H0) s.H0.next 0 (bA ⟨.e,.e,.e,(nA s.H0 H s.as0 as).2⟩ s.as0 (nA s.H0 H s.as0 as).1) (E:=E1) (by rw[hm];exact h3)
 exact⟨E2,Env.le_trans h1 k1,k2.trans h2,k3,h4,fun j x v hx hv=>(h5 j x v hx hv).mono k1⟩
end
mutual
def bT (n m:Nat):Te→Bool
 | .s i=>Nat.blt i n
 | .l _=>true
 | .bin _ a b=>bT n m a&&bT n m b
 | .not a=>bT n m a
 | .and a b=>bT n m a&&bT n m b
 | .cv _ a=>bT n m a
 | .sl a=>bT n m a
 | .len r=>bR n m r
 | .cell r i _=>bR n m r&&bT n m i
 | .ite c a b=>bT n m c&&bT n m a&&bT n m b
 | .sub a i j=>bT n m a&&bT n m i&&bT n m j
 | .str r=>bR n m r
def bR (n m:Nat):RT→Bool
 | .s i=>Nat.blt i m
 | .nil=>true
 | .one cs=>bTL n m cs
 | .app a b=>bR n m a&&bR n m b
 | .set r i _ cs=>bR n m r&&bT n m i&&bTL n m cs
 | .take r k=>bR n m r&&bT n m k
 | .drop r k=>bR n m r&&bT n m k
 | .rep cs k=>bTL n m cs&&bT n m k
 | .by a=>bT n m a
def bTL (n m:Nat):TL→Bool
 | .nil=>true
 | .cons x xs=>bT n m x&&bTL n m xs
end
mutual
theorem qci {q:Qn} {S:Sy} (hS:q.has S):∀(x:Te),bT q.n q.m x=true→x.ev S=x.ev q.S
 | .s i,h=>hS.1 i (by simpa [bT] using h)
 | .l _,_=>rfl
 | .bin _ a b,h=>by simp only[bT,Bool.and_eq_true] at h;simp only[Te.ev,qci hS a h.1,qci hS b h.2]
 | .not a,h=>by simp only[bT] at h;simp only[Te.ev,qci hS a h]
 | .and a b,h=>by simp only[bT,Bool.and_eq_true] at h;simp only[Te.ev,qci hS a h.1,qci hS b h.2]
 | .cv _ a,h=>by simp only[bT] at h;simp only[Te.ev,qci hS a h]
 | .sl a,h=>by simp only[bT] at h;simp only[Te.ev,qci hS a h]
 | .len r,h=>by simp only[bT] at h;simp only[Te.ev,qgB hS r h]
 | .cell r i _,h=>by simp only[bT,Bool.and_eq_true] at h;simp only[Te.ev,qgB hS r h.1,qci hS i h.2]
 | .ite c a b,h=>by simp only[bT,Bool.and_eq_true] at h;simp only[Te.ev,qci hS c h.1.1,qci hS a h.1.2,qci hS b h.2]
 | .sub a i j,h=>by simp only[bT,Bool.and_eq_true] at h;simp only[Te.ev,qci hS a h.1.1,qci hS i h.1.2,qci hS j h.2]
 | .str r,h=>by simp only[bT] at h;simp only[Te.ev,qgB hS r h]
theorem qgB {q:Qn} {S:Sy} (hS:q.has S):∀(x:RT),bR q.n q.m x=true→x.ev S=x.ev q.S
 | .s i,h=>hS.2 i (by simpa [bR] using h)
 | .nil,_=>rfl
 | .one cs,h=>by simp only[bR] at h;simp only[RT.ev,qfw hS cs h]
 | .app a b,h=>by simp only[bR,Bool.and_eq_true] at h;simp only[RT.ev,qgB hS a h.1,qgB hS b h.2]
 | .set r i _ cs,h=>by simp only[bR,Bool.and_eq_true] at h;simp only[RT.ev,qgB hS r h.1.1,qci hS i h.1.2,qfw hS cs h.2]
 | .take r k,h=>by simp only[bR,Bool.and_eq_true] at h;simp only[RT.ev,qgB hS r h.1,qci hS k h.2]
 | .drop r k,h=>by simp only[bR,Bool.and_eq_true] at h;simp only[RT.ev,qgB hS r h.1,qci hS k h.2]
 | .rep cs k,h=>by simp only[bR,Bool.and_eq_true] at h;simp only[RT.ev,qfw hS cs h.1,qci hS k h.2]
 | .by a,h=>by simp only[bR] at h;simp only[RT.ev,qci hS a h]
theorem qfw {q:Qn} {S:Sy} (hS:q.has S):∀(x:TL),bTL q.n q.m x=true→x.ev S=x.ev q.S
 | .nil,_=>rfl
 | .cons x xs,h=>by simp only[bTL,Bool.and_eq_true] at h;simp only[TL.ev,qci hS x h.1,qfw hS xs h.2]
end
section
variable (gv:Nat→Te) (gr:Nat→RT)
mutual
def sT:Te→Te
 | .s i=>gv i
 | .l v=>.l v
 | .bin op a b=>.bin op (sT a) (sT b)
 | .not a=>.not (sT a)
 | .and a b=>.and (sT a) (sT b)
 | .cv k a=>.cv k (sT a)
 | .sl a=>.sl (sT a)
 | .len r=>.len (sR r)
 | .cell r i j=>.cell (sR r) (sT i) j
 | .ite c a b=>.ite (sT c) (sT a) (sT b)
 | .sub a i j=>.sub (sT a) (sT i) (sT j)
 | .str r=>.str (sR r)
def sR:RT→RT
 | .s i=>gr i
 | .nil=>.nil
 | .one cs=>.one (sTL cs)
 | .app a b=>.app (sR a) (sR b)
 | .set r i j cs=>.set (sR r) (sT i) j (sTL cs)
 | .take r k=>.take (sR r) (sT k)
 | .drop r k=>.drop (sR r) (sT k)
 | .rep cs k=>.rep (sTL cs) (sT k)
 | .by a=>.by (sT a)
def sTL:TL→TL
 | .nil=>.nil
 | .cons x xs=>.cons (sT x) (sTL xs)
end
def syOf (S:Sy):Sy:=⟨fun i=>(gv i).ev S,fun j=>(gr j).ev S⟩
mutual
theorem qcm (S:Sy):∀(x:Te),(sT gv gr x).ev S=x.ev (syOf gv gr S)
 | .s i=>rfl
 | .l _=>rfl
 | .bin _ a b=>by simp only[sT,Te.ev,qcm S a,qcm S b]
 | .not a=>by simp only[sT,Te.ev,qcm S a]
 | .and a b=>by simp only[sT,Te.ev,qcm S a,qcm S b]
 | .cv _ a=>by simp only[sT,Te.ev,qcm S a]
 | .sl a=>by simp only[sT,Te.ev,qcm S a]
 | .len r=>by simp only[sT,Te.ev,qgK S r]
 | .cell r i _=>by simp only[sT,Te.ev,qgK S r,qcm S i]
 | .ite c a b=>by simp only[sT,Te.ev,qcm S c,qcm S a,qcm S b]
 | .sub a i j=>by simp only[sT,Te.ev,qcm S a,qcm S i,qcm S j]
 | .str r=>by simp only[sT,Te.ev,qgK S r]
theorem qgK (S:Sy):∀(x:RT),(sR gv gr x).ev S=x.ev (syOf gv gr S)
 | .s i=>rfl
 | .nil=>rfl
 | .one cs=>by simp only[sR,RT.ev,sTL_ev S cs]
 | .app a b=>by simp only[sR,RT.ev,qgK S a,qgK S b]
 | .set r i _ cs=>by simp only[sR,RT.ev,qgK S r,qcm S i,sTL_ev S cs]
 | .take r k=>by simp only[sR,RT.ev,qgK S r,qcm S k]
 | .drop r k=>by simp only[sR,RT.ev,qgK S r,qcm S k]
 | .rep cs k=>by simp only[sR,RT.ev,sTL_ev S cs,qcm S k]
 | .by a=>by simp only[sR,RT.ev,qcm S a]
theorem sTL_ev (S:Sy):∀(x:TL),(sTL gv gr x).ev S=x.ev (syOf gv gr S)
 | .nil=>rfl
 | .cons x xs=>by simp only[sTL,TL.ev,qcm S x,sTL_ev S xs]
end
end
def qfa (s:Sum) (m:Mt) (i:Nat):Te:=bif Nat.blt i s.nv then (m.v.get i).getD (.l undef) else .s (i - s.nv+m.H.n)
def qeF (s:Sum) (m:Mt) (j:Nat):RT:=bif Nat.blt j s.nr then (m.r.get j).getD .nil else .s (j - s.nr+m.H.m)
def qcb:Option Bl→Bool
 | some (.rows _ _ _ _)=>true
 | _=>false
def qgS:Option Bl→Bool
 | some (.sy _ _ _ _)=>true
 | _=>false
def vC (s:Sum) (m:Mt):AC→AC→Bool
 | .v x,.v y=>valEq x y
 | .t k (.s i),y =>
  match teO y,m.v.get i with
  | some (k',te),some te'=>Nat.blt i s.nv&&qgU k k'&&qcQ te' te
  | _,_=>false
 | .p c o,.p b o' =>
  match m.b.get c with
  | some (b',oc)=>bif qgS (s.bl[c]?) then Nat.beq b b'&&Nat.beq o o' else qcb (s.bl[c]?)&&Nat.beq b b'&&Nat.beq (oc+o) o'
  | none=>false
 | .sr c,.sr b =>
  match m.b.get c with
  | some (b',_)=>qgS (s.bl[c]?)&&Nat.beq b b'
  | none=>false
 | .ss c (.s i) (.s j),.ss b k n =>
  match m.b.get c,m.v.get i,m.v.get j with
  | some (b',_),some tk,some tn=>qgS (s.bl[c]?)&&Nat.beq b b'&&Nat.blt i s.nv&&Nat.blt j s.nv&&qcQ tk k&&qcQ tn n
  | _,_,_=>false
 | _,_=>false
def vL (s:Sum) (m:Mt):List AC→List AC→Bool
 | [],[]=>true
 | p :: ps,x :: xs=>vC s m p x&&vL s m ps xs
 | _,_=>false
def vV (s:Sum) (m:Mt):AV→AV→Bool
 | .c p,.c x=>vC s m p x
 | .ag ps,.ag xs=>vL s m ps xs
 | _,_=>false
def vA (s:Sum) (m:Mt):List SV→List SV→Bool
 | [],[]=>true
 | .o p :: ps,.o x :: xs=>vV s m p x&&vA s m ps xs
 | _,_=>false
def vB (s:Sum) (m:Mt) (c:Nat):Bool :=
 match s.bl[c]?,m.b.get c with
 | some (.rows none z 1 es0),some (b,o) =>
  match m.H.bs.get b,es0.get 0 with
  | some (.rows tb zb 1 es),some ps =>
   match es.get 0 with
   | some xs=>vL s m ps ((xs.drop o).take z)&&Nat.ble (o+z) zb&&Nat.blt 0 z
   | none=>false
  | _,_=>false
 | some (.sy own t ks (.s j)),some (b,_) =>
  match m.H.bs.get b,m.r.get j with
  | some (.sy own' t' ks' rt),some rt'=>(own==own')&&Nat.beq t t'&&ksEq ks ks'&&Nat.blt j s.nr&&qhf rt' rt
  | _,_=>false
 | _,_=>false
def vD (s:Sum) (m:Mt) (c d:Nat):Bool :=
 match s.bl[c]?,m.b.get c,s.bl[d]?,m.b.get d with
 | some (.rows _ z _ _),some (b,o),some (.rows _ z' _ _),some (b',o')=>!(Nat.beq b b')||Nat.ble (o+z) o'||Nat.ble (o'+z') o
 | some _,some (b,_),some _,some (b',_)=>!(Nat.beq b b')
 | _,_,_,_=>false
def allN (f:Nat→Bool):Nat→Bool
 | 0=>true
 | n+1=>allN f n&&f n
theorem qcu {f:Nat→Bool}:∀{n:Nat},allN f n=true→∀k,k < n→f k=true
 | n+1,h,k,hk=>by
  simp only[allN,Bool.and_eq_true] at h
  by_cases e:k=n
  ·rw[e];exact h.2
  ·exact qcu h.1 k (by omega)
def okM (s:Sum) (as:List SV) (m:Mt):Bool :=
 vA s m s.as0 as&&allN (vB s m) s.bl.length&&allN (fun c=>allN (fun d=>vD s m c d) c) s.bl.length&&allN (fun i=>bT m.H.n m.H.m (qfa s m i)) s.nv&&allN (fun j=>bR m.H.n m.H.m (qeF s m j)) s.nr
def qcN (s:Sum) (m:Mt) (E:Env) (c:Nat):Option Rg :=
 match s.bl[c]?,m.b.get c with
 | some (.rows _ z _ _),some (b,o)=>(E b).map fun r=>⟨r.own,r.lo+o,1,z,r.t,false,undef⟩
 | some (.sy _ _ _ _),some (b,_)=>E b
 | _,_=>none
def qcF (s:Sum) (m:Mt) (E:Env):Env:=⟨qcN s m E,⟨s.nv,s.nr,syOf (qfa s m) (qeF s m) E.q.S⟩⟩
def frOf (fr:Fr) (s:Sum) (m:Mt) (E:Env) (w:World):Fr:=fun g o=>fr g o∨(g < w.heap.size∧¬∃c r,qcN s m E c=some r∧r.has g o)
def wsOf (w0:Ws) (s:Sum) (m:Mt) (E:Env) (w:World):Ws:=⟨w,fun g o=>w0.u g o∧∃c r,qcN s m E c=some r∧r.has g o⟩
section
variable {C:Cfg} {fr:Fr} {E:Env} {w0:Ws} {w w':World} {s:Sum} {m:Mt} {as:List SV}
structure Fits (s:Sum) (as:List SV) (m:Mt):Prop where
 args:vA s m s.as0 as=true
 blks:∀c,c < s.bl.length→vB s m c=true
 dist:∀c,c < s.bl.length→∀d,d < c→vD s m c d=true
 bv:∀i,i < s.nv→bT m.H.n m.H.m (qfa s m i)=true
 br:∀j,j < s.nr→bR m.H.n m.H.m (qeF s m j)=true
theorem okM_fits (h:okM s as m=true):Fits s as m:=by
 simp only[okM,Bool.and_eq_true] at h
 exact⟨h.1.1.1.1,qcu h.1.1.1.2,fun c hc=>qcu (qcu h.1.1.2 c hc),qcu h.1.2,qcu h.2⟩
theorem e0_v (hf:Fits s as m) (hH:RelH fr w0 E m.H w) {i:Nat} (hi:i < s.nv) {S:Sy} (hS:E.q.has S):(qfa s m i).ev S=(qcF s m E).q.S.v i:=by
 have h:=hf.bv i hi
 rw[←hH.cnt.1,←hH.cnt.2] at h
 exact qci hS _ h
theorem e0_r (hf:Fits s as m) (hH:RelH fr w0 E m.H w) {j:Nat} (hj:j < s.nr) {S:Sy} (hS:E.q.has S):(qeF s m j).ev S=(qcF s m E).q.S.r j:=by
 have h:=hf.br j hj
 rw[←hH.cnt.1,←hH.cnt.2] at h
 exact qgB hS _ h
theorem isRowsB_ex {x:Option Bl} (h:qcb x=true):∃t z n es,x=some (.rows t z n es):=by
 unfold qcb at h
 split at h
 ·exact⟨_,_,_,_,rfl⟩
 ·cases h
theorem qfS {x:Option Bl} (h:qgS x=true):∃o t ks rt,x=some (.sy o t ks rt):=by
 unfold qgS at h
 split at h
 ·exact⟨_,_,_,_,rfl⟩
 ·cases h
theorem vC_ok (hf:Fits s as m) (hH:RelH fr w0 E m.H w) {p x:AC} (h:vC s m p x=true) {u:Value} (hu:RelC E x u):RelC (qcF s m E) p u:=by
 unfold vC at h
 split at h
 ·rw[qfQ h];exact hu
 ·rename_i y k i
  split at h
  ·rename_i k' te te' h1 h2
   simp only[Bool.and_eq_true,Nat.blt_eq] at h
   obtain⟨⟨hi,hk⟩,ht⟩:=h
   obtain rfl:=qco hk
   obtain rfl:=qaS _ _ ht
   obtain⟨g1,g2⟩:=qbl h1 hu
   refine⟨g1,fun S hS=>?_⟩
   have e1:S.v i=(qcF s m E).q.S.v i:=hS.1 i hi
   simp only[Te.ev]
   rw[e1,←e0_v hf hH hi E.q.has_self]
   have:qfa s m i=te':=by
    unfold qfa
    rw[show Nat.blt i s.nv=true by simpa using hi,cond_true,h2]
    rfl
   rw[this]
   exact g2 _ E.q.has_self
  ·cases h
 ·rename_i c o b o'
  split at h
  ·rename_i b' oc hb
   cases hsy:qgS (s.bl[c]?) with
   | true =>
    rw[hsy,cond_true] at h
    simp only[Bool.and_eq_true,qaz,decide_eq_true_eq] at h
    obtain⟨rfl,rfl⟩:=h
    obtain⟨o1,t,ks,rt,hc⟩:=qfS hsy
    obtain⟨r,g,hE,hg,rfl⟩:=hu
    exact⟨r,g,by show qcN s m E c=_;simp only[qcN,hc,hb,hE],hg,rfl⟩
   | false =>
   rw[hsy,cond_false] at h
   simp only[Bool.and_eq_true,qaz,decide_eq_true_eq] at h
   obtain⟨⟨hr,rfl⟩,rfl⟩:=h
   obtain⟨t,z,n,es,hc⟩:=isRowsB_ex hr
   obtain⟨r,g,hE,hg,rfl⟩:=hu
   exact⟨⟨r.own,r.lo+oc,1,z,r.t,false,undef⟩,g,by show qcN s m E c=_;simp only[qcN,hc,hb,hE,Option.map_some],hg,by simp only[Nat.add_assoc]⟩
  ·cases h
 ·rename_i c b
  split at h
  ·rename_i b' oc hb
   simp only[Bool.and_eq_true,qaz,decide_eq_true_eq] at h
   obtain⟨hr,rfl⟩:=h
   obtain⟨o,t,ks,rt,hc⟩:=qfS hr
   obtain⟨r,hE,hv⟩:=hu
   exact⟨r,by show qcN s m E c=_;simp only[qcN,hc,hb,hE],hv⟩
  ·cases h
 ·rename_i c i j b k n
  split at h
  ·rename_i b' oc tk tn hb h1 h2
   simp only[Bool.and_eq_true,Nat.blt_eq,qaz,decide_eq_true_eq] at h
   obtain⟨⟨⟨⟨⟨hr,rfl⟩,hi⟩,hj⟩,hk⟩,hn⟩:=h
   obtain rfl:=qaS _ _ hk
   obtain rfl:=qaS _ _ hn
   obtain⟨o,t,ks,rt,hc⟩:=qfS hr
   obtain⟨r,a,N,cc,kk,mm,hE,hv,hle,hev,rest⟩:=hu
   have hg:∀{q:Nat} {te:Te},q < s.nv→m.v.get q=some te→∀S,(qcF s m E).q.has S→(Te.s q).ev S=te.ev E.q.S:=by
    intro q te hq hm S hS
    have e1:S.v q=(qcF s m E).q.S.v q:=hS.1 q hq
    simp only[Te.ev]
    rw[e1,←e0_v hf hH hq E.q.has_self]
    have:qfa s m q=te:=by
     unfold qfa
     rw[show Nat.blt q s.nv=true by simpa using hq,cond_true,hm]
     rfl
    rw[this]
   exact⟨r,a,N,cc,kk,mm,by show qcN s m E c=_;simp only[qcN,hc,hb,hE],hv,hle,fun S hS=>⟨by rw[hg hi h1 S hS];exact(hev _ E.q.has_self).1,by rw[hg hj h2 S hS];exact(hev _ E.q.has_self).2⟩,rest⟩
  ·cases h
 ·cases h
theorem vL_ok (hf:Fits s as m) (hH:RelH fr w0 E m.H w):∀{ps xs:List AC} {us:List Value},vL s m ps xs=true→RelL E xs us→RelL (qcF s m E) ps us
 | [],[],us,h,hr=>by
  have:us=[]:=List.eq_nil_of_length_eq_zero (by rw[←hr.1];rfl)
  subst this
  exact RelL.nil
 | p :: ps,x :: xs,us,h,hr=>by
  simp only[vL,Bool.and_eq_true] at h
  cases us with
  | nil=>exact absurd hr.1 (by simp)
  | cons u us=>exact RelL.cons (vC_ok hf hH h.1 (hr.2 0 x u rfl rfl)) (vL_ok hf hH h.2 ⟨by simpa using hr.1,fun j y v hy hv=>hr.2 (j+1) y v (by simpa using hy) (by simpa using hv)⟩)
 | [],_ :: _,us,h,hr=>by cases h
 | _ :: _,[],us,h,hr=>by cases h
theorem vA_ok (hf:Fits s as m) (hH:RelH fr w0 E m.H w):∀{ps xs:List SV} {us:List Value},vA s m ps xs=true→xs.length=us.length→(∀(j:Nat) x v,xs[j]?=some x→us[j]?=some v→RelS E x v) →
  ps.length=us.length∧∀(j:Nat) x v,ps[j]?=some x→us[j]?=some v→RelS (qcF s m E) x v
 | [],[],us,h,hl,hr=>⟨hl,fun j x v hx=>by simp at hx⟩
 | .o p :: ps,.o x :: xs,us,h,hl,hr=>by
  simp only[vA,Bool.and_eq_true] at h
  cases us with
  | nil=>exact absurd hl (by simp)
  | cons u us =>
   obtain⟨k1,k2⟩:=vA_ok hf hH h.2 (us:=us) (by simpa using hl) (fun j y v hy hv=>hr (j+1) y v (by simpa using hy) (by simpa using hv))
   refine⟨by simp[k1],fun j y v hy hv=>?_⟩
   cases j with
   | zero =>
    simp at hy hv
    subst hy hv
    have h0:=hr 0 (.o x) u rfl rfl
    cases p with
    | c p=>cases x with
     | c x=>exact vC_ok hf hH h.1 h0
     | ag x=>cases h.1
    | ag p=>cases x with
     | c x=>cases h.1
     | ag x=>obtain⟨arr,e,hl⟩:=h0;exact⟨arr,e,vL_ok hf hH h.1 hl⟩
   | succ j=>exact k2 j y v (by simpa using hy) (by simpa using hv)
 | [],_ :: _,us,h,hl,hr=>by cases h
 | .o _ :: _,[],us,h,hl,hr=>by cases h
 | .tu _ :: _,_,us,h,hl,hr=>by cases h
 | .o _ :: _,.tu _ :: _,us,h,hl,hr=>by cases h
theorem qeu (hf:Fits s as m) {c:Nat} {r0:Rg} (h:qcN s m E c=some r0):∃b o r bl,c < s.bl.length∧m.b.get c=some (b,o)∧E b=some r∧m.H.bs.get b=some bl∧((∃t z n es tb zb es',s.bl[c]?=some (.rows t z n es)∧bl=.rows tb zb 1 es'∧o+z≤zb∧r0=⟨r.own,r.lo+o,1,z,r.t,false,undef⟩)∨(∃own t ks rt own' t' ks' rt',s.bl[c]?=some (.sy own t ks rt)∧bl=.sy own' t' ks' rt'∧r0=r)):=by
 unfold qcN at h
 split at h
 ·rename_i t z n es b o hc hb
  obtain⟨r,hE,rfl⟩:=Option.map_eq_some_iff.1 h
  have hlt:c < s.bl.length:=(List.getElem?_eq_some_iff.1 hc).1
  have hv:=hf.blks c hlt
  unfold vB at hv
  split at hv
  ·rename_i z' es0 b' o' hc' hb'
   rw[hc] at hc'
   cases hc'
   rw[hb] at hb'
   cases hb'
   split at hv
   ·rename_i tb zb es' ps hbs hps
    split at hv
    ·rename_i xs hx
     simp only[Bool.and_eq_true,Nat.ble_eq] at hv
     exact⟨b,o,r,_,hlt,hb,hE,hbs,.inl ⟨_,z,_,es,tb,zb,es',hc,rfl,hv.1.2,rfl⟩⟩
    ·cases hv
   ·cases hv
  ·rename_i hc' _
   rw[hc] at hc'
   cases hc'
  ·cases hv
 ·rename_i own t ks rt b o hc hb
  have hlt:c < s.bl.length:=(List.getElem?_eq_some_iff.1 hc).1
  have hv:=hf.blks c hlt
  unfold vB at hv
  split at hv
  ·rename_i hc' _
   rw[hc] at hc'
   cases hc'
  ·rename_i own' t' ks' j b' o' hc' hb'
   rw[hb] at hb'
   cases hb'
   split at hv
   ·rename_i own2 t2 ks2 rt2 rt3 hbs hr
    exact⟨b,o,r0,_,hlt,hb,h,hbs,.inr ⟨own,t,ks,rt,own2,t2,ks2,rt2,hc,rfl,rfl⟩⟩
   ·cases hv
  ·cases hv
 ·cases h
theorem qeN (hf:Fits s as m) (hH:RelH fr w0 E m.H w) {c:Nat} {r0:Rg} (h:qcN s m E c=some r0) {g o:Nat} (ho:r0.has g o):∃b p r bl,m.b.get c=some (b,p)∧E b=some r∧m.H.bs.get b=some bl∧r.has g o:=by
 obtain⟨b,p,r,bl,hlt,hb,hE,hbs,hor⟩:=qeu hf h
 refine⟨b,p,r,bl,hb,hE,hbs,?_⟩
 rcases hor with ⟨t,z,n,es,tb,zb,es',hc,rfl,hz,rfl⟩ | ⟨_,_,_,_,_,_,_,_,_,_,rfl⟩
 ·obtain⟨_,r',g',arr,hE',hg',hrz,_,_,_,_,hn,_⟩:=hH.blk _ _ hbs
  rw[hE] at hE';cases hE'
  obtain⟨h1,h2⟩:=ho
  rcases h2 with h2 | ⟨h2,h3⟩
  ·cases h2
  ·simp only[Nat.one_mul] at h2 h3
   refine⟨h1,.inr ⟨by omega,?_⟩⟩
   have:1*r.z≤r.cap*r.z:=Nat.mul_le_mul_right _ hn
   rw[hrz] at this ⊢
   omega
 ·exact ho
theorem fr_sub (hf:Fits s as m) (hH:RelH fr w0 E m.H w):∀g o,fr g o→frOf fr s m E w g o:=fun g o h=>.inl h
theorem frOf_lt (hH:RelH fr w0 E m.H w) {g o:Nat} (h:frOf fr s m E w g o):g < w.heap.size:=by
 rcases h with h | h
 ·exact Nat.lt_of_lt_of_le (hH.frlt g o h) hH.keep.size
 ·exact h.1
theorem callee (hf:Fits s as m) (hH:RelH fr w0 E m.H w):RelH (frOf fr s m E w) (wsOf w0 s m E w) (qcF s m E) s.H0 w:=by
 have hget:∀c bl,s.H0.bs.get c=some bl→s.bl[c]?=some bl:=by
  intro c bl h
  simp only[Sum.H0,qcd,List.getElem?_map] at h
  cases hq:s.bl[c]? with
  | none=>rw[hq] at h;cases h
  | some x=>rw[hq] at h;exact h
 have hlt:∀c bl,s.bl[c]?=some bl→c < s.bl.length:=fun c bl h=>(List.getElem?_eq_some_iff.1 h).1
 refine⟨fun c bl h=>⟨by simpa [Sum.H0,hpOf] using hlt c bl (hget c bl h),?_⟩,fun c hc=>?_,?_,?_,fun g o h=>frOf_lt hH h,Keeps.refl _ _,⟨rfl,rfl⟩⟩
 ·have hc:=hget c bl h
  have hv:=hf.blks c (hlt c bl hc)
  unfold vB at hv
  split at hv
  ·rename_i z es0 b o hc' hb
   rw[hc] at hc'
   cases hc'
   split at hv
   ·rename_i tb zb es ps hbs hps
    split at hv
    ·rename_i xs hx
     simp only[Bool.and_eq_true,Nat.ble_eq,Nat.blt_eq] at hv
     obtain⟨⟨hvl,hoz⟩,hz0⟩:=hv
     obtain⟨_,r,g,arr,hE,hg,hrz,hheap,q1,q2,q3,hn,q4,q5,hes⟩:=hH.blk _ _ hbs
     obtain⟨xs',hx',hrel⟩:=hes 0 (by omega)
     rw[hx] at hx';cases hx'
     have h1:1*zb≤r.cap*zb:=Nat.mul_le_mul_right _ hn
     refine⟨⟨r.own,r.lo+o,1,z,r.t,false,undef⟩,g,arr,by show qcN s m E c=_;simp only[qcN,hc,hb,hE,Option.map_some],hg,rfl,hheap,fun h=>(by cases h),(by simp only;omega),.inr (by simp only;omega),Nat.le_refl _,(by simp[maxLen]),fun t' h=>(by cases h),fun i hi=>?_⟩
     obtain rfl:i=0:=by omega
     refine⟨ps,hps,?_⟩
     have:=vL_ok hf hH hvl ((hrel.drop o).take z)
     simp only[Nat.zero_mul,Nat.add_zero] at this ⊢
     rw[qbv _ _ _ _ hoz,List.drop_drop] at this
     exact this
    ·cases hv
   ·cases hv
  ·rename_i own t ks j b o hc' hb
   rw[hc] at hc'
   cases hc'
   split at hv
   ·rename_i own' t' ks' rt rt' hbs hr
    simp only[Bool.and_eq_true,beq_iff_eq,Nat.blt_eq,qaz,decide_eq_true_eq] at hv
    obtain⟨⟨⟨⟨rfl,rfl⟩,hk⟩,hj⟩,hrt⟩:=hv
    obtain rfl:=qdv hk
    obtain rfl:=qcP _ _ hrt
    obtain⟨_,r,L,hE,k1,k2,k3,k4⟩:=hH.blk _ _ hbs
    refine⟨r,L,by show qcN s m E c=_;simp only[qcN,hc,hb,hE],k1,fun S hS=>?_,k3,?_⟩
    ·have e1:S.r j=(qcF s m E).q.S.r j:=hS.2 j hj
     simp only[RT.ev]
     rw[e1,←e0_r hf hH hj E.q.has_self]
     have:qeF s m j=rt':=by
      unfold qeF
      rw[show Nat.blt j s.nr=true by simpa using hj,cond_true,hr]
      rfl
     rw[this]
     exact k2 _ E.q.has_self
    ·cases own with
     | true=>exact k4
     | false =>
      obtain⟨p1,a,cc,p2,p3,p4,p5⟩:=k4
      refine⟨p1,a,cc,p2,p3,p4,fun hp=>?_⟩
      obtain⟨g,oo,arr,t2,fz,a1,a2,a3,a4,a5⟩:=p5 hp
      exact⟨g,oo,arr,t2,fz,a1,a2,a3,a4,fun x h1 h2=>fr_sub hf hH _ _ (a5 x h1 h2)⟩
   ·cases hv
  ·cases hv
 ·show qcN s m E c=none
  unfold qcN
  rw[List.getElem?_eq_none (by simpa [Sum.H0,hpOf] using hc)]
 ·intro c d bl bl' r r' g o hc hd e1 e2 h1 h2
  have key:∀c d bl bl' r r',s.bl[c]?=some bl→s.bl[d]?=some bl'→qcN s m E c=some r→qcN s m E d=some r'→r.has g o→r'.has g o→d < c→False:=by
   intro c d bl bl' r r' hc hd e1 e2 h1 h2 hlt'
   have hv:=hf.dist c (hlt c bl hc) d hlt'
   obtain⟨b,p,q,bb,hb,hE,hbs,hq⟩:=qeN hf hH e1 h1
   obtain⟨b',p',q',bb',hb',hE',hbs',hq'⟩:=qeN hf hH e2 h2
   have hbb:=hH.apart b b' bb bb' q q' g o hbs hbs' hE hE' hq hq'
   subst hbb
   rw[hE] at hE';cases hE'
   unfold vD at hv
   rw[hc,hd,hb,hb'] at hv
   split at hv
   ·rename_i t1 z1 n1 es1 b1 o1 t2 z2 n2 es2 b2 o2 heq1 heq2 heq3 heq4
    cases heq1;cases heq2;cases heq3;cases heq4
    have a1:r=⟨q.own,q.lo+p,1,z1,q.t,false,undef⟩:=by
     have:qcN s m E c=some ⟨q.own,q.lo+p,1,z1,q.t,false,undef⟩:=by simp only[qcN,hc,hb,hE,Option.map_some]
     rw[e1] at this
     exact Option.some.inj this
    have a2:r'=⟨q.own,q.lo+p',1,z2,q.t,false,undef⟩:=by
     have:qcN s m E d=some ⟨q.own,q.lo+p',1,z2,q.t,false,undef⟩:=by simp only[qcN,hd,hb',hE,Option.map_some]
     rw[e2] at this
     exact Option.some.inj this
    subst a1 a2
    obtain⟨_,h1⟩:=h1
    obtain⟨_,h2⟩:=h2
    rcases h1 with h1 | ⟨h1,h3⟩
    ·cases h1
    ·rcases h2 with h2 | ⟨h2,h4⟩
     ·cases h2
     ·simp only[Nat.one_mul] at h1 h2 h3 h4
      have hbb:Nat.beq b b=true:=by simp
      simp only[hbb,Bool.not_true,Bool.false_or,Bool.or_eq_true,Nat.ble_eq] at hv
      rcases hv with hv | hv
      ·omega
      ·omega
   ·rename_i b1 _ _ b2 _ _ heq1 heq2 heq3 heq4
    cases heq2;cases heq4
    have hbb:Nat.beq b b=true:=by simp
    rw[hbb] at hv
    cases hv
   ·cases hv
  rcases Nat.lt_trichotomy c d with hcd | hcd | hcd
  ·exact(key d c bl' bl r' r (hget d bl' hd) (hget c bl hc) e2 e1 h2 h1 hcd).elim
  ·exact hcd
  ·exact(key c d bl bl' r r' (hget c bl hc) (hget d bl' hd) e1 e2 h1 h2 hcd).elim
 ·intro c bl r g o hc e1 h1 h2
  rcases h2 with h2 | h2
  ·obtain⟨b,p,q,bb,hb,hE,hbs,hq⟩:=qeN hf hH e1 h1
   obtain⟨⟨hmk,k1⟩,k2⟩:=hH.free b bb q g o hbs hE hq h2
   obtain⟨t0,ks0,rt0,rfl,ht0⟩:=hmk
   have hc2:=hget c bl hc
   have hv:=hf.blks c (hlt c bl hc2)
   unfold vB at hv
   rw[hc2,hb] at hv
   split at hv
   ·rename_i heq1 heq2
    cases heq1;cases heq2
    rw[hbs] at hv
    cases hv
   ·rename_i own t ks j b2 o2 heq1 heq2
    cases heq1;cases heq2
    rw[hbs] at hv
    split at hv
    ·rename_i heq3 heq4
     cases heq3
     simp only[Bool.and_eq_true,beq_iff_eq,Nat.blt_eq,qaz,decide_eq_true_eq] at hv
     obtain⟨⟨⟨⟨rfl,rfl⟩,_⟩,_⟩,_⟩:=hv
     have:r=q:=by
      have h3:qcN s m E c=some q:=by simp only[qcN,hc2,hb,hE]
      have h4:qcN s m E c=some r:=e1
      rw[h3] at h4
      exact(Option.some.inj h4).symm
     subst this
     exact⟨⟨⟨_,_,_,rfl,ht0⟩,k1⟩,k2,c,r,e1,h1⟩
    ·cases hv
   ·cases hv
  ·exact absurd ⟨c,r,e1,h1⟩ h2.2
end
end Go.Proofs.YtipomcnbjlfekaaGreat.Rs
