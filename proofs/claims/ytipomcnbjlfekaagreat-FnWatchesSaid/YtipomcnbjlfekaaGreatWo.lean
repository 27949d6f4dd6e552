import Derived.Test.YtipomcnbjlfekaaGreatWl
import Derived.Test.YtipomcnbjlfekaaGreatWn
import Derived.Test.YtipomcnbjlfekaaGreatWf
import Derived.Test.YtipomcnbjlfekaaGreatWg
/- Parts of the proof, merged by a program. -/
namespace Go.Proofs.YtipomcnbjlfekaaGreat.Rs
set_option maxRecDepth 100000
set_option linter.all false
open Go.RowKit
noncomputable def C3:Cfg:=(cfg (fun _=>[]) (fun _ _=>[]) (fun _ _ _ _ _=>True) (fun _ _ _=>True)).rows 3
theorem C3_ok:C3.Ok:=cfg_ok.rows 3
theorem S157_in:qaw C0 dAll trA 157 S157∨FnBy C0 dAll trA 157 S157:=.inr (fnBy_of (C':=C3) rfl rfl C3_ok ⟨by decide,⟨Tryz.f157,10,10,by kernel_rfl,fun pre fact=>by kernel_rfl⟩,by kernel_rfl,by kernel_rfl⟩)
theorem p_in (m:Nat) (x a b:Int):phi trA (m+1) 830 [I x,I a,I b] []=some (0,[B (inB x a b)],[]):=by
 show o69.go _ _ _=_
 simp only[o69,TT,Nat.reduceEqDiff,↓reduceIte]
 by_cases h:a≤x<;>simp[h,inB]
theorem p_right (m:Nat) (k num a b p:Int):phi trA (m+2) 1898 [I k,I num,I a,I b,I p] []=some (0,[B (Nd.right ⟨k,num,a,b⟩ p)],[]):=by
 show o158.go (qbO (phi trA (m+1)) _) _ _=_
 unfold Nd.right
 by_cases h1:k=1
 ·subst h1
  simp only[o158,TT,Nat.reduceEqDiff,↓reduceIte,p_in,show inB 1 1 9=true from rfl,Bool.true_eq_false]
  cases inB num 0 999999<;>by_cases h2:a=0<;>by_cases h3:b=0<;>simp[h2,h3]
 ·by_cases h3:k=3
  ·subst h3
   simp only[o158,TT,Nat.reduceEqDiff,↓reduceIte,p_in,show inB 3 1 9=true from rfl,show qbB 3=true from rfl,Bool.true_eq_false,Int.reduceEq]
   cases inB a 0 (wr (p - 1))<;>by_cases h2:num=0<;>by_cases h4:b=0<;>simp[h2,h4]
  ·by_cases h6:k=6
   ·subst h6
    simp only[o158,TT,Nat.reduceEqDiff,↓reduceIte,p_in,show inB 6 1 9=true from rfl,show qbB 6=true from rfl,Bool.true_eq_false,Int.reduceEq]
    cases inB a 0 (wr (p - 1))<;>by_cases h2:num=0<;>by_cases h4:b=0<;>simp[h2,h4]
   ·have e:inB k 2 9=inB k 1 9:=by
     unfold inB
     have:decide (2≤k)=decide (1≤k):=by apply decide_eq_decide.2;omega
     rw[this]
    have o:qbB k=false:=by simp[qbB,h3,h6]
    simp only[o158,TT,Nat.reduceEqDiff,↓reduceIte,p_in,h1,h3,h6,e,o]
    cases inB k 1 9<;>cases inB a 0 (wr (p - 1))<;>cases inB b 0 (wr (p - 1))<;>by_cases h2:num=0<;>simp[h2]
theorem right_calls {m:Nat} (hd:DbOk (C0.lv trA (m+2)) dAll) (n:Nd) (p:Int) (hr:n.right p=true) (w:World):Calls Tryz.prog 158 #[.agg #[.int .i64 n.k,.int .i64 n.num,.int .i64 n.a,.int .i64 n.b],.int .i64 p] w fun e w'=>e=.returned (.bool true)∧Below w.heap.size w w':=by
 have hin:(158,S158)∈dAll.sums:=by
  refine List.mem_of_getElem? (i:=(dAll.sums.findIdx fun q=>Nat.beq q.1 158)) ?_
  kernel_rfl
 have hs:=(hd.sums _ hin).ok
 have e:S158=lawS2 [] [.o (.ag [.t (.n .i64) (.s 0),.t (.n .i64) (.s 1),.t (.n .i64) (.s 2),.t (.n .i64) (.s 3)]),.o (.c (.t (.n .i64) (.s 4)))] 5 1898 (1898*8):=by kernel_rfl
 have hs:qcA (C0.lv trA (m+2)) 158 S158:=hs
 rw[e] at hs
 refine law_of2 (C:=C0.lv trA (m+2)) w hs (us:=[]) (vs:=[I n.k,I n.num,I n.a,I n.b,I p]) (Ls:=[]) rfl rfl rfl (fun b q u L hq=>by simp at hq) rfl (fun j x v hx hv=>?_) ⟨_,p_right m n.k n.num n.a n.b p⟩ (fun xs ls hf=>?_)
 ·match j,hx,hv with
  | 0,hx,hv =>
   cases hx;cases hv
   refine⟨_,rfl,⟨rfl,fun i y u hy hu=>?_⟩⟩
   match i,hy,hu with
   | 0,hy,hu=>cases hy;cases hu;exact⟨⟨_,rfl⟩,fun S hS=>hS.1 0 (by show 0 < 5;omega)⟩
   | 1,hy,hu=>cases hy;cases hu;exact⟨⟨_,rfl⟩,fun S hS=>hS.1 1 (by show 1 < 5;omega)⟩
   | 2,hy,hu=>cases hy;cases hu;exact⟨⟨_,rfl⟩,fun S hS=>hS.1 2 (by show 2 < 5;omega)⟩
   | 3,hy,hu=>cases hy;cases hu;exact⟨⟨_,rfl⟩,fun S hS=>hS.1 3 (by show 3 < 5;omega)⟩
   | i+4,hy,_=>simp at hy
  | 1,hx,hv =>
   cases hx;cases hv
   exact⟨⟨_,rfl⟩,fun S hS=>hS.1 4 (by show 4 < 5;omega)⟩
  | j+2,hx,_=>simp at hx
 ·obtain⟨m',hm'⟩:=(qdk (C:=C0) (tr:=trA) (p:=1898) (k:=0) (by omega)).1 hf
  have:=qcw trA hm' (p_right m n.k n.num n.a n.b p)
  have hr':Nd.right ⟨n.k,n.num,n.a,n.b⟩ p=true:=hr
  rw[hr'] at this
  simp at this
  exact this.1
theorem f_arenaX {a:Ar} (hl:a.length≤90000000) (z:Bool):∀(d i:Nat),i+d=a.length→∃r,fin trA 1154 [B z,I i] [qag a]=some r∧(r=(0,[],[])→∀(j:Nat) (hj:j < a.length),i≤j→a[j].right j=true∧at_ a a[j]=j)∧(r=(0,[],[])∨r=(1,[B false],[]))
 | 0,i,hi=>by
  refine⟨(0,[],[]),qaa trA ?_,fun _ j hj hij=>by omega,.inl rfl⟩
  show o96_0.go _ _ _=_
  have g:¬(i:Int) < (a.length:Int):=by omega
  simp only[o96_0,TT,Nat.reduceEqDiff,↓reduceIte,encA_len,g]
 | d+1,i,hi=>by
  obtain⟨r,e,h1,h2⟩:=f_arenaX hl z d (i+1) (by omega)
  have hlt:i < a.length:=by omega
  have g:(i:Int) < (a.length:Int):=by omega
  have g0:(0:Int)≤(i:Int):=by omega
  have w:wr ((i:Int)+1)=((i+1:Nat):Int):=by rw[qaj (by omega) (by omega)];omega
  have e1:=qgl a[i].k a[i].num a[i].a a[i].b i
  rw[show(⟨a[i].k,a[i].num,a[i].a,a[i].b⟩:Nd)=a[i] from rfl] at e1
  have e2:=f_at a a[i] (by omega)
  cases hr:a[i].right i with
  | false =>
   rw[hr] at e1
   refine⟨(1,[B false],[]),qaa trA ?_,fun h=>by simp at h,.inr rfl⟩
   show o96_0.go _ _ _=_
   simp only[o96_0,qac,TT,Nat.reduceEqDiff,↓reduceIte,encA_len,Int.toNat_natCast,qal a i hlt,Nd.enc,g,g0,e1]
  | true =>
   rw[hr] at e1
   by_cases ha:at_ a a[i]=i
   ·refine⟨r,qaa trA ?_,fun h j hj hij=>?_,h2⟩
    ·show o96_0.go _ _ _=_
     rw[ha] at e2
     rcases h2 with rfl | rfl <;>
     simp only[o96_0,qac,TT,Nat.reduceEqDiff,↓reduceIte,encA_len,Int.toNat_natCast,qal a i hlt,Nd.enc,g,g0,e1,e2,w,e,ne_eq,not_true_eq_false]
    ·by_cases hji:j=i
     ·subst hji;exact⟨hr,ha⟩
     ·exact h1 h j hj (by omega)
   ·refine⟨(1,[B false],[]),qaa trA ?_,fun h=>by simp at h,.inr rfl⟩
    show o96_0.go _ _ _=_
    simp only[o96_0,qac,TT,Nat.reduceEqDiff,↓reduceIte,encA_len,Int.toNat_natCast,qal a i hlt,Nd.enc,g,g0,e1,e2,ha,ne_eq,not_false_eq_true]
theorem aok_of {a:Ar} (h:fin trA 1155 [] [qag a]=some (0,[B true],[])):AOk a:=by
 have hu:∀r,fin trA 1155 [] [qag a]=some r→r=(0,[B true],[]):=fun r hr=>by rw[h] at hr;exact(Option.some.inj hr).symm
 by_cases g:(3000:Int) < (a.length:Int)
 ·have:=hu (0,[B false],[]) (by
   refine qaa trA ?_
   show o96.go _ _ _=_
   simp only[o96,qac,TT,Nat.reduceEqDiff,↓reduceIte,encA_len,gt_iff_lt,g])
  simp at this
 obtain⟨r,e,h1,h2⟩:=f_arenaX (a:=a) (by omega) false a.length 0 (by omega)
 rw[show((0:Nat):Int)=0 from rfl] at e
 have hr:r=(0,[],[]):=by
  rcases h2 with rfl | rfl
  ·rfl
  ·have:=hu (0,[B false],[]) (by
    refine qaa trA ?_
    show o96.go _ _ _=_
    simp only[o96,qac,TT,Nat.reduceEqDiff,↓reduceIte,encA_len,gt_iff_lt,g,e])
   simp at this
 have h3:=h1 hr
 refine⟨fun i n hi=>?_,fun i j n hi hj=>?_,by omega⟩
 ·obtain⟨hlt,rfl⟩:=List.getElem?_eq_some_iff.1 hi
  exact(h3 i hlt (Nat.zero_le _)).1
 ·obtain⟨hli,ei⟩:=List.getElem?_eq_some_iff.1 hi
  obtain⟨hlj,ej⟩:=List.getElem?_eq_some_iff.1 hj
  have a1:=(h3 i hli (Nat.zero_le _)).2
  have a2:=(h3 j hlj (Nat.zero_le _)).2
  rw[ei] at a1
  rw[ej] at a2
  omega
theorem encA_of {L:Rw} (h:RowOk [.n .i64,.n .i64,.n .i64,.n .i64] L):∃a:Ar,L=qag a:=by
 induction L with
 | nil=>exact⟨[],rfl⟩
 | cons e L ih =>
  obtain⟨a,ha⟩:=ih (fun e he=>h e (List.mem_cons_of_mem _ he))
  obtain⟨h1,h2⟩:=h e List.mem_cons_self
  match e,h1,h2 with
  | [x,y,z,u],_,h2 =>
   obtain⟨x',rfl⟩:=h2 0 _ _ rfl rfl
   obtain⟨y',rfl⟩:=h2 1 _ _ rfl rfl
   obtain⟨z',rfl⟩:=h2 2 _ _ rfl rfl
   obtain⟨u',rfl⟩:=h2 3 _ _ rfl rfl
   exact⟨⟨x',y',z',u'⟩ :: a,by rw[ha];rfl⟩
set_option maxHeartbeats 1000000 in
theorem walk95_none (a:Option Addr) (cap:Nat) (W:World):Calls Tryz.prog 95 #[.agg #[.slice a 0 cap]] W fun e w'=>e=.returned (.bool true)∧Below W.heap.size W w':=by
 have hmm:=@run_makeMap Tryz.prog
 go_enter Tryz.func95,Tryz.ntmps95
 go_wp2
 refine wp_loop_rounds 1 ?_
 rw[rounds_succ]
 go_wp2
 go_ret
 exact⟨rfl,((Below.refl _ _).alloc (Nat.le_refl _) _).alloc (by show _≤(W.heap.push _).size;rw[Array.size_push];omega) _⟩
theorem wf_i64 {x:Int} (h0:0≤x) (h1:x≤1000000):(Lit.int .i64 x).wf=true:=WalkArith.wf_i64 (by omega)
theorem encA_flat:∀(a:Ar) (i:Nat) (h:i < a.length) (j:Nat),j < 4→(qag a).flatten[i*4+j]?=(a[i]).enc[j]?
 | n :: a,0,h,j,hj=>by
  show(n.enc++(qag a).flatten)[0*4+j]?=n.enc[j]?
  rw[Nat.zero_mul,Nat.zero_add,List.getElem?_append_left (by show j < 4;exact hj)]
 | n :: a,i+1,h,j,hj=>by
  show(n.enc++(qag a).flatten)[(i+1)*4+j]?=_
  rw[List.getElem?_append_right (by show 4≤_;omega),show(i+1)*4+j - n.enc.length=i*4+j by show _ - 4=_;omega]
  exact encA_flat a i (by simpa using h) j hj
theorem cell_of {w:World} {g:Nat} {arr:Array Value} {t:Nat} {fz:Nat × Nat} (h:w.heap[g]?=some (.cells arr t fz)) {o:Nat} {v:Value} (hv:arr[o]?=some v):w.cell? ⟨g,o,none⟩=some v:=by
 unfold World.cell?;rw[h];exact hv
theorem nd_bd {n:Nd} {p:Nat} (hp:p≤3000) (h:n.right p=true):∀x∈[n.k,n.num,n.a,n.b],(Lit.int .i64 x).wf=true:=by
 have hw:wr ((p:Int) - 1)≤3000:=by
  rw[qaj (by omega) (by omega)];omega
 have key:∀x:Int,0≤x→x≤1000000→(Lit.int .i64 x).wf=true:=fun x=>wf_i64
 unfold Nd.right at h
 intro x hx
 simp only[List.mem_cons,List.not_mem_nil,or_false] at hx
 split at h
 ·cases h
 ·rename_i h9
  simp[inB] at h9
  split at h
  ·simp[inB] at h
   rcases hx with rfl | rfl | rfl | rfl<;>exact key _ (by omega) (by omega)
  ·split at h
   ·cases h
   ·rename_i h0
    split at h
    ·cases h
    ·rename_i ha
     simp[inB] at ha h0
     split at h
     ·simp at h
      rcases hx with rfl | rfl | rfl | rfl<;>exact key _ (by omega) (by omega)
     ·simp[inB] at h
      rcases hx with rfl | rfl | rfl | rfl<;>exact key _ (by omega) (by omega)
theorem arena_res (a:Ar):∃z,fin trA 1155 [] [qag a]=some (0,[B z],[]):=by
 by_cases g:(3000:Int) < (a.length:Int)
 ·refine⟨false,qaa trA ?_⟩
  show o96.go _ _ _=_
  simp only[o96,qac,TT,Nat.reduceEqDiff,↓reduceIte,encA_len,gt_iff_lt,g]
 ·obtain⟨r,e,h1,h2⟩:=f_arenaX (a:=a) (by omega) false a.length 0 (by omega)
  rw[show((0:Nat):Int)=0 from rfl] at e
  rcases h2 with rfl | rfl
  ·refine⟨true,qaa trA ?_⟩
   show o96.go _ _ _=_
   simp only[o96,qac,TT,Nat.reduceEqDiff,↓reduceIte,encA_len,gt_iff_lt,g,e]
  ·refine⟨false,qaa trA ?_⟩
   show o96.go _ _ _=_
   simp only[o96,qac,TT,Nat.reduceEqDiff,↓reduceIte,encA_len,gt_iff_lt,g,e]
theorem arena_one (a:Ar) {r:Res} (h:phi trA 1 1155 [] [qag a]=some r):r=(0,[B false],[]):=by
 have h:o96.go (qbO (phi trA 0) 1155) [] [qag a]=some r:=h
 simp only[o96,qac,TT,Nat.reduceEqDiff,↓reduceIte,encA_len,gt_iff_lt] at h
 split at h
 ·exact(Option.some.inj h).symm
 ·cases h
theorem arenaOk_in {n:Nat} {a:Ar} {r0:Res} (h:o95.go (qbO (phi trA n) 1142) [] [qag a]=some r0):∃m,n=m+2∧phi trA n 1155 [] [qag a]=some (0,[B true],[]):=by
 simp only[o95,TT,Nat.reduceEqDiff,↓reduceIte] at h
 cases hx:phi trA n 1155 [] [qag a] with
 | none=>rw[hx] at h;cases h
 | some r =>
  obtain⟨z,hz⟩:=arena_res a
  have e:=fin_of trA hx
  rw[hz] at e
  cases e
  have hz:z=true:=by
   rw[hx] at h
   cases z with
   | true=>rfl
   | false=>simp only[TT,Nat.reduceEqDiff,↓reduceIte] at h;simp at h
  subst hz
  match n,hx with
  | 0,hx=>cases hx
  | 1,hx=>exact absurd (arena_one a hx) (by simp)
  | m+2,hx=>exact⟨m,rfl,rfl⟩
theorem S95_told (n:Nat) (hd:DbOk (C0.lv trA n) dAll):qcA (C0.lv trA (n+1)) 95 S95:=by
 intro fr w0 w E0 vs hn hm hH hl hr hpre
 obtain⟨r0,hr0⟩:∃r,phi trA (n+1) 1142 [] [E0.q.S.r 0]=some r:=hpre
 obtain⟨hlt,r,L,hE,hz,hL,hrow,hlies⟩:0 < S95.H0.next∧RelB fr E0 w 0 (.sy true 153 [.n .i64,.n .i64,.n .i64,.n .i64] (.s 0)):=hH.blk 0 _ rfl
 have hL:E0.q.S.r 0=L:=hL _ E0.q.has_self
 obtain⟨a,rfl⟩:=encA_of hrow
 rw[hL] at hr0
 obtain⟨m,rfl,h1⟩:=arenaOk_in (show o95.go (qbO (phi trA n) 1142) [] [qag a]=some r0 from hr0)
 have hao:=aok_of (fin_of trA h1)
 have hr1:phi trA (m+3) 1142 [] [qag a]=some (0,[B true],[]):=by
  show o95.go (qbO (phi trA (m+2)) 1142) _ _=_
  simp only[o95,TT,Nat.reduceEqDiff,↓reduceIte,h1]
 have fin:∀w',Below w.heap.size w w'→∃al∈S95.outs,∃E1 v r,(Ending.returned (.bool true):Ending)=.returned v∧al.res=[r]∧RelS E1 r v∧qbW (C0.lv trA (m+2+1)) fr w0 S95 E0 al E1 w':=fun w' hb=>by
  refine⟨_,List.mem_singleton.2 rfl,⟨E0.rg,E0.q.ext [.bool true] []⟩,.bool true,_,rfl,rfl,⟨⟨true,rfl⟩,fun S hS=>?_⟩,⟨fun _ _ h=>h,Qn.le_ext _ _ _⟩,⟨by show E0.q.n+1=0+1;rw[hn];rfl,by show E0.q.m+0=1+0;rw[hm];rfl⟩,(qdk (C:=C0) (p:=1142) (k:=0) (by omega)).2 ⟨m+3,?_⟩,?_⟩
  ·have:=hS.1 0 (by show 0 < E0.q.n+1;omega)
   have hn:E0.q.n=0:=hn
   simpa [Te.ev,Qn.ext,hn] using this
  ·have hn:E0.q.n=0:=hn
   show phi trA (m+3) 1142 [] [E0.q.S.r 0]=some (0,newV (E0.q.ext [.bool true] []) 0 1,newR (E0.q.ext [.bool true] []) 1 0)
   rw[hL,hr1]
   simp[newV,newR,Qn.ext,hn]
  ·have:=(hH.grow hb).syms [.bool true]
   exact this
 obtain⟨u,rfl⟩:∃u,vs=#[u]:=by
  match vs,hl with
  | ⟨[u]⟩,_=>exact⟨u,rfl⟩
 obtain⟨arr,rfl,h2,h3⟩:=hr 0 (.o (.ag [.sr 0])) u rfl rfl
 obtain⟨v,rfl⟩:∃v,arr=#[v]:=by
  match arr,h2 with
  | ⟨[v]⟩,_=>exact⟨v,rfl⟩
 obtain⟨r',hE',rfl,_⟩:=h3 0 (.sr 0) v rfl rfl
 rw[hE] at hE'
 cases hE'
 rcases hlies with ⟨q1,q2,q3⟩ | ⟨g,arr,q1,q2,q0,qt,q3,q4,q5,q6,q7,q8⟩
 ·rw[q2]
  exact(walk95_none none 0 w).mono fun e w' h=>by obtain⟨rfl,hb⟩:=h;exact fin w' hb
 ·rw[q3,encA_len]
  have hc:∀(i:Nat) (h:i < a.length) (j:Nat) (v:Value),j < 4→a[i].enc[j]?=some v→w.cell? ⟨g,i*4+j,none⟩=some v:=fun i h j v hj hv=>by
   refine cell_of q4 ?_
   have e:=encA_flat a i h j hj
   rw[←q8,encA_len,List.getElem?_take_of_lt (by rw[hz];show i*4+j < a.length*4;omega),hv] at e
   rw[←Array.getElem?_toList];exact e
  let ns:Nat→NdX:=fun i=>match a[i]? with
   | some n=>⟨n.k,n.num,n.a,n.b⟩
   | none=>⟨0,0,0,0⟩
  have hns:∀i (h:i < a.length),ns i=⟨a[i].k,a[i].num,a[i].a,a[i].b⟩:=fun i h=>by simp only[ns,List.getElem?_eq_getElem h]
  have hg:g < w.heap.size:=(Array.getElem?_eq_some_iff.1 q4).1
  refine(walk95 g a.length r.cap w ns hao.few hg (fun i hi=>?_) (fun i j hj hij he=>?_) (fun i w' hi=>?_) (fun i hi=>?_) (fun i hi=>?_) (fun i hi=>?_) (fun i hi=>?_)).mono fun e w' h=>by obtain⟨rfl,hb⟩:=h;exact fin w' hb
  ·rw[hns i hi]
   have:=nd_bd (by have:=hao.few;omega) (hao.right i _ (List.getElem?_eq_getElem hi))
   exact key153 (this _ (by simp)) (this _ (by simp)) (this _ (by simp)) (this _ (by simp))
  ·have hi:i < a.length:=by omega
   rw[hns i hi,hns j hj] at he
   simp[NdX.v] at he
   have:a[i]=a[j]:=by
    generalize a[i]=x at he
    generalize a[j]=y at he
    cases x;cases y;simp at he;simp[he]
   have:=hao.once i j a[i] (List.getElem?_eq_getElem hi) (by rw[this];exact List.getElem?_eq_getElem hj)
   omega
  ·rw[hns i hi]
   exact right_calls hd a[i] i (hao.right i _ (List.getElem?_eq_getElem hi)) w'
  ·rw[hns i hi];exact hc i hi 0 _ (by omega) rfl
  ·rw[hns i hi];exact hc i hi 1 _ (by omega) rfl
  ·rw[hns i hi];exact hc i hi 2 _ (by omega) rfl
  ·rw[hns i hi];exact hc i hi 3 _ (by omega) rfl
theorem S95_in:qaw C0 dAll trA 95 S95∨FnBy C0 dAll trA 95 S95:=.inr ⟨by decide,S95_told⟩
theorem tabAll:Tab C0 dAll trA:=⟨C0_ok,by kernel_rfl,qab (.inl S7_in) (qab (.inl S69_in) (qab (.inl S158_in) (qab S95_in (qab (.inl S133_in) (qab (.inl S154_in) (qab (.inl S155_in) (qab (.inl S92_in) (qab (.inl S28_in) (qab (.inl S93_in) (qab (.inl S29_in) (qab (.inl S30_in) (qab (.inl S39_in) (qab (.inl S42_in) (qab (.inl S41_in) (qab (.inl S57_in) (qab (.inl S105_in) (qab (.inl S126_in) (qab (.inl S159_in) (qab (.inl S104_in) (qab (.inl S44_in) (qab (.inl S81_in) (qab (.inl S82_in) (qab (.inl S45_in) (qab (.inl S84_in) (qab (.inl S106_in) (qab (.inl S83_in) (qab (.inl S85_in) (qab (.inl S22_in) (qab (.inl S87_in) (qab (.inl S46_in) (qab (.inl S48_in) (qab (.inl S192_in) (qab (.inl S145_in) (qab (.inl S146_in) (qab (.inl S162_in) (qab (.inl S209_in) (qab (.inl S223_in) (qab (.inl S224_in) (qab (.inl S225_in) (qab (.inl S226_in) (qab (.inl S198_in) (qab (.inl S227_in) (qab (.inl S228_in) (qab (.inl S199_in) (qab (.inl S272_in) (qab (.inl S273_in) (qab (.inl S257_in) (qab (.inl S258_in) (qab (.inl S211_in) (qab (.inl S58_in) (qab (.inl S16_in) (qab (.inl S243_in) (qab (.inl S230_in) (qab (.inl S212_in) (qab (.inl S277_in) (qab (.inl S278_in) (qab (.inl S266_in) (qab (.inl S239_in) (qab (.inl S279_in) (qab (.inl S280_in) (qab (.inl S267_in) (qab (.inl S259_in) (qab (.inl S249_in) (qab (.inl S281_in) (qab (.inl S283_in) (qab (.inl S284_in) (qab (.inl S274_in) (qab (.inl S260_in) (qab (.inl S238_in) (qab (.inl S269_in) (qab (.inl S255_in) (qab (.inl S161_in) (qab (.inl S275_in) (qab (.inl S276_in) (qab (.inl S261_in) (qab (.inl S250_in) (qab (.inl S210_in) (qab (.inl S163_in) (qab (.inl S240_in) (qab (.inl S270_in) (qab (.inl S285_in) (qab (.inl S282_in) (qab (.inl S271_in) (qab (.inl S256_in) (qab (.inl S262_in) (qab (.inl S221_in) (qab (.inl S263_in) (qab (.inl S17_in) (qab (.inl S90_in) (qab (.inl S24_in) (qab (.inl S25_in) (qab (.inl S195_in) (qab (.inl S241_in) (qab (.inl S222_in) (qab (.inl S264_in) (qab (.inl S251_in) (qab (.inl S246_in) (qab (.inl S234_in) (qab (.inl S204_in) (qab (.inl S235_in) (qab (.inl S247_in) (qab (.inl S236_in) (qab (.inl S219_in) (qab (.inl S252_in) (qab (.inl S265_in) (qab (.inl S253_in) (qab (.inl S268_in) (qab (.inl S254_in) (qab (.inl S248_in) (qab (.inl S237_in) (qab (.inl S220_in) (qab (.inl S193_in) (qab (.inl S147_in) (qab (.inl S148_in) (qab (.inl S143_in) (qab (.inl S194_in) (qab (.inl S149_in) (qab (.inl S196_in) (qab (.inl S197_in) (qab (.inl S150_in) (qab (.inl S201_in) (qab (.inl S200_in) (qab (.inl S151_in) (qab (.inl S43_in) (qab (.inl S242_in) (qab (.inl S229_in) (qab (.inl S202_in) (qab (.inl S96_in) (qab (.inl S206_in) (qab (.inl S207_in) (qab (.inl S208_in) (qab (.inl S160_in) (qab (.inl S98_in) (qab (.inl S203_in) (qab (.inl S152_in) (qab (.inl S153_in) (qab (.inl S89_in) (qab (.inl S91_in) (qab (.inl S27_in) (qab (.inl S100_in) (qab (.inl S102_in) (qab (.inl S101_in) (qab (.inl S164_in) (qab (.inl S165_in) (qab (.inl S103_in) (qab (.inl S74_in) (qab (.inl S156_in) (qab (.inl S40_in) (qab (.inl S205_in) (qab S157_in (qab (.inl S94_in) (qab (.inl S31_in) (qab (.inl S59_in) (qab (.inl S70_in) (qab (.inl S134_in) (qab (.inl S71_in) (qab (.inl S72_in) (qab (.inl S73_in) (qab (.inl S19_in) (qab (.inl S37_in) (qab (.inl S32_in) (qab (.inl S97_in) (qab (.inl S34_in) (qab (.inl S35_in) (qab (.inl S36_in) (qab (.inl S99_in) (qab (.inl S38_in) (qab (.inl S33_in) (qab (.inl S6_in) (qab (.inl S159m_in) (qab (.inl S104m_in) (qab (.inl S44m_in) (qab (.inl S45m_in) (qab (.inl S239m_in) (qab (.inl S209r_in) (qab (.inl S223r_in) (qab (.inl S281r_in) (qaF)))))))))))))))))))))))))))))))))))))))))))))))))))))))))))))))))))))))))))))))))))))))))))))))))))))))))))))))))))))))))))))))))))))))))))))))))))))))))))))))))))))))))))))))))),qab (.inl S92_0_in) (qab (.inl S92_2_in) (qab (.inl S92_4_in) (qab (.inl S92_6_in) (qab (.inl S92_8_in) (qab (.inl S28_0_in) (qab (.inl S93_0_in) (qab (.inl S29_0_in) (qab (.inl S30_0_in) (qab (.inl S30_2_in) (qab (.inl S30_4_in) (qab (.inl S39_0_in) (qab (.inl S159_0_in) (qab (.inl S106_0_in) (qab (.inl S22_0_in) (qab (.inl S22_2_in) (qab (.inl S22_4_in) (qab (.inl S162_0_in) (qab (.inl S226_0_in) (qab (.inl S228_0_in) (qab (.inl S58_0_in) (qab (.inl S243_0_in) (qab (.inl S249_0_in) (qab (.inl S161_0_in) (qab (.inl S161_2_in) (qab (.inl S275_0_in) (qab (.inl S275_2_in) (qab (.inl S275_4_in) (qab (.inl S250_0_in) (qab (.inl S240_0_in) (qab (.inl S263_0_in) (qab (.inl S17_0_in) (qab (.inl S24_0_in) (qab (.inl S25_0_in) (qab (.inl S204_0_in) (qab (.inl S235_0_in) (qab (.inl S235_2_in) (qab (.inl S236_0_in) (qab (.inr qfn) (qab (.inr qfp) (qab (.inr qfk) (qab (.inr qfh) (qab (.inr qfc) (qab (.inr qfo) (qab (.inr qfd) (qab (.inr qfr) (qab (.inr qfe) (qab (.inr qfj) (qab (.inl S193_0_in) (qab (.inl S194_0_in) (qab (.inl S149_0_in) (qab (.inl S197_0_in) (qab (.inl S242_0_in) (qab (.inl S96_0_in) (qab (.inl S206_0_in) (qab (.inl S206_2_in) (qab (.inl S160_0_in) (qab (.inl S160_2_in) (qab (.inl S160_4_in) (qab (.inl S160_6_in) (qab (.inl S89_1_in) (qab (.inl S91_0_in) (qab (.inl S91_2_in) (qab (.inl S27_0_in) (qab (.inl S27_2_in) (qab (.inl S101_0_in) (qab (.inl S74_0_in) (qab (.inl S40_0_in) (qab (.inl S94_1_in) (qab (.inl S59_0_in) (qab (.inl S70_0_in) (qab (.inl S72_0_in) (qab (.inl S72_2_in) (qab (.inl S73_0_in) (qab (.inl S73_2_in) (qab (.inl S19_0_in) (qab (.inl S37_0_in) (qab (.inl S97_0_in) (qab (.inl S34_0_in) (qab (.inl S35_0_in) (qab (.inl S35_2_in) (qab (.inl S35_4_in) (qab (.inl S36_0_in) (qab (.inl S99_0_in) (qab (.inl S38_0_in) (qab (.inl S159_0m_in) (qaF))))))))))))))))))))))))))))))))))))))))))))))))))))))))))))))))))))))))))))))))))))))⟩
end Go.Proofs.YtipomcnbjlfekaaGreat.Rs
