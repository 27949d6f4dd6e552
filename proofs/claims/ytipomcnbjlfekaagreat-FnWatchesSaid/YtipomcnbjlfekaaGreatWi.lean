import Derived.Test.YtipomcnbjlfekaaGreatWh
/- Parts of the proof, merged by a program. -/
namespace Go.Proofs.YtipomcnbjlfekaaGreat.Rs
set_option maxRecDepth 100000
set_option linter.all false
open Go.RowKit
theorem qfW (b:ByteArray):∀(n i:Nat) (r:List UInt8),i+n=b.size→ByteArray.toList.loop b i r=r.reverse++b.data.toList.drop i
 | 0,i,r,h=>by
  have hs:b.size=b.data.size:=rfl
  rw[ByteArray.toList.loop,if_neg (by omega),List.drop_eq_nil_of_le (by simp;omega),List.append_nil]
 | n+1,i,r,h=>by
  have hs:b.size=b.data.size:=rfl
  have hlt:i < b.data.size:=by omega
  rw[ByteArray.toList.loop,if_pos (by omega),qfW b n (i+1) _ (by omega),List.drop_eq_getElem_cons (l:=b.data.toList) (i:=i) (by simpa using hlt)]
  have:b.get! i=b.data.toList[i]'(by simpa using hlt):=by
   show b.data[i]! = _
   rw[getElem!_pos b.data i hlt]
   simp
  rw[this];simp
theorem qgE (l:List Nat):(qbS l).toList=l.map UInt8.ofNat:=by
 rw[ByteArray.toList,qfW _ (qbS l).size 0 [] (by omega)]
 simp[qbS]
theorem varL_lt:∀(n:Nat),∀x∈qbz n,x < 256:=by
 intro n
 induction n using Nat.strongRecOn with
 | ind n ih =>
  intro x hx
  by_cases h:127 < n
  ·rw[qbH h] at hx
   rcases List.mem_cons.1 hx with rfl | hx
   ·omega
   ·exact ih _ (by omega) x hx
  ·rw[qaZ h] at hx
   have:x=n:=by simpa using hx
   omega
theorem qgh:∀(t:Tm'),∀x∈qbK t,x < 256
 | .atom n,x,h=>by
  simp only[qbK,List.mem_append] at h
  rcases h with h | h<;>exact varL_lt _ x h
 | .un c t,x,h=>by
  simp only[qbK,List.mem_append] at h
  rcases h with h | h
  ·exact varL_lt _ x h
  ·exact qgh t x h
 | .bin c t u,x,h=>by
  simp only[qbK,List.mem_append] at h
  rcases h with (h | h) | h
  ·exact varL_lt _ x h
  ·exact qgh t x h
  ·exact qgh u x h
theorem qcf:∀(n m:Nat) (l l':List Nat),qbz n++l=qbz m++l'→n=m∧l=l':=by
 intro n
 induction n using Nat.strongRecOn with
 | ind n ih =>
  intro m l l' h
  by_cases hn:127 < n
  ·by_cases hm:127 < m
   ·rw[qbH hn,qbH hm] at h
    simp only[List.cons_append,List.cons.injEq] at h
    obtain⟨h1,h2⟩:=h
    obtain⟨h3,h4⟩:=ih _ (by omega) _ _ _ h2
    exact⟨by omega,h4⟩
   ·rw[qbH hn,qaZ hm] at h
    simp only[List.cons_append,List.cons.injEq,List.nil_append] at h
    omega
  ·by_cases hm:127 < m
   ·rw[qaZ hn,qbH hm] at h
    simp only[List.cons_append,List.cons.injEq,List.nil_append] at h
    omega
   ·rw[qaZ hn,qaZ hm] at h
    simp only[List.cons_append,List.cons.injEq,List.nil_append] at h
    exact h
theorem qfP:∀{t u:Tm'} {l l':List Nat},t.ok→u.ok→qbK t++l=qbK u++l'→t=u∧l=l'
 | .atom n,.atom m,l,l',h,k,e=>by
  simp only[qbK,List.append_assoc] at e
  obtain⟨_,e⟩:=qcf _ _ _ _ e
  obtain⟨e1,e2⟩:=qcf _ _ _ _ e
  have:=h.1;have:=k.1
  exact⟨congrArg _ (by omega),e2⟩
 | .atom n,.un c t,l,l',h,k,e=>by
  simp only[qbK,List.append_assoc] at e
  obtain⟨e1,_⟩:=qcf _ _ _ _ e
  have:=k.1;omega
 | .atom n,.bin c t u,l,l',h,k,e=>by
  simp only[qbK,List.append_assoc] at e
  obtain⟨e1,_⟩:=qcf _ _ _ _ e
  have:=k.1;omega
 | .un c t,.atom n,l,l',h,k,e=>by
  simp only[qbK,List.append_assoc] at e
  obtain⟨e1,_⟩:=qcf _ _ _ _ e
  have:=h.1;omega
 | .bin c t u,.atom n,l,l',h,k,e=>by
  simp only[qbK,List.append_assoc] at e
  obtain⟨e1,_⟩:=qcf _ _ _ _ e
  have:=h.1;omega
 | .un c t,.un d u,l,l',h,k,e=>by
  simp only[qbK,List.append_assoc] at e
  obtain⟨e1,e⟩:=qcf _ _ _ _ e
  obtain⟨e2,e3⟩:=qfP h.2 k.2 e
  have:=h.1;have:=k.1
  obtain rfl:c=d:=by omega
  exact⟨by rw[e2],e3⟩
 | .un c t,.bin d u v,l,l',h,k,e=>by
  simp only[qbK,List.append_assoc] at e
  obtain⟨e1,_⟩:=qcf _ _ _ _ e
  have:=h.1;have:=k.1;omega
 | .bin d u v,.un c t,l,l',h,k,e=>by
  simp only[qbK,List.append_assoc] at e
  obtain⟨e1,_⟩:=qcf _ _ _ _ e
  have:=h.1;have:=k.1;omega
 | .bin c t u,.bin d v w,l,l',h,k,e=>by
  simp only[qbK,List.append_assoc] at e
  obtain⟨e1,e⟩:=qcf _ _ _ _ e
  obtain⟨e2,e3⟩:=qfP h.2.1 k.2.1 e
  obtain⟨e4,e5⟩:=qfP h.2.2 k.2.2 e3
  have:=h.1;have:=k.1
  obtain rfl:c=d:=by omega
  exact⟨by rw[e2,e4],e5⟩
theorem qgY:∀{l m:List Nat},(∀x∈l,x < 256)→(∀x∈m,x < 256)→l.map UInt8.ofNat=m.map UInt8.ofNat→l=m
 | [],[],_,_,_=>rfl
 | [],_ :: _,_,_,h=>by simp at h
 | _ :: _,[],_,_,h=>by simp at h
 | a :: l,b :: m,h1,h2,h=>by
  simp only[List.map_cons,List.cons.injEq] at h
  obtain⟨e1,e2⟩:=h
  have ha:=h1 a (by simp);have hb:=h2 b (by simp)
  have e:(UInt8.ofNat a).toNat=(UInt8.ofNat b).toNat:=by rw[e1]
  simp only[UInt8.toNat_ofNat'] at e
  rw[qgY (fun x hx=>h1 x (by simp[hx])) (fun x hx=>h2 x (by simp[hx])) e2]
  congr 1;omega
def txtGt (t u:Tm'):Bool:=!(Op.bytesLess (qbS (txt t)).toList (qbS (txt u)).toList||(qbS (txt t)).toList==(qbS (txt u)).toList)
theorem txt_lt (t:Tm'):∀x∈txt t,x < 256:=by
 intro x hx
 unfold txt at hx
 split at hx
 ·exact qgh t x hx
 ·cases hx
theorem txt_atom {n:Int} {t:Tm'} (h:0≤n∧n≤999999) (ht:t.ok) (e:((qbS (txt (.atom n))).toList==(qbS (txt t)).toList)=true):t=.atom n:=by
 have e:=beq_iff_eq.1 e
 rw[qgE,qgE] at e
 have e:=qgY (txt_lt _) (txt_lt _) e
 unfold txt at e
 rw[if_pos (by simp[qbC])] at e
 split at e
 ·exact(qfP (t:=.atom n) (l:=[]) (l':=[]) h ht (by simpa using e)).1.symm
 ·simp only[qbK] at e
  rw[qaZ (show ¬127 < 1 by omega)] at e
  cases e
def dhT (s y:Tm'):Tm':=if txtGt s y=true then .bin 7 y s else .bin 7 s y
theorem f_dh {a:Ar} (ha:AOk a) {s p n:Int} {Y:Tm'} (hs:Den a s (.atom n)) (hp:Den a p (.pub Y)) (hl:a.length+1≤3000) :
  ∃a' k,fin trA 3326 [I s,I p] [qag a]=some (0,[I k],[qag a'])∧Ext a a' 1∧Den a' k (dhT (.atom n) Y):=by
 have e1:=qcH ha hp 6
 have e2:fin trA 2510 [I s] [qag a]=some (0,[B true],[]):=by rw[qdC a s ha.le,hs.nodeOk ha]
 obtain⟨q,hq,i,rfl,hnd,d⟩:=den_un ha hp
 have e3:=qbp ha hs
 have e4:=qbp ha d
 have g0:(0:Int)≤(q:Int):=by omega
 have g1:(q:Int) < (a.length:Int):=by omega
 have hk:(Tm'.pub Y).kind=6:=rfl
 have bv1:∀x y:ByteArray,qbm .gtr (.string x) (.string y)=.bool (!(Op.bytesLess x.toList y.toList||x.toList==y.toList)):=fun _ _=>rfl
 have bv2:∀x y:ByteArray,qbm .eql (.string x) (.string y)=.bool (x.toList==y.toList):=fun _ _=>rfl
 unfold dhT
 cases hg:txtGt (.atom n) Y with
 | true =>
  obtain⟨x1,d1⟩:=put_bin (c:=7) ha (by omega) d hs (by omega)
  have e5:=f_put a 7 0 i s ha.le
  refine⟨_,_,qaa trA ?_,x1,d1⟩
  show o277.go _ _ _=_
  unfold txtGt at hg
  simp only[o277,TT,Nat.reduceEqDiff,↓reduceIte,e1,hk,e2,encA_len,Int.toNat_natCast,qal a q hq,hnd,Nd.enc,g0,g1,e3,e4,bv1,hg,e5]
 | false =>
  obtain⟨x1,d1⟩:=put_bin (c:=7) ha (by omega) hs d (by omega)
  have e5:=f_put a 7 0 s i ha.le
  rw[if_neg (by simp)]
  refine⟨_,_,qaa trA ?_,x1,d1⟩
  show o277.go _ _ _=_
  unfold txtGt at hg
  cases he:((qbS (txt (.atom n))).toList==(qbS (txt Y)).toList) with
  | false =>
   rw[he] at hg
   simp only[o277,TT,Nat.reduceEqDiff,↓reduceIte,e1,hk,e2,encA_len,Int.toNat_natCast,qal a q hq,hnd,Nd.enc,g0,g1,e3,e4,bv1,bv2,he,hg,e5]
  | true =>
   rw[he] at hg
   obtain rfl:=txt_atom (hs.ok ha) (d.ok ha) he
   obtain rfl:i=s:=d.inj ha hs
   have g2:¬i < i:=by omega
   simp only[o277,TT,Nat.reduceEqDiff,↓reduceIte,e1,hk,e2,encA_len,Int.toNat_natCast,qal a q hq,hnd,Nd.enc,g0,g1,e3,e4,bv1,bv2,he,hg,e5,g2]
def qdp (mode x y:Int) (s p both:Tm'):Tm':=handT (dhT s p) (if mode=2 then pskT x y else .atom 0) both
theorem f_hand0 {a:Ar} (ha:AOk a) {s p n b mode x y:Int} {Y B':Tm'} (hs:Den a s (.atom n)) (hp:Den a p (.pub Y)) (hb:Den a b B') (hx:0≤x∧x≤9) (hy:0≤y∧y≤9) (hl:a.length+5≤3000) :
  ∃a' k,fin trA 3194 [I s,I p,I mode,I x,I y,I b] [qag a]=some (0,[I k],[qag a'])∧Ext a a' 5∧Den a' k (qdp mode x y (.atom n) Y B'):=by
 obtain⟨a1,k1,e1,x1,d1⟩:=f_dh ha hs hp (by omega)
 have l1:=x1.len
 unfold qdp
 by_cases hm:mode=2
 ·obtain⟨a2,k2,e2,x2,d2⟩:=f_psk x1.ok hx.1 hx.2 hy.1 hy.2 (by omega)
  have l2:=x2.len
  obtain⟨a3,k3,e3,x3,d3⟩:=f_hand x2.ok (d1.mono x2.pre) d2 ((hb.mono x1.pre).mono x2.pre) (by omega)
  rw[if_pos hm]
  refine⟨a3,k3,qaa trA ?_,(x1.trans (x2.trans x3)).le (by omega),d3⟩
  show o266.go _ _ _=_
  simp only[o266,TT,Nat.reduceEqDiff,↓reduceIte,e1,hm,e2,e3]
 ·obtain⟨a2,k2,e2,x2,d2⟩:=qat (n:=0) x1.ok (by omega) (by omega) (by omega)
  have l2:=x2.len
  obtain⟨a3,k3,e3,x3,d3⟩:=f_hand x2.ok (d1.mono x2.pre) d2 ((hb.mono x1.pre).mono x2.pre) (by omega)
  rw[if_neg hm]
  refine⟨a3,k3,qaa trA ?_,(x1.trans (x2.trans x3)).le (by omega),d3⟩
  show o266.go _ _ _=_
  simp only[o266,TT,Nat.reduceEqDiff,↓reduceIte,e1,hm,e2,e3]
def partT (side:Int) (hand:Tm') (mode name:Int) (said:Tm'):Tm' :=
 .seal_ (hand.key side) (.list (if mode=1 then [certT name,.sign (longT name) (wordsT side said),doneT hand side said] else [.atom 0,.atom 0,doneT hand side said]))
theorem f_part {a:Ar} (ha:AOk a) {side h mode name d:Int} {H D:Tm'} (hh:Den a h H) (hd:Den a d D) (h0:0≤side) (h1:side≤2) (h2:0≤name) (h3:name≤9) (hl:a.length+28≤3000) :
  ∃a' k,fin trA 3206 [I side,I h,I mode,I name,I d] [qag a]=some (0,[I k],[qag a'])∧Ext a a' 28∧Den a' k (partT side H mode name D):=by
 obtain⟨a1,k1,e1,x1,d1⟩:=qeK ha hh h0 (by omega) (by omega)
 have l1:=x1.len
 unfold partT
 by_cases hm:mode=1
 ·obtain⟨a2,k2,e2,x2,d2⟩:=f_cert x1.ok h2 h3 (by omega)
  have l2:=x2.len
  obtain⟨a3,k3,e3,x3,d3⟩:=f_long x2.ok h2 h3 (by omega)
  have l3:=x3.len
  have p3:=x1.pre.trans (x2.pre.trans x3.pre)
  obtain⟨a4,k4,e4,x4,d4⟩:=f_words x3.ok (hd.mono p3) h0 (by omega) (by omega)
  have l4:=x4.len
  obtain⟨a5,k5,e5,x5,d5⟩:=qbk (c:=8) x4.ok (by omega) (d3.mono x4.pre) d4 (by omega)
  have l5:=x5.len
  have p5:=p3.trans (x4.pre.trans x5.pre)
  obtain⟨a6,k6,e6,x6,d6⟩:=f_done x5.ok (hh.mono p5) (hd.mono p5) h0 (by omega) (by omega)
  have l6:=x6.len
  have q6:=x3.pre.trans (x4.pre.trans (x5.pre.trans x6.pre))
  obtain⟨a7,k7,e7,x7,d7⟩:=qcc x6.ok (.cons (d2.mono q6) (.cons (d5.mono x6.pre) (.cons d6 .nil))) (by simp) (by simp;omega)
  have l7:=x7.len
  simp only[List.length_cons,List.length_nil] at l7
  obtain⟨a8,k8,e8,x8,d8⟩:=qbk (c:=5) x7.ok (by omega) (d1.mono (x2.pre.trans (q6.trans x7.pre))) d7 (by omega)
  rw[if_pos hm]
  refine⟨a8,k8,qaa trA ?_,(x1.trans (x2.trans (x3.trans (x4.trans (x5.trans (x6.trans (x7.trans x8))))))).le (by simp),d8⟩
  show o267.go _ _ _=_
  simp only[qak,List.map_cons,List.map_nil] at e7
  simp only[o267,TT,Nat.reduceEqDiff,↓reduceIte,e1,hm,e2,e3,e4,e5,e6,e7,e8]
 ·obtain⟨a2,k2,e2,x2,d2⟩:=qat (n:=0) x1.ok (by omega) (by omega) (by omega)
  have l2:=x2.len
  have p2:=x1.pre.trans x2.pre
  obtain⟨a6,k6,e6,x6,d6⟩:=f_done x2.ok (hh.mono p2) (hd.mono p2) h0 (by omega) (by omega)
  have l6:=x6.len
  obtain⟨a7,k7,e7,x7,d7⟩:=qcc x6.ok (.cons (d2.mono x6.pre) (.cons (d2.mono x6.pre) (.cons d6 .nil))) (by simp) (by simp;omega)
  have l7:=x7.len
  simp only[List.length_cons,List.length_nil] at l7
  obtain⟨a8,k8,e8,x8,d8⟩:=qbk (c:=5) x7.ok (by omega) (d1.mono (x2.pre.trans (x6.pre.trans x7.pre))) d7 (by omega)
  rw[if_neg hm]
  refine⟨a8,k8,qaa trA ?_,(x1.trans (x2.trans (x6.trans (x7.trans x8)))).le (by simp),d8⟩
  show o267.go _ _ _=_
  simp only[qak,List.map_cons,List.map_nil] at e7
  simp only[o267,TT,Nat.reduceEqDiff,↓reduceIte,e1,hm,e2,e6,e7,e8]
theorem qhn {a b:Nat} (ha:a < 2 ^ 62) (hb:b < 2 ^ 62):qbm .and (.int .i64 a) (.int .i64 b)=.int .i64 ((a &&& b:Nat):Int):=by
 have h:a &&& b≤a:=Nat.and_le_left
 show Value.int .i64 (IntKind.i64.wrap ((BitVec.ofInt 64 a &&& BitVec.ofInt 64 b).toNat:Int))=_
 rw[BitVec.ofInt_natCast,BitVec.ofInt_natCast,BitVec.toNat_and,BitVec.toNat_ofNat,BitVec.toNat_ofNat,Nat.mod_eq_of_lt (by omega),Nat.mod_eq_of_lt (by omega)]
 exact congrArg _ (qaj (by omega) (by omega))
theorem bv_or_nat {a b:Nat} (ha:a < 2 ^ 62) (hb:b < 2 ^ 62):qbm .or (.int .i64 a) (.int .i64 b)=.int .i64 ((a ||| b:Nat):Int):=by
 have h:a ||| b < 2 ^ 62:=Nat.or_lt_two_pow ha hb
 show Value.int .i64 (IntKind.i64.wrap ((BitVec.ofInt 64 a ||| BitVec.ofInt 64 b).toNat:Int))=_
 rw[BitVec.ofInt_natCast,BitVec.ofInt_natCast,BitVec.toNat_or,BitVec.toNat_ofNat,BitVec.toNat_ofNat,Nat.mod_eq_of_lt (by omega),Nat.mod_eq_of_lt (by omega)]
 exact congrArg _ (qaj (by omega) (by omega))
theorem qhh {a n:Nat} (j:IntKind) (hn:n≤64) (h:a*2 ^ n < 2 ^ 62):qbm .shl (.int .i64 a) (.int j n)=.int .i64 ((a*2 ^ n:Nat):Int):=by
 show Value.int .i64 (IntKind.i64.wrap ((a:Int)*2 ^ (min (n:Int).toNat 64)))=_
 rw[Int.toNat_natCast,Nat.min_eq_left hn,show((a:Int)*2 ^ n)=((a*2 ^ n:Nat):Int) by push_cast;rfl]
 exact congrArg _ (qaj (by omega) (by omega))
theorem bv_shr_nat {a n:Nat} (j:IntKind) (hn:n≤64):qbm .shr (.int .i64 a) (.int j n)=.int .i64 ((a / 2 ^ n:Nat):Int):=by
 show Value.int .i64 ((a:Int).fdiv (2 ^ (min (n:Int).toNat 64)))=_
 rw[Int.toNat_natCast,Nat.min_eq_left hn,show((2:Int) ^ n)=((2 ^ n:Nat):Int) by push_cast;rfl]
 exact congrArg _ (by rw[Int.fdiv_eq_ediv_of_nonneg _ (Int.natCast_nonneg _)];rfl)
theorem qfU {n:Nat} (h:n < 2 ^ 62):cvV .u64 (.int .i64 n)=.int .u64 n:=by
 show Value.int .u64 (IntKind.u64.wrap n)=_
 refine congrArg _ ?_
 rw[IntKind.wrap_u64];omega
def WR (top seen:Int) (S:Nat→Prop):Prop :=
 (top=-1∧seen=0∧∀s,¬S s)∨∃t m:Nat,top=t∧seen=m∧t≤9999∧m < 65536∧m < 2 ^ (t+1)∧m % 2=1∧∀s,S s↔s≤t∧(16≤t - s∨m.testBit (t - s)=true)
theorem qdN {n:Nat} (j:IntKind) (hn:n≤61):qbm .shl (.int .i64 1) (.int j n)=.int .i64 ((2 ^ n:Nat):Int):=by
 have:=qhh (a:=1) j (show n≤64 by omega) (by rw[Nat.one_mul];exact Nat.pow_lt_pow_right (by omega) (by omega))
 rw[Nat.one_mul] at this
 exact this
theorem f_winOk {top seen:Int} {S:Nat→Prop} (h:WR top seen S):fin trA 2522 [I top,I seen] []=some (0,[B true],[]):=by
 refine qaa trA ?_
 show o210.go _ _ _=_
 rcases h with ⟨rfl,rfl,_⟩ | ⟨t,m,rfl,rfl,h1,h2,h3,h4,_⟩
 ·simp only[o210,TS,Nat.reduceEqDiff,↓reduceIte,f_in,show inB (-1) (-1) 9999=true from rfl,show inB 0 0 65535=true from rfl,Bool.not_true,Bool.false_eq_true]
  simp
 ·have g1:inB (t:Int) (-1) 9999=true:=by simp[inB];omega
  have g2:inB (m:Int) 0 65535=true:=by simp[inB];omega
  have g3:¬(t:Int) < 0:=by omega
  have g4:((m:Int).tmod 2=1):=by rw[Int.tmod_eq_emod_of_nonneg (by omega)];omega
  have e:wr ((t:Int)+1)=((t+1:Nat):Int):=by rw[qaj (by omega) (by omega)];omega
  simp only[o210,TS,Nat.reduceEqDiff,↓reduceIte,f_in,g1,g2,g3,g4,e,qfU (show t+1 < 2 ^ 62 by omega),Bool.not_true,Bool.false_eq_true]
  by_cases g5:(15:Int)≤t
  ·simp[g5]
  ·rw[qdN _ (by omega)]
   have g6:(m:Int) < ((2 ^ (t+1):Nat):Int):=by omega
   simp only[TS,Nat.reduceEqDiff,↓reduceIte,g5,g6]
   rw[if_pos (by omega)]
theorem bit_and_one (m b:Nat):(m / 2 ^ b &&& 1=0)↔m.testBit b=false:=by
 rw[Nat.and_one_is_mod,Nat.testBit_eq_decide_div_mod_eq]
 simp
theorem f_fresh {top seen:Int} {S:Nat→Prop} (h:WR top seen S) {s:Nat} (hs:s≤9999):∃b,fin trA 3422 [I top,I seen,I s] []=some (0,[B b],[])∧(b=true↔¬S s):=by
 have hok:=f_winOk h
 have g0:inB (s:Int) 0 9999=true:=by simp[inB];omega
 rcases h with ⟨rfl,rfl,hS⟩ | ⟨t,m,rfl,rfl,h1,h2,h3,h4,hS⟩
 ·refine⟨true,qaa trA ?_,by simp[hS]⟩
  show o285.go _ _ _=_
  simp only[o285,TS,Nat.reduceEqDiff,↓reduceIte,hok,f_in,g0,Bool.not_true,Bool.false_eq_true]
  rw[if_pos (by omega)]
 ·by_cases g1:(t:Int) < s
  ·refine⟨true,qaa trA ?_,by rw[hS];simp;omega⟩
   show o285.go _ _ _=_
   simp only[o285,TS,Nat.reduceEqDiff,↓reduceIte,hok,f_in,g0,g1,Bool.not_true,Bool.false_eq_true]
  ·have e:wr ((t:Int) - s)=((t - s:Nat):Int):=by rw[qaj (by omega) (by omega)];omega
   by_cases g2:t - s < 16
   ·have g3:((t - s:Nat):Int) < 16:=by omega
    have g4:(0:Int)≤((t - s:Nat):Int):=by omega
    have hx:(m / 2 ^ (t - s)) < 2 ^ 62:=Nat.lt_of_le_of_lt (Nat.div_le_self _ _) (by omega)
    have e2:qbm .and (.int .i64 ((m / 2 ^ (t - s):Nat):Int)) (.int .i64 1)=.int .i64 ((m / 2 ^ (t - s) &&& 1:Nat):Int):=qhn (b:=1) hx (by omega)
    refine⟨decide (((m / 2 ^ (t - s) &&& 1:Nat):Int)=0),qaa trA ?_,?_⟩
    ·show o285.go _ _ _=_
     simp only[o285,TS,Nat.reduceEqDiff,↓reduceIte,hok,f_in,g0,g1,e,g3,qfU (show t - s < 2 ^ 62 by omega),bv_shr_nat _ (show t - s≤64 by omega),e2,g4,Bool.not_true,Bool.false_eq_true]
    ·rw[hS,decide_eq_true_eq,show(((m / 2 ^ (t - s) &&& 1:Nat):Int)=0)↔(m / 2 ^ (t - s) &&& 1=0) by omega,bit_and_one]
     constructor
     ·rintro h ⟨_,h | h'⟩
      ·omega
      ·rw[h] at h';cases h'
     ·intro h
      cases hb:m.testBit (t - s)
      ·rfl
      ·exact absurd ⟨by omega,.inr hb⟩ h
   ·refine⟨false,qaa trA ?_,by rw[hS];simp;omega⟩
    have g3:¬((t - s:Nat):Int) < 16:=by omega
    show o285.go _ _ _=_
    simp only[o285,TS,Nat.reduceEqDiff,↓reduceIte,hok,f_in,g0,g1,e,g3,Bool.not_true,Bool.false_eq_true]
theorem qhp {top seen:Int} {S:Nat→Prop} (h:WR top seen S) {s:Nat} (hs:s≤9999) (hS:S s):fin trA 3386 [I top,I seen,I s] []=some (0,[I top,I seen,B false],[]):=by
 obtain⟨b,e1,hb⟩:=f_fresh h hs
 have:b=false:=by cases b;rfl;exact absurd hS (hb.1 rfl)
 subst this
 refine qaa trA ?_
 show o282.go _ _ _=_
 simp only[o282,TS,Nat.reduceEqDiff,↓reduceIte,e1,Bool.not_false]
structure Noted (top:Int) (S:Nat→Prop) (s:Nat) (top' seen':Int) (S':Nat→Prop):Prop where
 ok:WR top' seen' S'
 top:top'=max top s
 new:S' s
 old:∀r,S r→S' r
theorem noted_set {t m s:Nat} (h1:t≤9999) (h2:m < 65536) (h3:m < 2 ^ (t+1)) (h4:m % 2=1) (hst:s≤t) (hb:t - s < 16) {S:Nat→Prop} (hS:∀r,S r↔r≤t∧(16≤t - r∨m.testBit (t - r)=true)) :
  Noted t S s t ((m ||| 2 ^ (t - s):Nat):Int) (fun r=>r≤t∧(16≤t - r∨(m ||| 2 ^ (t - s)).testBit (t - r)=true)):=by
 refine⟨.inr ⟨t,_,rfl,rfl,h1,?_,?_,?_,fun r=>Iff.rfl⟩,by omega,⟨hst,.inr ?_⟩,fun r hr=>?_⟩
 ·exact Nat.or_lt_two_pow (n:=16) h2 (Nat.pow_lt_pow_right (by omega) (by omega))
 ·exact Nat.or_lt_two_pow h3 (Nat.pow_lt_pow_right (by omega) (by omega))
 ·have:(m ||| 2 ^ (t - s)).testBit 0=true:=by rw[Nat.testBit_or,Nat.testBit_zero,h4];simp
  rw[Nat.testBit_zero] at this
  simpa using this
 ·rw[Nat.testBit_or,Nat.testBit_two_pow_self];simp
 ·obtain⟨a,b⟩:=(hS r).1 hr
  refine⟨a,b.imp id fun b=>?_⟩
  rw[Nat.testBit_or,b];rfl
theorem noted_on {t m s:Nat} (h2:m < 65536) (hst:t < s) (hs:s≤9999) (hb:s - t < 16) {S:Nat→Prop} (hS:∀r,S r↔r≤t∧(16≤t - r∨m.testBit (t - r)=true)) (hm:m < 2 ^ (t+1)) :
  Noted t S s s (((m*2 ^ (s - t) &&& 65535) ||| 1:Nat):Int) (fun r=>r≤s∧(16≤s - r∨((m*2 ^ (s - t) &&& 65535) ||| 1).testBit (s - r)=true)):=by
 have hx:m*2 ^ (s - t) &&& 65535≤65535:=Nat.and_le_right
 have hy:m*2 ^ (s - t) &&& 65535≤m*2 ^ (s - t):=Nat.and_le_left
 have hz:m*2 ^ (s - t) < 2 ^ (s+1):=by
  have:m*2 ^ (s - t) < 2 ^ (t+1)*2 ^ (s - t):=Nat.mul_lt_mul_of_pos_right hm (Nat.two_pow_pos _)
  rwa [←Nat.pow_add,show t+1+(s - t)=s+1 by omega] at this
 refine⟨.inr ⟨s,_,rfl,rfl,hs,?_,?_,?_,fun r=>Iff.rfl⟩,by omega,⟨by omega,.inr ?_⟩,fun r hr=>?_⟩
 ·exact Nat.or_lt_two_pow (n:=16) (by omega) (by omega)
 ·exact Nat.or_lt_two_pow (by omega) (Nat.one_lt_two_pow (by omega))
 ·have:((m*2 ^ (s - t) &&& 65535) ||| 1).testBit 0=true:=by rw[Nat.testBit_or];simp
  rw[Nat.testBit_zero] at this
  simp
 ·rw[Nat.sub_self,Nat.testBit_or];simp
 ·obtain⟨a,b⟩:=(hS r).1 hr
  refine⟨by omega,?_⟩
  by_cases g:16≤s - r
  ·exact .inl g
  ·right
   rcases b with b | b
   ·omega
   ·rw[Nat.testBit_or,Nat.testBit_and,←Nat.shiftLeft_eq,Nat.testBit_shiftLeft,show s - r - (s - t)=t - r by omega,b,show(65535:Nat)=2 ^ 16 - 1 by rfl,Nat.testBit_two_pow_sub_one]
    simp;omega
theorem noted_far {t s:Nat} (hst:t < s) (hs:s≤9999) (hb:16≤s - t) {S:Nat→Prop} (hS:∀r,S r→r≤t) :
  Noted t S s s 1 (fun r=>r≤s∧(16≤s - r∨(1:Nat).testBit (s - r)=true)):=by
 refine⟨.inr ⟨s,1,rfl,rfl,hs,by omega,Nat.one_lt_two_pow (by omega),rfl,fun r=>Iff.rfl⟩,by omega,⟨by omega,.inr (by simp)⟩,fun r hr=>?_⟩
 have:=hS r hr
 exact⟨by omega,.inl (by omega)⟩
theorem noted_first {s:Nat} (hs:s≤9999) {S:Nat→Prop} (hS:∀r,¬S r) :
  Noted (-1) S s s 1 (fun r=>r≤s∧(16≤s - r∨(1:Nat).testBit (s - r)=true)):=by
 refine⟨.inr ⟨s,1,rfl,rfl,hs,by omega,Nat.one_lt_two_pow (by omega),rfl,fun r=>Iff.rfl⟩,by omega,⟨by omega,.inr (by simp)⟩,fun r hr=>absurd hr (hS r)⟩
theorem qej {top seen:Int} {S:Nat→Prop} (h:WR top seen S) {s:Nat} (hs:s≤9999) (hS:¬S s):∃t' m' S',fin trA 3386 [I top,I seen,I s] []=some (0,[I t',I m',B true],[])∧Noted top S s t' m' S':=by
 obtain⟨b,e1,hb⟩:=f_fresh h hs
 have:b=true:=hb.2 hS
 subst this
 rcases h with ⟨rfl,rfl,h⟩ | ⟨t,m,rfl,rfl,h1,h2,h3,h4,hSS⟩
 ·refine⟨_,_,_,qaa trA ?_,noted_first hs h⟩
  show o282.go _ _ _=_
  simp only[o282,TS,Nat.reduceEqDiff,↓reduceIte,e1,Bool.not_true,Bool.false_eq_true]
  rw[if_neg (by omega),if_neg (by omega)]
 ·by_cases g:(s:Int)≤t
  ·have hb:t - s < 16:=by
    apply Classical.byContradiction
    intro hn
    exact hS ((hSS s).2 ⟨by omega,.inl (by omega)⟩)
   refine⟨_,_,_,qaa trA ?_,noted_set h1 h2 h3 h4 (by omega) hb hSS⟩
   have e:wr ((t:Int) - s)=((t - s:Nat):Int):=by rw[qaj (by omega) (by omega)];omega
   have q:2 ^ (t - s) < 2 ^ 62:=Nat.pow_lt_pow_right (by omega) (by omega)
   show o282.go _ _ _=_
   simp only[o282,TS,Nat.reduceEqDiff,↓reduceIte,e1,g,e,qfU (show t - s < 2 ^ 62 by omega),qdN _ (show t - s≤61 by omega),bv_or_nat (show m < 2 ^ 62 by omega) q,Bool.not_true,Bool.false_eq_true]
   rw[if_pos (by omega)]
  ·have g':(0:Int)≤(t:Int):=by omega
   have e:wr ((s:Int) - t)=((s - t:Nat):Int):=by rw[qaj (by omega) (by omega)];omega
   by_cases hb:s - t < 16
   ·refine⟨_,_,_,qaa trA ?_,noted_on h2 (by omega) hs hb hSS h3⟩
    have g2:((s - t:Nat):Int) < 16:=by omega
    have q:2 ^ (s - t)≤2 ^ 15:=Nat.pow_le_pow_right (by omega) (by omega)
    have q2:m*2 ^ (s - t) < 2 ^ 62:=Nat.lt_of_le_of_lt (Nat.mul_le_mul (show m≤65536 by omega) q) (by omega)
    have q3:m*2 ^ (s - t) &&& 65535 < 2 ^ 62:=Nat.lt_of_le_of_lt Nat.and_le_left q2
    have e2:qbm .and (.int .i64 ((m*2 ^ (s - t):Nat):Int)) (.int .i64 65535)=.int .i64 ((m*2 ^ (s - t) &&& 65535:Nat):Int):=qhn (b:=65535) q2 (by omega)
    have e3:qbm .or (.int .i64 ((m*2 ^ (s - t) &&& 65535:Nat):Int)) (.int .i64 1)=.int .i64 ((m*2 ^ (s - t) &&& 65535 ||| 1:Nat):Int):=bv_or_nat (b:=1) q3 (by omega)
    show o282.go _ _ _=_
    simp only[o282,TS,Nat.reduceEqDiff,↓reduceIte,e1,g,g',e,g2,qfU (show s - t < 2 ^ 62 by omega),qhh _ (show s - t≤64 by omega) q2,e2,e3,Bool.not_true,Bool.false_eq_true]
    rw[if_pos (by omega)]
   ·refine⟨_,_,_,qaa trA ?_,noted_far (t:=t) (by omega) hs (by omega) (fun r hr=>((hSS r).1 hr).1)⟩
    have g2:¬((s - t:Nat):Int) < 16:=by omega
    show o282.go _ _ _=_
    simp only[o282,TS,Nat.reduceEqDiff,↓reduceIte,e1,g,g',e,g2,Bool.not_true,Bool.false_eq_true]
structure Ch where
 app:Int
 side:Int
 ep:Nat
 seq:Nat
 heard:Nat
 nt:Int
 ns:Int
 lt:Int
 ls:Int
def Ch.v (c:Ch):List Value:=[I c.app,I c.side,I c.ep,I c.seq,I c.heard,I c.nt,I c.ns,I c.lt,I c.ls]
structure CR (a:Ar) (c:Ch) (t:Tm') (SN SL:Nat→Prop):Prop where
 app:Den a c.app t
 side:c.side=1∨c.side=2
 ep:c.ep≤8
 seq:c.seq≤9999
 heard:c.heard≤8
 now:WR c.nt c.ns SN
 last:WR c.lt c.ls SL
section
variable {a a':Ar} {c:Ch} {t:Tm'} {SN SL:Nat→Prop}
theorem CR.mono (h:CR a c t SN SL) (x:a <+: a'):CR a' c t SN SL:={ h with app:=h.app.mono x }
theorem f_chanOk (ha:AOk a) (h:CR a c t SN SL):fin trA 1958 c.v [qag a]=some (0,[B true],[]):=by
 refine qaa trA ?_
 show o163.go _ _ _=_
 have g1:inB c.side 1 2=true:=by have:=h.side;simp[inB];omega
 have g2:inB (c.ep:Int) 0 8=true:=by have:=h.ep;simp[inB];omega
 have g3:inB (c.heard:Int) 0 8=true:=by have:=h.heard;simp[inB];omega
 have g4:inB (c.seq:Int) 0 10000=true:=by have:=h.seq;simp[inB];omega
 simp only[Ch.v,o163,TT,Nat.reduceEqDiff,↓reduceIte,qdC _ _ ha.le,h.app.nodeOk ha,f_in,g1,g2,g3,g4,f_winOk h.now,f_winOk h.last]
theorem f_say {body:Int} {u:Tm'} (ha:AOk a) (h:CR a c t SN SL) (hb:Den a body u) (hl:a.length+40≤3000) :
  ∃a' k,fin trA 2666 (c.v++[I body]) [qag a]=some (0,({ c with seq:=c.seq+1 }:Ch).v++[I k],[qag a'])∧Ext a a' 29∧Den a' k (((t.turn c.ep).key c.side).record c.ep c.seq u):=by
 have hep:=h.ep;have hsd:=h.side;have hsq:=h.seq
 obtain⟨a1,k1,e1,x1,d1⟩:=f_epoch hep ha h.app (by omega)
 have l1:=x1.len
 obtain⟨a2,k2,e2,x2,d2⟩:=qeK (n:=c.side) x1.ok d1 (by omega) (by omega) (by omega)
 have l2:=x2.len
 obtain⟨a3,k3,e3,x3,d3⟩:=f_record (e:=c.ep) (s:=c.seq) x2.ok d2 ((hb.mono x1.pre).mono x2.pre) (by omega) (by omega) (by omega)
 refine⟨a3,k3,qaa trA ?_,((x1.trans x2).trans x3).le (by omega),d3⟩
 show o222.go _ _ _=_
 have e0:=f_chanOk ha h
 have e4:wr ((c.seq:Int)+1)=((c.seq+1:Nat):Int):=by rw[qaj (by omega) (by omega)];omega
 have hk3:¬k3 < 0:=by have:=d3.nonneg;omega
 simp only[Ch.v] at e0
 simp only[Ch.v,o222,TT,Nat.reduceEqDiff,↓reduceIte,e0,e1,e2,e3,e4,hk3,Bool.not_true,Bool.false_eq_true]
theorem f_winNew:fin trA 3230 [] []=some (0,[],[]):=by
 refine qaa trA ?_
 show o269.go _ _ _=_
 simp only[o269,TT,Nat.reduceEqDiff,↓reduceIte]
theorem f_chanNew (x s:Int):fin trA 3062 [I x,I s] []=some (0,(⟨x,s,0,0,0,-1,0,-1,0⟩:Ch).v,[]):=by
 refine qaa trA ?_
 show o255.go _ _ _=_
 simp only[o255,TT,Nat.reduceEqDiff,↓reduceIte,f_winNew,Ch.v]
 rfl
theorem f_turn_no (h:c.heard < c.ep) (he:c.ep≤8):fin trA 2414 c.v []=some (0,c.v++[B false],[]):=by
 refine qaa trA ?_
 show o201.go _ _ _=_
 simp only[Ch.v,o201,TT,Nat.reduceEqDiff,↓reduceIte,f_in]
 have g:(c.heard:Int) < (c.ep:Int):=by omega
 cases inB (c.ep:Int) 0 7<;>simp[g]
theorem f_turn_yes (h:c.ep≤c.heard) (he:c.ep≤7):fin trA 2414 c.v []=some (0,({ c with ep:=c.ep+1,seq:=0 }:Ch).v++[B true],[]):=by
 refine qaa trA ?_
 show o201.go _ _ _=_
 have g:¬(c.heard:Int) < (c.ep:Int):=by omega
 have g1:inB (c.ep:Int) 0 7=true:=by simp[inB];omega
 have e4:wr ((c.ep:Int)+1)=((c.ep+1:Nat):Int):=by rw[qaj (by omega) (by omega)];omega
 simp only[Ch.v,o201,TT,Nat.reduceEqDiff,↓reduceIte,f_in,g1,g,e4,Bool.not_true,Bool.false_eq_true]
 rfl
def Held (c:Ch) (SN SL:Nat→Prop) (e s:Nat):Prop:=(e=c.heard∧SN s)∨(e+1=c.heard∧SL s)∨e+1 < c.heard
structure Heard (c:Ch) (SN SL:Nat→Prop) (e s:Nat) (c':Ch) (SN' SL':Nat→Prop):Prop where
 app:c'.app=c.app
 side:c'.side=c.side
 ep:c'.ep=c.ep
 seq:c'.seq=c.seq
 heard:c'.heard=max c.heard e
 now:WR c'.nt c'.ns SN'
 last:WR c'.lt c'.ls SL'
 new:Held c' SN' SL' e s
 old:∀e' s',Held c SN SL e' s'→Held c' SN' SL' e' s'
 top:∀(E:Nat) (b:Int),(c.heard=E→c.nt < b)→(e=E→(s:Int) < b)→c'.heard=E→c'.nt < b
theorem Heard.cr {e s:Nat} {c':Ch} {SN' SL':Nat→Prop} (h:CR a c t SN SL) (k:Heard c SN SL e s c' SN' SL') (he:e≤8):CR a c' t SN' SL' :=
 ⟨by rw[k.app];exact h.app,by rw[k.side];exact h.side,by rw[k.ep];exact h.ep,by rw[k.seq];exact h.seq,by rw[k.heard];have:=h.heard;omega,k.now,k.last⟩
theorem WR_new:WR (-1) 0 (fun _=>False):=.inl ⟨rfl,rfl,fun _ h=>h⟩
theorem WR.top {top seen:Int} {S:Nat→Prop} (h:WR top seen S) {s:Nat} (hs:S s):(s:Int)≤top:=by
 rcases h with ⟨rfl,rfl,h⟩ | ⟨t,m,rfl,rfl,h1,h2,h3,h4,hSS⟩
 ·exact absurd hs (h s)
 ·have:=((hSS s).1 hs).1;omega
theorem heard_now {s:Nat} {t' m':Int} {S':Nat→Prop} (h:CR a c t SN SL) (k:Noted c.nt SN s t' m' S'):Heard c SN SL c.heard s { c with nt:=t',ns:=m' } S' SL :=
 ⟨rfl,rfl,rfl,rfl,by simp,k.ok,h.last,.inl ⟨rfl,k.new⟩,fun e' s' h'=>by
  rcases h' with ⟨h1,h2⟩ | h' | h'
  ·exact .inl ⟨h1,k.old _ h2⟩
  ·exact .inr (.inl h')
  ·exact .inr (.inr h'),fun E b h1 h2 h3=>by have:=k.top;have:=h1 h3;have:=h2 h3;show t' < b;omega⟩
theorem heard_last {e s:Nat} {t' m':Int} {S':Nat→Prop} (h:CR a c t SN SL) (he:e+1=c.heard) (k:Noted c.lt SL s t' m' S'):Heard c SN SL e s { c with lt:=t',ls:=m' } SN S' :=
 ⟨rfl,rfl,rfl,rfl,by show c.heard=_;omega,h.now,k.ok,.inr (.inl ⟨he,k.new⟩),fun e' s' h'=>by
  rcases h' with h' | ⟨h1,h2⟩ | h'
  ·exact .inl h'
  ·exact .inr (.inl ⟨h1,k.old _ h2⟩)
  ·exact .inr (.inr h'),fun E b h1 h2 h3=>h1 h3⟩
theorem heard_next {s:Nat} {t' m':Int} {S':Nat→Prop} (h:CR a c t SN SL) (k:Noted (-1) (fun _=>False) s t' m' S'):Heard c SN SL (c.heard+1) s { c with heard:=c.heard+1,nt:=t',ns:=m',lt:=c.nt,ls:=c.ns } S' SN :=
 ⟨rfl,rfl,rfl,rfl,by show c.heard+1=_;omega,k.ok,h.now,.inl ⟨rfl,k.new⟩,fun e' s' h'=>by
  rcases h' with ⟨h1,h2⟩ | ⟨h1,h2⟩ | h'
  ·exact .inr (.inl ⟨by show e'+1=c.heard+1;omega,h2⟩)
  ·exact .inr (.inr (by show e'+1 < c.heard+1;omega))
  ·exact .inr (.inr (by show e'+1 < c.heard+1;omega)),fun E b h1 h2 h3=>by have:=k.top;have:=h2 h3;show t' < b;omega⟩
theorem f_note {e s:Nat} (h:CR a c t SN SL) (hs:s≤9999) (he:e≤c.heard+1) (he':c.heard≤e+1) :
  (Held c SN SL e s∧∃c':Ch,fin trA 3254 (c.v++[I e,I s]) []=some (0,c'.v++[B false],[])) ∨
  (¬Held c SN SL e s∧∃c' SN' SL',fin trA 3254 (c.v++[I e,I s]) []=some (0,c'.v++[B true],[])∧Heard c SN SL e s c' SN' SL'):=by
 have hh:=h.heard
 have e4:wr ((c.heard:Int)+1)=((c.heard+1:Nat):Int):=by rw[qaj (by omega) (by omega)];omega
 by_cases g1:e=c.heard
 ·subst g1
  by_cases k:SN s
  ·refine .inl ⟨.inl ⟨rfl,k⟩,c,qaa trA ?_⟩
   show o271.go _ _ _=_
   have e1:=qhp h.now hs k
   simp only[Ch.v,o271,TT,Nat.reduceEqDiff,↓reduceIte,e1]
  ·refine .inr ⟨?_,?_⟩
   ·rintro (⟨_,h'⟩ | ⟨h',_⟩ | h')
    ·exact k h'
    ·omega
    ·omega
   obtain⟨t',m',S',e1,k1⟩:=qej h.now hs k
   refine⟨_,_,_,qaa trA ?_,heard_now h k1⟩
   show o271.go _ _ _=_
   simp only[Ch.v,o271,TT,Nat.reduceEqDiff,↓reduceIte,e1]
 ·have g1':¬(e:Int)=(c.heard:Int):=by omega
  by_cases g2:e=c.heard+1
  ·subst g2
   refine .inr ⟨?_,?_⟩
   ·rintro (⟨h',_⟩ | ⟨h',_⟩ | h')<;>omega
   obtain⟨t',m',S',e1,k1⟩:=qej WR_new hs id
   refine⟨_,_,_,qaa trA ?_,heard_next h k1⟩
   show o271.go _ _ _=_
   simp only[Ch.v,o271,TT,Nat.reduceEqDiff,↓reduceIte,g1',e4,f_winNew,e1]
  ·have g2':¬(e:Int)=((c.heard+1:Nat):Int):=by omega
   have g3:e+1=c.heard:=by omega
   by_cases k:SL s
   ·refine .inl ⟨.inr (.inl ⟨g3,k⟩),c,qaa trA ?_⟩
    show o271.go _ _ _=_
    have e1:=qhp h.last hs k
    simp only[Ch.v,o271,TT,Nat.reduceEqDiff,↓reduceIte,g1',e4,g2',e1]
   ·refine .inr ⟨?_,?_⟩
    ·rintro (⟨h',_⟩ | ⟨_,h'⟩ | h')
     ·omega
     ·exact k h'
     ·omega
    obtain⟨t',m',S',e1,k1⟩:=qej h.last hs k
    refine⟨_,_,_,qaa trA ?_,heard_last h g3 k1⟩
    show o271.go _ _ _=_
    simp only[Ch.v,o271,TT,Nat.reduceEqDiff,↓reduceIte,g1',e4,g2',e1]
theorem headR_le {T:Tm'} {e s:Int} (h:qdq T=some (e,s)):(0≤e∧e≤8)∧0≤s∧s≤9999:=by
 unfold qdq at h
 split at h
 ·split at h
  ·rename_i hc
   obtain⟨_,_,c3,c4⟩:=hc
   cases h
   simp only[inB,Bool.and_eq_true,decide_eq_true_eq] at c3 c4
   exact⟨c3,c4⟩
  ·cases h
 ·cases h
theorem openRec_sub {key T u:Tm'} {k:Int} (ha:AOk a) (hk:Den a k T) (h:qbw key T=some u):∃j,Den a j u:=by
 unfold qbw at h
 split at h
 ·rename_i p0
  rcases qch ha hk with ⟨_,_,_,_,_,z,p1,_,_,_,d⟩ | ⟨p1,_⟩
  ·rw[p1] at p0
   cases p0
   split at h
   ·rename_i q0
    split at h
    ·cases h
     obtain⟨b,hb,hp⟩:=Option.bind_eq_some_iff.1 q0
     obtain⟨o1,_⟩:=f_open (a:=a) ha (x:=z) (k:=z) (key:=_) d d
     unfold qdg at hb
     split at hb
     ·split at hb
      ·cases hb
       obtain⟨p,hp',i,jj,hz,_,_,d'⟩:=qdc ha d
       rcases qch ha d' with ⟨_,_,_,_,_,z',p2,_,_,_,d''⟩ | ⟨p2,_⟩
       ·rw[p2] at hp
        cases hp
        exact⟨z',d''⟩
       ·rw[p2] at hp;cases hp
      ·cases hb
     ·cases hb
    ·cases h
   ·cases h
  ·rw[p1] at p0;cases p0
 ·cases h
theorem f_hear {k:Int} {T:Tm'} (ha:AOk a) (h:CR a c t SN SL) (hk:Den a k T) (hl:a.length+40≤3000) :
  (∃(e s:Nat) (u:Tm') (c':Ch) (SN' SL':Nat→Prop) (body:Int),qdq T=some ((e:Int),(s:Int))∧(e≤8∧s≤9999)∧qbw ((t.turn e).key (3 - c.side)) T=some u∧¬Held c SN SL e s∧Heard c SN SL e s c' SN' SL'∧Den a body u∧fin trA 3074 (c.v++[I k]) [qag a]=some (0,c'.v++[I body,I 0],[qag a])) ∨
  ∃code,fin trA 3074 (c.v++[I k]) [qag a]=some (0,c.v++[I (-1),I code],[qag a])∧code≠0:=by
 have hh:=h.heard;have hsd:=h.side
 have e0:=f_chanOk ha h
 obtain⟨eh1,eh2⟩:=f_head ha hk
 simp only[Ch.v,TT,Nat.reduceEqDiff,↓reduceIte] at e0
 cases hd:qdq T with
 | none =>
  have e1:=eh2 hd
  refine .inr ⟨1,qaa trA ?_,by omega⟩
  show o256.go _ _ _=_
  simp only[Ch.v,o256,TT,Nat.reduceEqDiff,↓reduceIte,e0,e1]
 | some es =>
  obtain⟨e',s'⟩:=es
  obtain⟨⟨b1,b2⟩,b3,b4⟩:=headR_le hd
  obtain⟨e,rfl⟩:=Int.eq_ofNat_of_zero_le b1
  obtain⟨s,rfl⟩:=Int.eq_ofNat_of_zero_le b3
  have he:e≤8:=by omega
  have hs:s≤9999:=by omega
  have e1:=eh1 _ _ hd
  have q1:wr ((c.heard:Int) - 1)=(c.heard:Int) - 1:=qaj (by omega) (by omega)
  have q2:wr ((c.heard:Int)+1)=(c.heard:Int)+1:=qaj (by omega) (by omega)
  have q3:wr (3 - c.side)=3 - c.side:=qaj (by omega) (by omega)
  cases g:inB (e:Int) ((c.heard:Int) - 1) ((c.heard:Int)+1) with
  | false =>
   refine .inr ⟨2,qaa trA ?_,by omega⟩
   show o256.go _ _ _=_
   simp only[Ch.v,o256,TT,Nat.reduceEqDiff,↓reduceIte,e0,e1,f_in,q1,q2,g]
  | true =>
   obtain⟨a1,k1,e2,x1,d1⟩:=f_epoch he ha h.app (by omega)
   have l1:=x1.len
   obtain⟨a2,k2,e3,x2,d2⟩:=qeK (n:=3 - c.side) x1.ok d1 (by omega) (by omega) (by omega)
   have l2:=x2.len
   have p2:=x1.pre.trans x2.pre
   obtain⟨o1,o2⟩:=f_openRec x2.ok d2 (hk.mono p2)
   have e5:=qgn p2 x2.ok
   have g':inB (e:Int) ((c.heard:Int) - 1) ((c.heard:Int)+1)=true:=g
   simp[inB] at g
   cases ho:qbw ((t.turn e).key (3 - c.side)) T with
   | none =>
    have e4:=o2 ho
    refine .inr ⟨3,qaa trA ?_,by omega⟩
    show o256.go _ _ _=_
    simp only[Ch.v,o256,TT,Nat.reduceEqDiff,↓reduceIte,e0,e1,f_in,q1,q2,q3,g',e2,e3,e4,e5,encA_len]
   | some u =>
    obtain⟨j,e4,d4⟩:=o1 u ho
    obtain⟨j',d5⟩:=openRec_sub ha hk ho
    obtain rfl:j=j':=d4.inj x2.ok (d5.mono p2)
    rcases f_note h hs (show e≤c.heard+1 by omega) (by omega) with ⟨hh,c',e6⟩ | ⟨hh,c',SN',SL',e6,k6⟩
    ·refine .inr ⟨4,qaa trA ?_,by omega⟩
     show o256.go _ _ _=_
     simp only[Ch.v,TT,Nat.reduceEqDiff,↓reduceIte] at e6
     simp only[Ch.v,o256,TT,Nat.reduceEqDiff,↓reduceIte,e0,e1,f_in,q1,q2,q3,g',e2,e3,e4,e5,e6,encA_len]
    ·refine .inl ⟨e,s,u,c',SN',SL',j,rfl,⟨he,hs⟩,ho,hh,k6,d5,qaa trA ?_⟩
     show o256.go _ _ _=_
     simp only[Ch.v,TT,Nat.reduceEqDiff,↓reduceIte] at e6
     simp only[Ch.v,o256,TT,Nat.reduceEqDiff,↓reduceIte,e0,e1,f_in,q1,q2,q3,g',e2,e3,e4,e5,e6,encA_len]
end
theorem f_newer {a:Ar} (ha:AOk a) (c:Ch) {k:Int} {T:Tm'} (hk:Den a k T):∃b,fin trA 3146 (c.v++[I k]) [qag a]=some (0,[B b],[]):=by
 obtain⟨eh1,eh2⟩:=f_head ha hk
 cases hd:qdq T with
 | none =>
  have e1:=eh2 hd
  refine⟨false,qaa trA ?_⟩
  show o262.go _ _ _=_
  simp only[Ch.v,o262,TT,Nat.reduceEqDiff,↓reduceIte,e1]
 | some es =>
  have e1:=eh1 es.1 es.2 hd
  by_cases g1:(c.heard:Int) < es.1
  ·refine⟨true,qaa trA ?_⟩
   show o262.go _ _ _=_
   simp only[Ch.v,o262,TT,Nat.reduceEqDiff,↓reduceIte,e1,g1]
  ·by_cases g2:es.1=(c.heard:Int)
   ·refine⟨decide (c.nt < es.2),qaa trA ?_⟩
    show o262.go _ _ _=_
    simp only[Ch.v,o262,TT,Nat.reduceEqDiff,↓reduceIte,e1,g1,g2,Int.lt_irrefl]
   ·refine⟨false,qaa trA ?_⟩
    show o262.go _ _ _=_
    simp only[Ch.v,o262,TT,Nat.reduceEqDiff,↓reduceIte,e1,g1,g2]
structure Cl where
 name:Int
 gate:Int
 mode:Int
 state:Int
 draw:Int
 cookie:Bool
 hello:Int
 said:Int
 hand:Int
 last:Int
 lease:Int
 ch:Ch
 due:Int
 wait:Int
 tries:Int
def Cl.v (c:Cl):List Value:=[I c.name,I c.gate,I c.mode,I c.state,I c.draw,B c.cookie,I c.hello,I c.said,I c.hand,I c.last,I c.lease,I c.ch.app,I c.ch.side,I c.ch.ep,I c.ch.seq,I c.ch.heard,I c.ch.nt,I c.ch.ns,I c.ch.lt,I c.ch.ls,I c.due,I c.wait,I c.tries]
def Ch.zero:Ch:=⟨0,0,0,0,0,0,0,0,0⟩
def qbT (mode name draw:Int):Tm':=qdt mode name (.atom (draw+1)) (.pub (.atom draw))
theorem f_start {a:Ar} (ha:AOk a) {c:Cl} {draw now:Int} (hst:c.state=0∨c.state=4) (hm:0≤c.mode∧c.mode≤900000) (hn:0≤c.name∧c.name≤900000) (hd:1000≤draw∧draw≤900000) (hw:0≤now∧now≤99999) (hl:a.length+18≤3000) :
  ∃a' h t,fin trA 1742 (c.v++[I draw,I now]) [qag a]=some (0,(⟨c.name,c.gate,c.mode,1,draw,false,h,0,0,t,0,Ch.zero,now+1,1,0⟩:Cl).v++[I t],[qag a'])∧Ext a a' 18∧Den a' h (qbT c.mode c.name draw)∧Den a' t (qav 71 [qbT c.mode c.name draw,.atom 0]):=by
 have w1:wr (draw+1)=draw+1:=qaj (by omega) (by omega)
 have w2:wr (now+1)=now+1:=qaj (by omega) (by omega)
 have b1:inB draw 1000 900000=true:=by simp[inB];omega
 have b2:inB now 0 99999=true:=by simp[inB];omega
 obtain⟨a1,k1,e1,x1,d1⟩:=qat (n:=draw+1) ha (by omega) (by omega) (by omega)
 have l1:=x1.len
 obtain⟨a2,k2,e2,x2,d2⟩:=qat (n:=draw) x1.ok (by omega) (by omega) (by omega)
 have l2:=x2.len
 obtain⟨a3,k3,e3,x3,d3⟩:=qbM (c:=6) (y:=0) x2.ok (by omega) d2 (by omega) (by omega)
 have l3:=x3.len
 obtain⟨a4,k4,e4,x4,d4⟩:=qgt (m:=c.mode) (n:=c.name) x3.ok (d1.mono (x2.pre.trans x3.pre)) d3 hm.1 hm.2 hn.1 hn.2 (by omega)
 have l4:=x4.len
 obtain⟨a5,k5,e5,x5,d5⟩:=qat (n:=0) x4.ok (by omega) (by omega) (by omega)
 have l5:=x5.len
 obtain⟨a6,k6,e6,x6,d6⟩:=qbt (n:=71) x5.ok (d4.mono x5.pre) d5 (by omega) (by omega) (by omega)
 have hk6:¬k6 < 0:=by have:=d6.nonneg;omega
 have e7:fin trA 986 [I c.name,I c.gate,I c.mode] []=some (0,[I c.name,I c.gate,I c.mode,I 0,I 0,B false,I 0,I 0,I 0,I 0,I 0,I 0,I 0,I 0,I 0,I 0,I 0,I 0,I 0,I 0,I 0,I 0,I 0],[]):=by
  refine qaa trA ?_
  show o82.go _ _ _=_
  simp only[o82,TT,Nat.reduceEqDiff,↓reduceIte]
 refine⟨a6,k4,k6,qaa trA ?_,(x1.trans (x2.trans (x3.trans (x4.trans (x5.trans x6))))).le (by omega),d4.mono (x5.pre.trans x6.pre),d6⟩
 show o145.go _ _ _=_
 rcases hst with hst | hst
 ·simp only[Cl.v,Ch.zero,o145,TT,Nat.reduceEqDiff,↓reduceIte,hst,f_in,w1,w2,b1,b2,e1,e2,e3,e4,e5,e6,e7,hk6,ne_eq,not_true_eq_false]
  rfl
 ·simp only[Cl.v,Ch.zero,o145,TT,Nat.reduceEqDiff,↓reduceIte,hst,f_in,w1,w2,b1,b2,e1,e2,e3,e4,e5,e6,e7,hk6,ne_eq,not_true_eq_false,show ¬(4:Int)=0 by omega,not_false_eq_true]
  rfl
theorem f_start_no {a:Ar} {c:Cl} {draw now:Int} (h0:c.state≠0) (h4:c.state≠4):fin trA 1742 (c.v++[I draw,I now]) [qag a]=some (0,c.v++[I (-1)],[qag a]):=by
 refine qaa trA ?_
 show o145.go _ _ _=_
 simp only[Cl.v,o145,TT,Nat.reduceEqDiff,↓reduceIte,h0,h4,ne_eq,not_false_eq_true]
theorem serverR_kind {t c p:Tm'} (h:qdj t=some (c,p)):c.nonce=true∧p.kind=6:=by
 unfold qdj at h
 split at h
 ·split at h
  ·rename_i hc;cases h;exact hc.2
  ·cases h
 ·cases h
theorem f_said (c:Cl) (t now:Int) (hw:0≤now∧now≤99999):fin trA 3026 (c.v++[I t,I now]) []=some (0,({ c with last:=t,due:=now+1,wait:=1,tries:=0 }:Cl).v,[]):=by
 have w2:wr (now+1)=now+1:=qaj (by omega) (by omega)
 refine qaa trA ?_
 show o252.go _ _ _=_
 simp only[Cl.v,o252,TT,Nat.reduceEqDiff,↓reduceIte,w2]
theorem f_cserver {a:Ar} (ha:AOk a) {c:Cl} {x y z now:Int} {W P Hl:Tm'} (hy:Den a y W) (hz:Den a z P) (hh:Den a c.hello Hl) (hm:c.mode=1∨c.mode=2) (hn:0≤c.name∧c.name≤9) (hg:0≤c.gate∧c.gate≤9) (hd:0≤c.draw∧c.draw≤999999) (hw:0≤now∧now≤99999) (hl:a.length+60≤3000) :
  (∃nonce Y,qdj W=some (nonce,.pub Y)∧qeU 2 (qdp c.mode c.name c.gate (.atom c.draw) Y (.pair Hl W)) c.mode c.gate (.pair Hl W) P=true ∧
   ∃a' hand said t,fin trA 3038 (c.v++[I 1,I 2,I now]) [qag a,[[I x],[I y],[I z]]]=some (0,({ c with state:=2,last:=t,due:=now+1,wait:=1,tries:=0,hand:=hand,said:=said }:Cl).v++[I t,B true],[qag a'])∧Ext a a' 60 ∧
    Den a' hand (qdp c.mode c.name c.gate (.atom c.draw) Y (.pair Hl W)) ∧
    Den a' said (.pair (.pair (.pair Hl W) P) (partT 1 (qdp c.mode c.name c.gate (.atom c.draw) Y (.pair Hl W)) c.mode c.name (.pair (.pair Hl W) P))) ∧
    Den a' t (qav 74 [partT 1 (qdp c.mode c.name c.gate (.atom c.draw) Y (.pair Hl W)) c.mode c.name (.pair (.pair Hl W) P)])) ∨
  ∃a',fin trA 3038 (c.v++[I 1,I 2,I now]) [qag a,[[I x],[I y],[I z]]]=some (0,c.v++[I (-1),B false],[qag a'])∧Ext a a' 60:=by
 obtain⟨s1,s2⟩:=f_serverIn ha hy
 have v0:wr (1+0)=1:=by rw[qaj (by omega) (by omega)];rfl
 have v1:wr (1+1)=2:=by rw[qaj (by omega) (by omega)];rfl
 cases hs:qdj W with
 | none =>
  have e1:=s2 hs
  refine .inr ⟨a,qaa trA ?_,(Ext.refl ha).le (by omega)⟩
  show o253.go _ _ _=_
  simp only[Cl.v,o253,TT,Nat.reduceEqDiff,↓reduceIte,v0,TN,Nat.reduceAdd,Int.reduceLT,Int.reduceLE,Int.reduceToNat,Int.reduceToNat,e1]
 | some np =>
  obtain⟨nonce,p⟩:=np
  obtain⟨i,j,e1,d1,d2⟩:=s1 nonce p hs
  obtain⟨Y,rfl⟩:=kind_un d2 (serverR_kind hs).2 (.inr rfl)
  obtain⟨a1,k1,e2,x1,g1⟩:=qbk (c:=2) ha (by omega) hh hy (by omega)
  have l1:=x1.len
  obtain⟨a2,k2,e3,x2,g2⟩:=qat (n:=c.draw) x1.ok hd.1 hd.2 (by omega)
  have l2:=x2.len
  have p2:=x1.pre.trans x2.pre
  obtain⟨a3,k3,e4,x3,g3⟩:=f_hand0 (mode:=c.mode) x2.ok g2 (d2.mono p2) (g1.mono x2.pre) hn hg (by omega)
  have l3:=x3.len
  have p3:=p2.trans x3.pre
  have n3:¬k3 < 0:=by have:=g3.nonneg;omega
  have e5:=f_l12Ok (mode:=c.mode) (name:=c.gate) x3.ok g3 (g1.mono (x2.pre.trans x3.pre)) (hz.mono p3) (side:=2) (by omega) (by omega) (by omega)
  cases hp:qeU 2 (qdp c.mode c.name c.gate (.atom c.draw) Y (.pair Hl W)) c.mode c.gate (.pair Hl W) P with
  | false =>
   rw[hp] at e5
   refine .inr ⟨a3,qaa trA ?_,(x1.trans (x2.trans x3)).le (by omega)⟩
   show o253.go _ _ _=_
   simp only[Cl.v,o253,TT,Nat.reduceEqDiff,↓reduceIte,v0,v1,TN,Nat.reduceAdd,Int.reduceLT,Int.reduceLE,Int.reduceToNat,Int.reduceToNat,e1,e2,e3,e4,n3,e5]
  | true =>
   rw[hp] at e5
   obtain⟨a4,k4,e6,x4,g4⟩:=qbk (c:=2) x3.ok (by omega) (g1.mono (x2.pre.trans x3.pre)) (hz.mono p3) (by omega)
   have l4:=x4.len
   obtain⟨a5,k5,e7,x5,g5⟩:=f_part (side:=1) (mode:=c.mode) (name:=c.name) x4.ok (g3.mono x4.pre) g4 (by omega) (by omega) hn.1 hn.2 (by omega)
   have l5:=x5.len
   obtain⟨a6,k6,e8,x6,g6⟩:=qgc (n:=74) x5.ok g5 (by omega) (by omega) (by omega)
   have l6:=x6.len
   obtain⟨a7,k7,e9,x7,g7⟩:=qbk (c:=2) x6.ok (by omega) (g4.mono (x5.pre.trans x6.pre)) (g5.mono x6.pre) (by omega)
   have n6:¬k6 < 0:=by have:=g6.nonneg;omega
   have n7:¬k7 < 0:=by have:=g7.nonneg;omega
   have e10:=f_said c k6 now hw
   simp only[Cl.v,List.cons_append,List.nil_append] at e10
   refine .inl ⟨nonce,Y,rfl,hp,a7,k3,k7,k6,qaa trA ?_,(x1.trans (x2.trans (x3.trans (x4.trans (x5.trans (x6.trans x7)))))).le (by omega),g3.mono (x4.pre.trans (x5.pre.trans (x6.pre.trans x7.pre))),g7,g6.mono x7.pre⟩
   show o253.go _ _ _=_
   simp only[Cl.v,o253,TT,Nat.reduceEqDiff,↓reduceIte,v0,v1,TN,Nat.reduceAdd,Int.reduceLT,Int.reduceLE,Int.reduceToNat,Int.reduceToNat,e1,e2,e3,e4,n3,e5,e6,e7,e8,e9,e10,n6,n7]
theorem many_pos {n:Int} (h:1≤qgR n):n=71∨n=72∨n=73∨n=74∨n=75∨n=76:=by
 unfold qgR at h
 repeat (first | omega | split at h)
theorem qbG {a:Ar} (ha:AOk a) {k:Int} {T:Tm'} (hk:Den a k T) :
  (qaN T=none∧fin trA 2378 [I k] [qag a]=some (0,[],[[]])) ∨
  (∃n u x y,(n=72∨n=74∨n=75)∧qaN T=some (n,[u])∧fin trA 2378 [I k] [qag a]=some (1,[I n,I 1,I 1],[[[I x],[I y]]])∧Den a y u) ∨
  ∃n u v x y z,(n=71∨n=73∨n=76)∧qaN T=some (n,[u,v])∧fin trA 2378 [I k] [qag a]=some (1,[I n,I 1,I 2],[[[I x],[I y],[I z]]])∧Den a y u∧Den a z v:=by
 obtain⟨h1,h2⟩:=f_letterIn ha hk
 cases h:qaN T with
 | none=>exact .inl ⟨rfl,h2 h⟩
 | some np =>
  obtain⟨n,ps⟩:=np
  obtain⟨x,ys,e,d,hl,h1'⟩:=h1 n ps h
  have hm:=many_pos (n:=n) (by omega)
  match ps,d,hl,h1',e,h with
  | [u],d,hl,_,e,h =>
   obtain⟨y,ys,rfl,d1,d⟩:=d.cons'
   obtain rfl:=d.nil'
   refine .inr (.inl ⟨n,u,x,y,?_,rfl,e,d1⟩)
   rcases hm with rfl | rfl | rfl | rfl | rfl | rfl<;>first | omega | (exact absurd hl (by simp[qgR]))
  | [u,v],d,hl,_,e,h =>
   obtain⟨y,ys,rfl,d1,d⟩:=d.cons'
   obtain⟨z,ys,rfl,d2,d⟩:=d.cons'
   obtain rfl:=d.nil'
   refine .inr (.inr ⟨n,u,v,x,y,z,?_,rfl,e,d1,d2⟩)
   rcases hm with rfl | rfl | rfl | rfl | rfl | rfl<;>first | omega | (exact absurd hl (by simp[qgR]))
  | _ :: _ :: _ :: _,d,hl,_,e,h =>
   have:=many_le n
   simp only[List.length_cons] at hl
   omega
structure ClG where
 hello:Tm'
 hand:Tm'
 said:Tm'
 last:Tm'
 app:Tm'
 SN:Nat→Prop
 SL:Nat→Prop
structure ClD (a:Ar) (c:Cl) (g:ClG):Prop where
 name:0≤c.name∧c.name≤9
 gate:0≤c.gate∧c.gate≤9
 mode:c.mode=1∨c.mode=2
 state:c.state=0∨c.state=1∨c.state=2∨c.state=3∨c.state=4
 draw:0≤c.draw∧c.draw≤900000
 hello:c.state=1→Den a c.hello g.hello
 hand:c.state=2∨c.state=3→Den a c.hand g.hand∧Den a c.said g.said
 last:c.state=1∨c.state=2→Den a c.last g.last
 ch:c.state=3→CR a c.ch g.app g.SN g.SL
theorem ClD.mono {a a':Ar} {c:Cl} {g:ClG} (h:ClD a c g) (x:a <+: a'):ClD a' c g :=
 { h with hello:=fun s=>(h.hello s).mono x,hand:=fun s=>⟨(h.hand s).1.mono x,(h.hand s).2.mono x⟩,last:=fun s=>(h.last s).mono x,ch:=fun s=>(h.ch s).mono x }
inductive CH (a:Ar) (c:Cl) (T:Tm') (now:Int) (g:ClG):Ar→Cl→Int→Int→Int→Prop where
 | none:CH a c T now g a c (-1) (-1) 1
 | retry {C:Tm'} {t:Int} {a':Ar} (s:c.state=1) (k:c.cookie=false) (l:qaN T=some (72,[C])) (x:Ext a a' 60) (d:Den a' t (qav 71 [g.hello,C])):CH a c T now g a' { c with last:=t,due:=now+1,wait:=1,tries:=0,cookie:=true } t (-1) 0
 | server {W P nonce Y:Tm'} {hand said t:Int} {a':Ar} (s:c.state=1) (l:qaN T=some (73,[W,P])) (w:qdj W=some (nonce,.pub Y))
   (p:qeU 2 (qdp c.mode c.name c.gate (.atom c.draw) Y (.pair g.hello W)) c.mode c.gate (.pair g.hello W) P=true) (x:Ext a a' 60)
   (d1:Den a' hand (qdp c.mode c.name c.gate (.atom c.draw) Y (.pair g.hello W)))
   (d2:Den a' said (.pair (.pair (.pair g.hello W) P) (partT 1 (qdp c.mode c.name c.gate (.atom c.draw) Y (.pair g.hello W)) c.mode c.name (.pair (.pair g.hello W) P))))
   (d3:Den a' t (qav 74 [partT 1 (qdp c.mode c.name c.gate (.atom c.draw) Y (.pair g.hello W)) c.mode c.name (.pair (.pair g.hello W) P)])) :
   CH a c T now g a' { c with state:=2,last:=t,due:=now+1,wait:=1,tries:=0,hand:=hand,said:=said } t (-1) 0
 | ack {A:Tm'} {lease app:Int} {a':Ar} (s:c.state=2) (l:qaN T=some (75,[A])) (r:ackR g.hand g.said A=(lease,true)) (x:Ext a a' 60) (d:Den a' app (appT g.hand g.said)) :
   CH a c T now g a' { c with state:=3,lease:=lease,ch:=⟨app,1,0,0,0,-1,0,-1,0⟩ } (-1) (-1) 0
 | record {N R u:Tm'} {e s:Nat} {c':Ch} {SN' SL':Nat→Prop} {body:Int} (st:c.state=3) (l:qaN T=some (76,[N,R])) (hd:qdq R=some ((e:Int),(s:Int))) (le:e≤8∧s≤9999) (op:qbw ((g.app.turn e).key (3 - c.ch.side)) R=some u) (new:¬Held c.ch g.SN g.SL e s) (hr:Heard c.ch g.SN g.SL e s c' SN' SL') (d:Den a body u) :
   CH a c T now g a { c with ch:=c' } (-1) body 0
theorem f_heard {a:Ar} (ha:AOk a) {c:Cl} {g:ClG} {k now:Int} {T:Tm'} (hc:ClD a c g) (hk:Den a k T) (hw:0≤now∧now≤99999) (hl:a.length+60≤3000) :
  (∃a',fin trA 2978 (c.v++[I k,I now]) [qag a]=some (0,c.v++[I (-1),I (-1),I 1],[qag a'])∧Ext a a' 60) ∨
  ∃a' c' t body,fin trA 2978 (c.v++[I k,I now]) [qag a]=some (0,c'.v++[I t,I body,I 0],[qag a'])∧CH a c T now g a' c' t body 0:=by
 have b2:inB now 0 99999=true:=by simp[inB];omega
 have v0:wr (1+0)=1:=by rw[qaj (by omega) (by omega)];rfl
 have v1:wr (1+1)=2:=by rw[qaj (by omega) (by omega)];rfl
 have hst:=hc.state
 have x0:Ext a a 60:=(Ext.refl ha).le (by omega)
 rcases qbG ha hk with ⟨hT,e0⟩ | ⟨n,u,x,y,hn,hT,e0,d1⟩ | ⟨n,u,v,x,y,z,hn,hT,e0,d1,d2⟩
 ·refine .inl ⟨a,qaa trA ?_,x0⟩
  show o248.go _ _ _=_
  simp only[Cl.v,o248,qac,TT,Nat.reduceEqDiff,↓reduceIte,e0,f_in,b2]
 ·rcases hn with rfl | rfl | rfl
  ·by_cases g1:c.state=1
   ·cases g2:c.cookie with
    | true =>
     refine .inl ⟨a,qaa trA ?_,x0⟩
     show o248.go _ _ _=_
     simp only[Cl.v,o248,qac,qaG,TT,Nat.reduceEqDiff,↓reduceIte,e0,f_in,b2,g1,g2,Int.reduceEq]
    | false =>
     obtain⟨a1,t,e1,x1,d3⟩:=qbt (n:=71) ha (hc.hello g1) d1 (by omega) (by omega) (by omega)
     have n1:¬t < 0:=by have:=d3.nonneg;omega
     have e10:=f_said c t now hw
     simp only[Cl.v,List.cons_append,List.nil_append,g1,g2] at e10
     refine .inr ⟨a1,_,t,-1,qaa trA ?_,.retry g1 g2 hT (x1.le (by omega)) d3⟩
     show o248.go _ _ _=_
     simp only[Cl.v,o248,qac,qaG,TT,Nat.reduceEqDiff,↓reduceIte,TN,Nat.reduceAdd,Int.reduceLT,Int.reduceLE,Int.reduceToNat,Int.reduceToNat,e0,f_in,b2,v0,g1,g2,e1,n1,e10,Int.reduceEq]
   ·refine .inl ⟨a,qaa trA ?_,x0⟩
    show o248.go _ _ _=_
    simp only[Cl.v,o248,qac,qaG,TT,Nat.reduceEqDiff,↓reduceIte,e0,f_in,b2,g1,Int.reduceEq]
  ·refine .inl ⟨a,qaa trA ?_,x0⟩
   show o248.go _ _ _=_
   simp only[Cl.v,o248,qac,qaG,TT,Nat.reduceEqDiff,↓reduceIte,e0,f_in,b2,Int.reduceEq]
  ·by_cases g1:c.state=2
   ·obtain⟨h1,h2⟩:=hc.hand (.inl g1)
    have e1:=f_ackIn ha h1 h2 d1 (by omega)
    obtain⟨a1,app,e2,x1,d3⟩:=f_app ha h1 h2 (by omega)
    have n1:app ≥ 0:=d3.nonneg
    cases hr:(ackR g.hand g.said u).2 with
    | false =>
     rw[hr] at e1
     refine .inl ⟨a1,qaa trA ?_,x1.le (by omega)⟩
     show o248.go _ _ _=_
     simp only[Cl.v,o248,qac,qaG,TT,Nat.reduceEqDiff,↓reduceIte,TN,Nat.reduceAdd,Int.reduceLT,Int.reduceLE,Int.reduceToNat,Int.reduceToNat,e0,f_in,b2,v0,g1,e1,e2,Int.reduceEq]
    | true =>
     rw[hr] at e1
     have e3:=f_chanNew app 1
     simp only[Ch.v] at e3
     refine .inr ⟨a1,_,-1,-1,qaa trA ?_,.ack (A:=u) (lease:=(ackR g.hand g.said u).1) g1 hT (by rw[←hr]) (x1.le (by omega)) d3⟩
     show o248.go _ _ _=_
     simp only[Cl.v,o248,qac,qaG,TT,Nat.reduceEqDiff,↓reduceIte,TN,Nat.reduceAdd,Int.reduceLT,Int.reduceLE,Int.reduceToNat,Int.reduceToNat,e0,f_in,b2,v0,g1,e1,e2,e3,n1,Int.reduceEq]
   ·refine .inl ⟨a,qaa trA ?_,x0⟩
    show o248.go _ _ _=_
    simp only[Cl.v,o248,qac,qaG,TT,Nat.reduceEqDiff,↓reduceIte,e0,f_in,b2,g1,Int.reduceEq]
 ·rcases hn with rfl | rfl | rfl
  ·refine .inl ⟨a,qaa trA ?_,x0⟩
   show o248.go _ _ _=_
   simp only[Cl.v,o248,qac,qaG,TT,Nat.reduceEqDiff,↓reduceIte,e0,f_in,b2,Int.reduceEq]
  ·by_cases g1:c.state=1
   ·rcases f_cserver ha (x:=x) (now:=now) d1 d2 (hc.hello g1) hc.mode hc.name hc.gate ⟨hc.draw.1,by have:=hc.draw.2;omega⟩ hw hl with ⟨nonce,Y,w,p,a1,hand,said,t,e1,x1,h1,h2,h3⟩ | ⟨a1,e1,x1⟩
    ·simp only[Cl.v,List.cons_append,List.nil_append,g1] at e1
     refine .inr ⟨a1,_,t,-1,qaa trA ?_,.server g1 hT w p x1 h1 h2 h3⟩
     show o248.go _ _ _=_
     simp only[Cl.v,o248,qac,qaG,TT,Nat.reduceEqDiff,↓reduceIte,TN,Nat.reduceAdd,Int.reduceLT,Int.reduceLE,Int.reduceToNat,Int.reduceToNat,e0,f_in,b2,v0,g1,e1,Int.reduceEq]
    ·simp only[Cl.v,List.cons_append,List.nil_append,g1] at e1
     refine .inl ⟨a1,qaa trA ?_,x1⟩
     show o248.go _ _ _=_
     simp only[Cl.v,o248,qac,qaG,TT,Nat.reduceEqDiff,↓reduceIte,TN,Nat.reduceAdd,Int.reduceLT,Int.reduceLE,Int.reduceToNat,Int.reduceToNat,e0,f_in,b2,v0,g1,e1,Int.reduceEq]
   ·refine .inl ⟨a,qaa trA ?_,x0⟩
    show o248.go _ _ _=_
    simp only[Cl.v,o248,qac,qaG,TT,Nat.reduceEqDiff,↓reduceIte,e0,f_in,b2,g1,Int.reduceEq]
  ·by_cases g1:c.state=3
   ·rcases f_hear ha (hc.ch g1) d2 (by omega) with ⟨e,s,w,c',SN',SL',body,q1,q2,q3,q4,q5,q6,e1⟩ | ⟨code,e1,hcode⟩
    ·simp only[Ch.v,List.cons_append,List.nil_append] at e1
     refine .inr ⟨a,_,-1,body,qaa trA ?_,.record g1 hT q1 q2 q3 q4 q5 q6⟩
     show o248.go _ _ _=_
     simp only[Cl.v,o248,qac,qaG,TT,Nat.reduceEqDiff,↓reduceIte,TN,Nat.reduceAdd,Int.reduceLT,Int.reduceLE,Int.reduceToNat,Int.reduceToNat,e0,f_in,b2,v1,g1,e1,Int.reduceEq]
    ·simp only[Ch.v,List.cons_append,List.nil_append] at e1
     refine .inl ⟨a,qaa trA ?_,x0⟩
     show o248.go _ _ _=_
     simp only[Cl.v,o248,qac,qaG,TT,Nat.reduceEqDiff,↓reduceIte,TN,Nat.reduceAdd,Int.reduceLT,Int.reduceLE,Int.reduceToNat,Int.reduceToNat,e0,f_in,b2,v1,g1,e1,hcode,Int.reduceEq]
   ·refine .inl ⟨a,qaa trA ?_,x0⟩
    show o248.go _ _ _=_
    simp only[Cl.v,o248,qac,qaG,TT,Nat.reduceEqDiff,↓reduceIte,e0,f_in,b2,g1,Int.reduceEq]
theorem CH.ext {a a':Ar} {c c':Cl} {T:Tm'} {now t body code:Int} {g:ClG} (ha:AOk a) (h:CH a c T now g a' c' t body code):Ext a a' 60:=by
 cases h with
 | none=>exact(Ext.refl ha).le (by omega)
 | retry _ _ _ x=>exact x
 | server _ _ _ _ x=>exact x
 | ack _ _ _ x=>exact x
 | record=>exact(Ext.refl ha).le (by omega)
theorem f_clHear {a:Ar} (ha:AOk a) {c:Cl} {g:ClG} {k now:Int} {T:Tm'} (hc:ClD a c g) (hk:Den a k T) (hw:0≤now∧now≤99999) (hl:a.length+60≤3000) :
  ∃a' c' t body code,fin trA 2846 (c.v++[I k,I now]) [qag a]=some (0,c'.v++[I t,I body,I code],[qag a'])∧CH a c T now g a' c' t body code:=by
 rcases f_heard ha hc hk hw hl with ⟨a',e1,x1⟩ | ⟨a',c',t,body,e1,h⟩
 ·have e2:=qgn x1.pre x1.ok
  refine⟨a,c,-1,-1,1,qaa trA ?_,.none⟩
  simp only[Cl.v,List.cons_append,List.nil_append] at e1
  show o237.go _ _ _=_
  simp only[Cl.v,o237,TT,Nat.reduceEqDiff,↓reduceIte,e1,encA_len,e2,ne_eq,show ¬(1:Int)=0 by omega,not_false_eq_true]
 ·refine⟨a',c',t,body,0,qaa trA ?_,h⟩
  simp only[Cl.v,List.cons_append,List.nil_append] at e1
  show o237.go _ _ _=_
  simp only[Cl.v,o237,TT,Nat.reduceEqDiff,↓reduceIte,e1,ne_eq,not_true_eq_false]
inductive CTick (c:Cl):Cl→Int→Prop where
 | none:CTick c c (-1)
 | failed (s:c.state=1∨c.state=2):CTick c { c with state:=4 } (-1)
 | again (s:c.state=1∨c.state=2) (d w t:Int):CTick c { c with due:=d,wait:=w,tries:=t } c.last
theorem f_tick (c:Cl) (now:Int):∃c' t,fin trA 1778 (c.v++[I now]) []=some (0,c'.v++[I t],[])∧CTick c c' t:=by
 have bvg:∀a b:Int,qbm .gtr (.int .i64 a) (.int .i64 b)=.bool (decide (b < a)):=fun _ _=>rfl
 by_cases hs:c.state=1∨c.state=2
 ·cases b0:inB now 0 99999 with
  | false =>
   refine⟨c,-1,qaa trA ?_,.none⟩
   show o148.go _ _ _=_
   rcases hs with s | s<;>by_cases g:now < c.due<;>simp only[Cl.v,o148,TT,Nat.reduceEqDiff,↓reduceIte,s,g,f_in,b0,Int.reduceEq,ne_eq,not_true_eq_false,not_false_eq_true]
  | true =>
   cases b1:inB c.wait 1 8 with
   | false =>
    refine⟨c,-1,qaa trA ?_,.none⟩
    show o148.go _ _ _=_
    rcases hs with s | s<;>by_cases g:now < c.due<;>simp only[Cl.v,o148,TT,Nat.reduceEqDiff,↓reduceIte,s,g,f_in,b0,b1,Int.reduceEq,ne_eq,not_true_eq_false,not_false_eq_true]
   | true =>
    by_cases g:now < c.due
    ·refine⟨c,-1,qaa trA ?_,.none⟩
     show o148.go _ _ _=_
     rcases hs with s | s<;>simp only[Cl.v,o148,TT,Nat.reduceEqDiff,↓reduceIte,s,g,f_in,b0,b1,Int.reduceEq,ne_eq,not_true_eq_false,not_false_eq_true]
    ·by_cases g4:4≤c.tries
     ·refine⟨_,_,qaa trA ?_,.failed hs⟩
      show o148.go _ _ _=_
      rcases hs with s | s<;>simp only[Cl.v,o148,TT,Nat.reduceEqDiff,↓reduceIte,s,g,g4,f_in,b0,b1,Int.reduceEq,ne_eq,not_true_eq_false,not_false_eq_true,ge_iff_le]
     ·by_cases g5:c.wait < 4
      ·refine⟨_,_,qaa trA ?_,.again hs (wr (now+wr (2*c.wait))) (wr (2*c.wait)) (wr (c.tries+1))⟩
       show o148.go _ _ _=_
       rcases hs with s | s<;>simp only[Cl.v,o148,TT,Nat.reduceEqDiff,↓reduceIte,s,g,g4,g5,f_in,b0,b1,Int.reduceEq,ne_eq,not_true_eq_false,not_false_eq_true,ge_iff_le]
      ·refine⟨_,_,qaa trA ?_,.again hs (wr (now+8)) 8 (wr (c.tries+1))⟩
       show o148.go _ _ _=_
       rcases hs with s | s<;>simp only[Cl.v,o148,TT,Nat.reduceEqDiff,↓reduceIte,s,g,g4,g5,f_in,b0,b1,Int.reduceEq,ne_eq,not_true_eq_false,not_false_eq_true,ge_iff_le]
 ·have s1:¬c.state=1:=fun h=>hs (.inl h)
  have s2:¬c.state=2:=fun h=>hs (.inr h)
  refine⟨c,-1,qaa trA ?_,.none⟩
  show o148.go _ _ _=_
  simp only[Cl.v,o148,TT,Nat.reduceEqDiff,↓reduceIte,s1,s2,ne_eq,not_false_eq_true]
theorem f_clSay_no {a:Ar} {c:Cl} {cid body:Int} (h:c.state≠3):fin trA 2354 (c.v++[I cid,I body]) [qag a]=some (0,c.v++[I (-1)],[qag a]):=by
 refine qaa trA ?_
 show o196.go _ _ _=_
 simp only[Cl.v,o196,TT,Nat.reduceEqDiff,↓reduceIte,h,ne_eq,not_false_eq_true]
def sayT (c:Ch) (app u:Tm'):Tm':=((app.turn c.ep).key c.side).record c.ep c.seq u
theorem f_clSay {a:Ar} (ha:AOk a) {c:Cl} {g:ClG} (hc:ClD a c g) (h:c.state=3) {cid body:Int} {u:Tm'} (hb:Den a body u) (hi:0≤cid∧cid≤900000) (hl:a.length+50≤3000) :
  ∃a' t,fin trA 2354 (c.v++[I cid,I body]) [qag a]=some (0,({ c with ch:={ c.ch with seq:=c.ch.seq+1 } }:Cl).v++[I t],[qag a'])∧Ext a a' 50∧Den a' t (qav 76 [.atom cid,sayT c.ch g.app u]):=by
 obtain⟨a1,k1,e1,x1,d1⟩:=qat (n:=cid) ha hi.1 (by omega) (by omega)
 have l1:=x1.len
 obtain⟨a2,k2,e2,x2,d2⟩:=f_say x1.ok ((hc.ch h).mono x1.pre) (hb.mono x1.pre) (by omega)
 have l2:=x2.len
 obtain⟨a3,k3,e3,x3,d3⟩:=qbt (n:=76) x2.ok (d1.mono x2.pre) d2 (by omega) (by omega) (by omega)
 have n2:¬k2 < 0:=by have:=d2.nonneg;omega
 have n3:¬k3 < 0:=by have:=d3.nonneg;omega
 refine⟨a3,k3,qaa trA ?_,(x1.trans (x2.trans x3)).le (by omega),d3⟩
 simp only[Ch.v,List.cons_append,List.nil_append] at e2
 show o196.go _ _ _=_
 simp only[Cl.v,o196,TT,Nat.reduceEqDiff,↓reduceIte,h,e1,e2,e3,n2,n3,ne_eq,not_true_eq_false]
theorem ClD.start {a a':Ar} {c:Cl} {g:ClG} (hc:ClD a c g) {draw now h t:Int} {hi hl:Tm'} (hd:1000≤draw∧draw≤900000) (d1:Den a' h hi) (d2:Den a' t hl) :
  ClD a' (⟨c.name,c.gate,c.mode,1,draw,false,h,0,0,t,0,Ch.zero,now+1,1,0⟩:Cl) { g with hello:=hi,last:=hl } where
 name:=hc.name
 gate:=hc.gate
 mode:=hc.mode
 state:=.inr (.inl rfl)
 draw:=⟨by show 0≤draw;omega,hd.2⟩
 hello:=fun _=>d1
 hand:=fun h=>by rcases h with h | h<;>cases h
 last:=fun _=>d2
 ch:=fun h=>by cases h
theorem CTick.ok {a:Ar} {c c':Cl} {t:Int} {g:ClG} (hc:ClD a c g) (h:CTick c c' t):ClD a c' g∧(t=-1∨Den a t g.last):=by
 cases h with
 | none=>exact⟨hc,.inl rfl⟩
 | failed s=>exact⟨{ hc with state:=.inr (.inr (.inr (.inr rfl))),hello:=(fun h=>by cases h),hand:=(fun h=>by rcases h with h | h<;>cases h),last:=(fun h=>by rcases h with h | h<;>cases h),ch:=(fun h=>by cases h) },.inl rfl⟩
 | again s d w t=>exact⟨{ hc with },.inr (hc.last s)⟩
theorem CR_new {a:Ar} {app:Int} {t:Tm'} {side:Int} (h:Den a app t) (hs:side=1∨side=2):CR a ⟨app,side,0,0,0,-1,0,-1,0⟩ t (fun _=>False) (fun _=>False) :=
 ⟨h,hs,Nat.zero_le _,Nat.zero_le _,Nat.zero_le _,WR_new,WR_new⟩
theorem CH.ok {a a':Ar} {c c':Cl} {T:Tm'} {now t body code:Int} {g:ClG} (ha:AOk a) (hc:ClD a c g) (h:CH a c T now g a' c' t body code) :
  ∃g',ClD a' c' g'∧(t=-1∨∃u,Den a' t u)∧(body=-1∨∃u,Den a' body u)∧c'.ch.seq≤c.ch.seq:=by
 have hx:=h.ext ha
 have hm:=hc.mono hx.pre
 cases h with
 | none=>exact⟨g,hc,.inl rfl,.inl rfl,Nat.le_refl _⟩
 | @retry C t a' s k l x d =>
  exact⟨{ g with last:=qav 71 [g.hello,C] },{ hm with last:=fun _=>d },.inr ⟨_,d⟩,.inl rfl,Nat.le_refl _⟩
 | server s l w p x d1 d2 d3 =>
  exact⟨⟨g.hello,_,_,_,g.app,g.SN,g.SL⟩,{ hm with state:=.inr (.inr (.inl rfl)),hello:=(fun h=>by cases h),hand:=fun _=>⟨d1,d2⟩,last:=fun _=>d3,ch:=(fun h=>by cases h) },.inr ⟨_,d3⟩,.inl rfl,Nat.le_refl _⟩
 | ack s l r x d =>
  refine⟨⟨g.hello,g.hand,g.said,g.last,_,fun _=>False,fun _=>False⟩,{ hm with state:=.inr (.inr (.inr (.inl rfl))),hello:=(fun h=>by cases h),hand:=fun _=>hm.hand (.inl s),last:=(fun h=>by rcases h with h | h<;>cases h),ch:=fun _=>CR_new d (.inl rfl) },.inl rfl,.inl rfl,Nat.zero_le _⟩
 | @record N R u e s c' SN' SL' body st l hd le op new hr d =>
  refine⟨{ g with SN:=SN',SL:=SL' },{ hc with hello:=hc.hello,ch:=fun _=>hr.cr (hc.ch st) le.1 },.inl rfl,.inr ⟨_,d⟩,?_⟩
  show c'.seq≤_
  rw[hr.seq];exact Nat.le_refl _
structure Le where
 place:Int
 cid:Int
deriving DecidableEq
def Le.v (e:Le):List Value:=[I e.place,I e.cid]
def qaI (l:List Le):Rw:=l.map Le.v
theorem qai (l:List Le):(qaI l).length=l.length:=List.length_map ..
theorem qap (l:List Le) (i:Nat) (h:i < l.length):(qaI l).getD i []=(l[i]).v:=by
 simp[qaI,List.getD_eq_getElem?_getD,List.getElem?_eq_getElem h]
structure PoolR (l:List Le):Prop where
 place:∀e∈l,10≤e.place∧e.place≤12
 up:l.Pairwise fun x y=>x.place < y.place
 unlike:l.Pairwise fun x y=>x.cid≠y.cid
 few:l.length≤3
section
variable {l:List Le}
theorem qaB {i n:Nat} (h:i≤n) (hn:n≤1000):wr ((i:Int)+1)=((i+1:Nat):Int):=by rw[qaj (by omega) (by omega)];omega
theorem f_poolOk2 (hl:l.length≤3) (z:Bool) (i:Nat) (hi:i < l.length):∀(n k:Nat),k+n=i→(∀(j:Nat) (hj:j < i),l[j].cid≠l[i].cid)→fin trA 1934 [B z,I i,I k] [qaI l]=some (0,[],[])
 | 0,k,hk,hc=>by
  refine qaa trA ?_
  show o161_2.go _ _ _=_
  have g:¬(k:Int) < (i:Int):=by omega
  simp only[o161_2,TT,Nat.reduceEqDiff,↓reduceIte,g]
 | n+1,k,hk,hc=>by
  have ih:=f_poolOk2 hl z i hi n (k+1) (by omega) hc
  refine qaa trA ?_
  show o161_2.go _ _ _=_
  have g:(k:Int) < (i:Int):=by omega
  have g0:(0:Int)≤(k:Int):=by omega
  have g1:(k:Int) < (l.length:Int):=by omega
  have g2:(0:Int)≤(i:Int):=by omega
  have g3:(i:Int) < (l.length:Int):=by omega
  have hne:=hc k (by omega)
  simp only[o161_2,qac,TT,Nat.reduceEqDiff,↓reduceIte,g,g0,g1,g2,g3,qai,Int.toNat_natCast,qap l k (by omega),qap l i hi,Le.v,hne,qaB (i:=k) (n:=3) (by omega) (by omega),ih]
theorem f_poolOk0 (h:PoolR l) (z:Bool):∀(n i:Nat),i+n=l.length→fin trA 1935 [B z,I i] [qaI l]=some (0,[],[])
 | 0,i,hi=>by
  refine qaa trA ?_
  show o161_0.go _ _ _=_
  have g:¬(i:Int) < (l.length:Int):=by omega
  simp only[o161_0,TT,Nat.reduceEqDiff,↓reduceIte,qai,g]
 | n+1,i,hi=>by
  have hl:=h.few
  have ih:=f_poolOk0 h z n (i+1) (by omega)
  have hlt:i < l.length:=by omega
  have e2:=f_poolOk2 hl z i hlt i 0 (by omega) (fun j hj=>List.pairwise_iff_getElem.1 h.unlike j i (by omega) hlt hj)
  rw[show((0:Nat):Int)=0 from rfl] at e2
  have g:(i:Int) < (l.length:Int):=by omega
  have g0:(0:Int)≤(i:Int):=by omega
  obtain⟨p1,p2⟩:=h.place l[i] (List.getElem_mem hlt)
  have b:inB l[i].place 10 12=true:=by simp[inB];omega
  refine qaa trA ?_
  show o161_0.go _ _ _=_
  match i,hi,ih,hlt,e2,g,g0,p1,p2,b with
  | 0,hi,ih,hlt,e2,g,g0,p1,p2,b =>
   rw[show((0:Nat):Int)=0 from rfl] at e2 g g0
   have ih':fin trA 1935 [B z,I 1] [qaI l]=some (0,[],[]):=ih
   simp only[o161_0,qac,TT,Nat.reduceEqDiff,↓reduceIte,qai,Int.ofNat_zero,Int.cast_ofNat_Int,Int.toNat_zero,qap l 0 hlt,Le.v,g,g0,f_in,b,e2,Int.lt_irrefl,show wr (0+1)=1 by rw[qaj (by omega) (by omega)];rfl,ih',Int.le_refl]
  | j+1,hi,ih,hlt,e2,g,g0,p1,p2,b =>
   have hup:=List.pairwise_iff_getElem.1 h.up j (j+1) (by omega) hlt (by omega)
   have w:wr (((j+1:Nat):Int) - 1)=(j:Int):=by rw[qaj (by omega) (by omega)];omega
   have g1:(0:Int) < ((j+1:Nat):Int):=by omega
   have g2:(0:Int)≤(j:Int):=by omega
   have g3:(j:Int) < (l.length:Int):=by omega
   have g4:¬l[j+1].place≤l[j].place:=by omega
   simp only[o161_0,qac,TT,Nat.reduceEqDiff,↓reduceIte,qai,Int.toNat_natCast,qap l (j+1) hlt,qap l j (by omega),Le.v,g,g0,f_in,b,e2,w,g1,g2,g3,g4,ge_iff_le,qaB (i:=j+1) (n:=3) (by omega) (by omega),ih]
theorem f_poolOk (h:PoolR l):fin trA 1936 [] [qaI l]=some (0,[B true],[]):=by
 have e:=f_poolOk0 h false l.length 0 (by omega)
 rw[show((0:Nat):Int)=0 from rfl] at e
 have g:(l.length:Int)≤3:=by have:=h.few;omega
 refine qaa trA ?_
 show o161.go _ _ _=_
 simp only[o161,qac,TT,Nat.reduceEqDiff,↓reduceIte,e,qai,g]
def qaP (cid:Int):List Le→Int
 | []=>0
 | e :: l=>if e.cid=cid then e.place else qaP cid l
def qbR (p:Int):List Le→Int
 | []=>-1
 | e :: l=>if e.place=p then e.cid else qbR p l
theorem qgW (hl:l.length≤100) (cid z:Int):∀(n i:Nat),i+n=l.length→fin trA 206 [I cid,I z,I i] [qaI l]=some (if ∃e∈l.drop i,e.cid=cid then (1,[I (qaP cid (l.drop i))],[]) else (0,[],[]))
 | 0,i,hi=>by
  refine qaa trA ?_
  show o17_0.go _ _ _=_
  have g:¬(i:Int) < (l.length:Int):=by omega
  rw[List.drop_eq_nil_of_le (by omega),if_neg (by simp)]
  simp only[o17_0,TT,Nat.reduceEqDiff,↓reduceIte,qai,g]
 | n+1,i,hi=>by
  have ih:=qgW hl cid z n (i+1) (by omega)
  have hlt:i < l.length:=by omega
  have g:(i:Int) < (l.length:Int):=by omega
  have g0:(0:Int)≤(i:Int):=by omega
  refine qaa trA ?_
  show o17_0.go _ _ _=_
  rw[List.drop_eq_getElem_cons hlt]
  by_cases h1:l[i].cid=cid
  ·rw[if_pos ⟨l[i],List.mem_cons_self ..,h1⟩]
   simp only[o17_0,qac,TT,Nat.reduceEqDiff,↓reduceIte,qai,Int.toNat_natCast,qap l i hlt,Le.v,g,g0,h1,qaP]
  ·by_cases h2:∃e∈l.drop (i+1),e.cid=cid
   ·rw[if_pos h2] at ih
    rw[if_pos (by obtain⟨e,he,hc⟩:=h2;exact⟨e,List.mem_cons_of_mem _ he,hc⟩)]
    simp only[o17_0,qac,TT,Nat.reduceEqDiff,↓reduceIte,qai,Int.toNat_natCast,qap l i hlt,Le.v,g,g0,h1,qaP,qaB (i:=i) (n:=100) (by omega) (by omega),ih]
   ·rw[if_neg h2] at ih
    rw[if_neg (by rintro ⟨e,he,hc⟩;rcases List.mem_cons.1 he with rfl | he;exact h1 hc;exact h2 ⟨e,he,hc⟩)]
    simp only[o17_0,qac,TT,Nat.reduceEqDiff,↓reduceIte,qai,Int.toNat_natCast,qap l i hlt,Le.v,g,g0,h1,qaB (i:=i) (n:=100) (by omega) (by omega),ih]
theorem qdz {cid:Int}:∀{l:List Le},(¬∃e∈l,e.cid=cid)→qaP cid l=0
 | [],_=>rfl
 | e :: l,h=>by
  simp only[qaP]
  rw[if_neg (fun hc=>h ⟨e,by simp,hc⟩)]
  exact qdz (fun ⟨e',he,hc⟩=>h ⟨e',List.mem_cons_of_mem _ he,hc⟩)
theorem f_placeOf (hl:l.length≤100) (cid:Int):fin trA 207 [I cid] [qaI l]=some (0,[I (qaP cid l)],[]):=by
 have e:=qgW hl cid 0 l.length 0 (by omega)
 rw[show((0:Nat):Int)=0 from rfl,List.drop_zero] at e
 refine qaa trA ?_
 show o17.go _ _ _=_
 by_cases h:∃e∈l,e.cid=cid
 ·rw[if_pos h] at e
  simp only[o17,qac,TT,Nat.reduceEqDiff,↓reduceIte,e]
 ·rw[if_neg h] at e
  simp only[o17,qac,TT,Nat.reduceEqDiff,↓reduceIte,e,qdz h]
theorem f_cidOf0 (hl:l.length≤100) (p z:Int):∀(n i:Nat),i+n=l.length→fin trA 302 [I p,I z,I i] [qaI l]=some (if ∃e∈l.drop i,e.place=p then (1,[I (qbR p (l.drop i))],[]) else (0,[],[]))
 | 0,i,hi=>by
  refine qaa trA ?_
  show o25_0.go _ _ _=_
  have g:¬(i:Int) < (l.length:Int):=by omega
  rw[List.drop_eq_nil_of_le (by omega),if_neg (by simp)]
  simp only[o25_0,TT,Nat.reduceEqDiff,↓reduceIte,qai,g]
 | n+1,i,hi=>by
  have ih:=f_cidOf0 hl p z n (i+1) (by omega)
  have hlt:i < l.length:=by omega
  have g:(i:Int) < (l.length:Int):=by omega
  have g0:(0:Int)≤(i:Int):=by omega
  refine qaa trA ?_
  show o25_0.go _ _ _=_
  rw[List.drop_eq_getElem_cons hlt]
  by_cases h1:l[i].place=p
  ·rw[if_pos ⟨l[i],List.mem_cons_self ..,h1⟩]
   simp only[o25_0,qac,TT,Nat.reduceEqDiff,↓reduceIte,qai,Int.toNat_natCast,qap l i hlt,Le.v,g,g0,h1,qbR]
  ·by_cases h2:∃e∈l.drop (i+1),e.place=p
   ·rw[if_pos h2] at ih
    rw[if_pos (by obtain⟨e,he,hc⟩:=h2;exact⟨e,List.mem_cons_of_mem _ he,hc⟩)]
    simp only[o25_0,qac,TT,Nat.reduceEqDiff,↓reduceIte,qai,Int.toNat_natCast,qap l i hlt,Le.v,g,g0,h1,qbR,qaB (i:=i) (n:=100) (by omega) (by omega),ih]
   ·rw[if_neg h2] at ih
    rw[if_neg (by rintro ⟨e,he,hc⟩;rcases List.mem_cons.1 he with rfl | he;exact h1 hc;exact h2 ⟨e,he,hc⟩)]
    simp only[o25_0,qac,TT,Nat.reduceEqDiff,↓reduceIte,qai,Int.toNat_natCast,qap l i hlt,Le.v,g,g0,h1,qaB (i:=i) (n:=100) (by omega) (by omega),ih]
theorem qhr {p:Int}:∀{l:List Le},(¬∃e∈l,e.place=p)→qbR p l=-1
 | [],_=>rfl
 | e :: l,h=>by
  simp only[qbR]
  rw[if_neg (fun hc=>h ⟨e,by simp,hc⟩)]
  exact qhr (fun ⟨e',he,hc⟩=>h ⟨e',List.mem_cons_of_mem _ he,hc⟩)
theorem f_cidOf (hl:l.length≤100) (p:Int):fin trA 303 [I p] [qaI l]=some (0,[I (qbR p l)],[]):=by
 have e:=f_cidOf0 hl p 0 l.length 0 (by omega)
 rw[show((0:Nat):Int)=0 from rfl,List.drop_zero] at e
 refine qaa trA ?_
 show o25.go _ _ _=_
 by_cases h:∃e∈l,e.place=p
 ·rw[if_pos h] at e
  simp only[o25,qac,TT,Nat.reduceEqDiff,↓reduceIte,e]
 ·rw[if_neg h] at e
  simp only[o25,qac,TT,Nat.reduceEqDiff,↓reduceIte,e,qhr h]
end
section
variable {l:List Le}
theorem f_leased0 (hl:l.length≤3) (cid z:Int) (y:Bool) (x:Rw):∀(n i:Nat),i+n=l.length→(¬∃e∈l,e.cid=cid)→fin trA 3302 [I cid,I z,B y,I i] [qaI l,x,qaI l]=some (0,[],[])
 | 0,i,hi,hc=>by
  refine qaa trA ?_
  show o275_0.go _ _ _=_
  have g:¬(i:Int) < (l.length:Int):=by omega
  simp only[o275_0,TT,Nat.reduceEqDiff,↓reduceIte,qai,g]
 | n+1,i,hi,hc=>by
  have ih:=f_leased0 hl cid z y x n (i+1) (by omega) hc
  have hlt:i < l.length:=by omega
  have g:(i:Int) < (l.length:Int):=by omega
  have g0:(0:Int)≤(i:Int):=by omega
  have h1:¬l[i].cid=cid:=fun h=>hc ⟨l[i],List.getElem_mem hlt,h⟩
  refine qaa trA ?_
  show o275_0.go _ _ _=_
  simp only[o275_0,qac,TT,Nat.reduceEqDiff,↓reduceIte,qai,Int.toNat_natCast,qap l i hlt,Le.v,g,g0,h1,qaB (i:=i) (n:=3) (by omega) (by omega),ih]
def atP (p:Int) (l:List Le):List Le:=l.filter fun e=>decide (e.place=p)
theorem qgG (hl:l.length≤3) (cid z w p:Int) (y:Bool) (x x':Rw):∀(n i:Nat) (has:Bool) (out:List Le),i+n=l.length→out.length+n≤100→fin trA 3303 [I cid,I z,B y,I w,I p,B has,I i] [qaI l,x,x',qaI out]=some (0,[B (has||(l.drop i).any fun e=>decide (e.place=p))],[qaI (out++atP p (l.drop i))])
 | 0,i,has,out,hi,ho=>by
  refine qaa trA ?_
  show o275_4.go _ _ _=_
  have g:¬(i:Int) < (l.length:Int):=by omega
  rw[List.drop_eq_nil_of_le (by omega)]
  simp only[o275_4,TT,Nat.reduceEqDiff,↓reduceIte,qai,g,List.any_nil,Bool.or_false,atP,List.filter_nil]
 | n+1,i,has,out,hi,ho=>by
  have hlt:i < l.length:=by omega
  have g:(i:Int) < (l.length:Int):=by omega
  have g0:(0:Int)≤(i:Int):=by omega
  refine qaa trA ?_
  show o275_4.go _ _ _=_
  rw[List.drop_eq_getElem_cons hlt]
  by_cases h1:l[i].place=p
  ·have ih:=qgG hl cid z w p y x x' n (i+1) true (out++[l[i]]) (by omega) (by simp;omega)
   have q:qaI out++[[Value.int .i64 l[i].place,Value.int .i64 l[i].cid]]=qaI (out++[l[i]]):=by simp[qaI,Le.v]
   have g2:((out++[l[i]]).length:Int)≤100000000:=by simp;omega
   have q2:qaI out++[[Value.int .i64 p,Value.int .i64 l[i].cid]]=qaI (out++[l[i]]):=by rw[←q,h1]
   simp only[o275_4,qac,TT,Nat.reduceEqDiff,↓reduceIte,qai,Int.toNat_natCast,qap l i hlt,Le.v,g,g0,h1,q2,g2,qaB (i:=i) (n:=3) (by omega) (by omega),ih,List.any_cons,Bool.true_or,Bool.or_true,atP,List.filter_cons,List.append_assoc]
  ·have ih:=qgG hl cid z w p y x x' n (i+1) has out (by omega) (by omega)
   simp only[o275_4,qac,TT,Nat.reduceEqDiff,↓reduceIte,qai,Int.toNat_natCast,qap l i hlt,Le.v,g,g0,h1,qaB (i:=i) (n:=3) (by omega) (by omega),ih,List.any_cons,Bool.false_or,atP,List.filter_cons]
def leaseStep (cid:Int) (l:List Le) (s:List Le × Int) (p:Int):List Le × Int :=
 if (l.any fun e=>decide (e.place=p))=true then (s.1++atP p l,s.2) else if s.2=0 then (s.1++atP p l++[⟨p,cid⟩],p) else (s.1++atP p l,s.2)
theorem qgP (hl:l.length≤3) (cid z:Int) (y:Bool) (x x':Rw) {p:Int} {s:List Le × Int} (hp:p < 13) (hp':10≤p) (ho:s.1.length≤50) {r:Int} {o:Rw}
  (hn:fin trA 3304 [I cid,I z,B y,I (leaseStep cid l s p).2,I (p+1)] [qaI l,x,x',qaI (leaseStep cid l s p).1]=some (0,[I r],[o])) :
  fin trA 3304 [I cid,I z,B y,I s.2,I p] [qaI l,x,x',qaI s.1]=some (0,[I r],[o]):=by
 have e:=qgG hl cid z s.2 p y x x' l.length 0 false s.1 (by omega) (by omega)
 rw[show((0:Nat):Int)=0 from rfl,List.drop_zero,Bool.false_or] at e
 have w:wr (p+1)=p+1:=qaj (by omega) (by omega)
 refine qaa trA ?_
 show o275_2.go _ _ _=_
 unfold leaseStep at hn
 cases h:(l.any fun e=>decide (e.place=p)) with
 | true =>
  rw[if_pos h] at hn
  simp only[o275_2,TT,Nat.reduceEqDiff,↓reduceIte,hp,e,h,w,hn]
 | false =>
  rw[if_neg (by rw[h];simp)] at hn
  by_cases h0:s.2=0
  ·rw[if_pos h0] at hn
   rw[h0] at e
   have q:qaI (s.1++atP p l)++[[Value.int .i64 p,Value.int .i64 cid]]=qaI (s.1++atP p l++[⟨p,cid⟩]):=by simp[qaI,Le.v]
   have g2:((s.1++atP p l++[(⟨p,cid⟩:Le)]).length:Int)≤100000000:=by
    have:(atP p l).length≤l.length:=List.length_filter_le _ _
    simp only[List.length_append,List.length_cons,List.length_nil];omega
   simp only[o275_2,TT,Nat.reduceEqDiff,↓reduceIte,hp,e,h,h0,w,q,qai,g2,hn]
  ·rw[if_neg h0] at hn
   simp only[o275_2,TT,Nat.reduceEqDiff,↓reduceIte,hp,e,h,h0,w,hn]
theorem qeS (cid:Int) (s:List Le × Int) (p:Int):(leaseStep cid l s p).1.length≤s.1.length+l.length+1:=by
 have:(atP p l).length≤l.length:=List.length_filter_le _ _
 unfold leaseStep
 split
 ·simp;omega
 ·split<;>simp<;>omega
def qan (cid:Int) (l:List Le):List Le × Int:=leaseStep cid l (leaseStep cid l (leaseStep cid l ([],0) 10) 11) 12
theorem f_leased (h:PoolR l) {cid:Int} (hc:¬∃e∈l,e.cid=cid):fin trA 3305 [I cid] [qaI l]=some (if (qan cid l).2=0 then (0,[I 0,B false],[qaI l]) else (0,[I (qan cid l).2,B true],[qaI (qan cid l).1])):=by
 have hl:=h.few
 have e0:=f_leased0 hl cid 0 false [] l.length 0 (by omega) hc
 rw[show((0:Nat):Int)=0 from rfl] at e0
 have e1:=f_poolOk h
 have l1:=qeS (l:=l) cid ([],0) 10
 have l2:=qeS (l:=l) cid (leaseStep cid l ([],0) 10) 11
 simp only[List.length_nil] at l1
 have e2:fin trA 3304 [I cid,I 0,B false,I 0,I 10] [qaI l,[],qaI l,[]]=some (0,[I (qan cid l).2],[qaI (qan cid l).1]):=by
  refine qgP (s:=([],0)) hl cid 0 false [] _ (by omega) (by omega) (by simp) ?_
  rw[show(10+1:Int)=11 from rfl]
  refine qgP hl cid 0 false [] _ (by omega) (by omega) (by omega) ?_
  rw[show(11+1:Int)=12 from rfl]
  refine qgP hl cid 0 false [] _ (by omega) (by omega) (by omega) ?_
  refine qaa trA ?_
  show o275_2.go _ _ _=_
  simp only[o275_2,TT,Nat.reduceEqDiff,↓reduceIte,show ¬(12+1:Int) < 13 by omega]
  rfl
 have g:(l.length:Int)≤100000000:=by omega
 refine qaa trA ?_
 show o275.go _ _ _=_
 by_cases h0:(qan cid l).2=0
 ·rw[if_pos h0]
  rw[h0] at e2
  simp only[o275,qac,TT,Nat.reduceEqDiff,↓reduceIte,qai,g,e0,e1,e2]
 ·rw[if_neg h0]
  simp only[o275,qac,TT,Nat.reduceEqDiff,↓reduceIte,qai,g,e0,e1,e2,h0]
end
theorem qhg {l:List Le} (h:PoolR l) {cid:Int} (hc:¬∃e∈l,e.cid=cid):(l.length < 3→(qan cid l).2≠0)∧((qan cid l).2≠0→PoolR (qan cid l).1∧(qan cid l).1.length=l.length+1∧(∀x,x∈(qan cid l).1↔x∈l∨x=⟨(qan cid l).2,cid⟩)∧10≤(qan cid l).2∧(qan cid l).2≤12):=by
 have three:∀p:Int,10≤p∧p≤12→p=10∨p=11∨p=12:=fun p hp=>by omega
 have mk:∀m:List Le,(∀e∈m,10≤e.place∧e.place≤12)→m.Pairwise (fun x y=>x.place < y.place)→m.Pairwise (fun x y=>x.cid≠y.cid)→m.length≤3→PoolR m:=fun m h1 h2 h3 h4=>⟨h1,h2,h3,h4⟩
 rcases l with _ | ⟨⟨p,x⟩,_ | ⟨⟨q,y⟩,_ | ⟨⟨r,z⟩,l⟩⟩⟩
 ·refine⟨fun _=>by simp[qan,leaseStep,atP],fun _=>⟨mk _ (by simp[qan,leaseStep,atP]) (by simp[qan,leaseStep,atP]) (by simp[qan,leaseStep,atP]) (by simp[qan,leaseStep,atP]),by simp[qan,leaseStep,atP],fun v=>by simp[qan,leaseStep,atP],by simp[qan,leaseStep,atP],by simp[qan,leaseStep,atP]⟩⟩
 ·have h1:=three p (h.place _ (List.mem_cons_self ..))
  have n1:¬x=cid:=fun e=>hc ⟨⟨p,x⟩,List.mem_cons_self ..,e⟩
  have n1':¬cid=x:=fun e=>n1 e.symm
  rcases h1 with rfl | rfl | rfl <;>
   refine⟨fun _=>by simp[qan,leaseStep,atP],fun _=>⟨mk _ (by simp[qan,leaseStep,atP]) (by simp[qan,leaseStep,atP]) (by simp[qan,leaseStep,atP,n1,n1']) (by simp[qan,leaseStep,atP]),by simp[qan,leaseStep,atP],fun v=>by simp[qan,leaseStep,atP,or_comm],by simp[qan,leaseStep,atP],by simp[qan,leaseStep,atP]⟩⟩
 ·have h1:=three p (h.place _ (List.mem_cons_self ..))
  have h2:=three q (h.place ⟨q,y⟩ (by simp))
  have n1:¬x=cid:=fun e=>hc ⟨⟨p,x⟩,List.mem_cons_self ..,e⟩
  have n1':¬cid=x:=fun e=>n1 e.symm
  have n2:¬y=cid:=fun e=>hc ⟨⟨q,y⟩,by simp,e⟩
  have n2':¬cid=y:=fun e=>n2 e.symm
  have u:=h.up
  have v:=h.unlike
  simp only[List.pairwise_cons,List.mem_cons,List.not_mem_nil,or_false,forall_eq] at u v
  have v1:¬x=y:=v.1
  have v1':¬y=x:=fun e=>v1 e.symm
  rcases h1 with rfl | rfl | rfl<;>rcases h2 with rfl | rfl | rfl<;>first | (exfalso;omega) |
   refine⟨fun _=>by simp[qan,leaseStep,atP],fun _=>⟨mk _ (by simp[qan,leaseStep,atP]) (by simp[qan,leaseStep,atP]) (by simp[qan,leaseStep,atP,n1,n1',n2,n2',v1,v1']) (by simp[qan,leaseStep,atP]),by simp[qan,leaseStep,atP],fun v=>by simp[qan,leaseStep,atP,or_assoc,or_comm,or_left_comm],by simp[qan,leaseStep,atP],by simp[qan,leaseStep,atP]⟩⟩
 ·have h1:=three p (h.place _ (List.mem_cons_self ..))
  have h2:=three q (h.place ⟨q,y⟩ (by simp))
  have h3:=three r (h.place ⟨r,z⟩ (by simp))
  have u:=h.up
  simp only[List.pairwise_cons,List.mem_cons,List.not_mem_nil,or_false,forall_eq_or_imp,forall_eq] at u
  have:=h.few
  refine⟨fun hl=>by simp only[List.length_cons] at hl;omega,fun hne=>?_⟩
  exfalso
  apply hne
  obtain rfl:p=10:=by omega
  obtain rfl:q=11:=by omega
  obtain rfl:r=12:=by omega
  simp[qan,leaseStep,atP]
structure SeG where
 hello:Tm'
 said:Tm'
 hand:Tm'
 last:Tm'
 app:Tm'
 part:Tm'
 SN:Nat→Prop
 SL:Nat→Prop
structure Se where
 cid:Int
 addr:Int
 state:Int
 name:Int
 mode:Int
 hello:Int
 said:Int
 part:Int
 hand:Int
 last:Int
 ch:Ch
 heard:Int
 g:SeG
def Se.v (s:Se):List Value:=[I s.cid,I s.addr,I s.state,I s.name,I s.mode,I s.hello,I s.said,I s.part,I s.hand,I s.last,I s.ch.app,I s.ch.side,I s.ch.ep,I s.ch.seq,I s.ch.heard,I s.ch.nt,I s.ch.ns,I s.ch.lt,I s.ch.ls,I s.heard]
def qax (l:List Se):Rw:=l.map Se.v
theorem qad (l:List Se):(qax l).length=l.length:=List.length_map ..
theorem qaq (l:List Se) (i:Nat) (h:i < l.length):(qax l).getD i []=(l[i]).v:=by
 simp[qax,List.getD_eq_getElem?_getD,List.getElem?_eq_getElem h]
structure SeD (a:Ar) (s:Se):Prop where
 cid:1≤s.cid∧s.cid≤9998
 addr:0≤s.addr∧s.addr≤49
 state:s.state=1∨s.state=2
 name:0≤s.name∧s.name≤9
 mode:s.mode=1∨s.mode=2
 hello:Den a s.hello s.g.hello
 said:Den a s.said s.g.said
 hand:Den a s.hand s.g.hand
 last:Den a s.last s.g.last
 part:s.state=2→Den a s.part s.g.part
 ch:s.state=2→CR a s.ch s.g.app s.g.SN s.g.SL
 side:s.state=2→s.ch.side=2
theorem SeD.mono {a a':Ar} {s:Se} (h:SeD a s) (x:a <+: a'):SeD a' s :=
 { h with hello:=h.hello.mono x,said:=h.said.mono x,hand:=h.hand.mono x,last:=h.last.mono x,part:=fun k=>(h.part k).mono x,ch:=fun k=>(h.ch k).mono x }
def sessFrom (cid:Int):List Se→Nat→Option Nat
 | [],_=>none
 | s :: l,i=>if s.cid=cid then some i else sessFrom cid l (i+1)
def qbU (l:List Se) (cid:Int):Option Nat:=sessFrom cid l 0
theorem qeT {cid:Int}:∀{l:List Se} {i j:Nat},sessFrom cid l i=some j→i≤j∧∃h:j - i < l.length,l[j - i].cid=cid
 | [],_,_,h=>by cases h
 | s :: l,i,j,h=>by
  unfold sessFrom at h
  split at h
  ·rename_i hc
   cases h
   exact⟨Nat.le_refl _,by simp,by simpa using hc⟩
  ·obtain⟨h1,h2,h3⟩:=qeT h
   refine⟨by omega,by simp only[List.length_cons];omega,?_⟩
   have:j - i=(j - (i+1))+1:=by omega
   simp only[this,List.getElem_cons_succ]
   exact h3
theorem qcD {cid:Int} {l:List Se} {j:Nat} (h:qbU l cid=some j):∃h:j < l.length,l[j].cid=cid:=by
 obtain⟨_,h1,h2⟩:=qeT h
 exact⟨h1,h2⟩
theorem qeE {cid:Int}:∀{l:List Se} {i:Nat},sessFrom cid l i=none→∀s∈l,s.cid≠cid
 | [],_,_,s,hs=>by cases hs
 | s :: l,i,h,s',hs=>by
  unfold sessFrom at h
  split at h
  ·cases h
  ·rename_i hc
   rcases List.mem_cons.1 hs with rfl | hs
   ·exact hc
   ·exact qeE h s' hs
def ixI:Option Nat→Int
 | some i=>i
 | none=>-1
theorem f_sessAt0 {l:List Se} (hl:l.length≤100) (cid x y z w:Int) (r1 r2 r3:Rw):∀(n i:Nat),i+n=l.length→fin trA 1946 [I cid,I x,I y,I z,I w,I i] [qax l,r1,r2,r3]=some (match sessFrom cid (l.drop i) i with | some j=>(1,[I j],[]) | none=>(0,[],[]))
 | 0,i,hi=>by
  refine qaa trA ?_
  show o162_0.go _ _ _=_
  have g:¬(i:Int) < (l.length:Int):=by omega
  rw[List.drop_eq_nil_of_le (by omega)]
  simp only[o162_0,TT,Nat.reduceEqDiff,↓reduceIte,qad,g,sessFrom]
 | n+1,i,hi=>by
  have ih:=f_sessAt0 hl cid x y z w r1 r2 r3 n (i+1) (by omega)
  have hlt:i < l.length:=by omega
  have g:(i:Int) < (l.length:Int):=by omega
  have g0:(0:Int)≤(i:Int):=by omega
  refine qaa trA ?_
  show o162_0.go _ _ _=_
  rw[List.drop_eq_getElem_cons hlt]
  by_cases h1:l[i].cid=cid
  ·simp only[o162_0,qac,TT,Nat.reduceEqDiff,↓reduceIte,qad,Int.toNat_natCast,qaq l i hlt,Se.v,g,g0,h1,sessFrom]
  ·cases h2:sessFrom cid (l.drop (i+1)) (i+1) with
   | some j =>
    rw[h2] at ih
    simp only[o162_0,qac,TT,Nat.reduceEqDiff,↓reduceIte,qad,Int.toNat_natCast,qaq l i hlt,Se.v,g,g0,h1,sessFrom,qaB (i:=i) (n:=100) (by omega) (by omega),ih,h2]
   | none =>
    rw[h2] at ih
    simp only[o162_0,qac,TT,Nat.reduceEqDiff,↓reduceIte,qad,Int.toNat_natCast,qaq l i hlt,Se.v,g,g0,h1,sessFrom,qaB (i:=i) (n:=100) (by omega) (by omega),ih,h2]
theorem qdD {l:List Se} (hl:l.length≤100) (cid y z w:Int) (r1 r2 r3:Rw):fin trA 1947 [I y,I z,I w,I cid] [qax l,r1,r2,r3]=some (0,[I (ixI (qbU l cid))],[]):=by
 have e:=f_sessAt0 hl cid y z w 0 r1 r2 r3 l.length 0 (by omega)
 rw[show((0:Nat):Int)=0 from rfl,List.drop_zero] at e
 refine qaa trA ?_
 show o162.go _ _ _=_
 unfold qbU
 cases h:sessFrom cid l 0 with
 | some j =>
  rw[h] at e
  simp only[o162,qac,TT,Nat.reduceEqDiff,↓reduceIte,e,ixI]
 | none =>
  rw[h] at e
  simp only[o162,qac,TT,Nat.reduceEqDiff,↓reduceIte,e,ixI]
theorem qbI {α β:Type} (f:α→β) (g:α→α) (h:β→β) (hh:∀x,h (f x)=f (g x)):∀(l:List α) (i:Nat),(l.map f).modify i h=(l.modify i g).map f
 | [],_=>by simp
 | x :: l,0=>by simp[hh]
 | x :: l,i+1=>by simp[qbI f g h hh l i]
theorem setS (f:Se→Se) {j:Nat} {cs:List Value} (h:∀s:Se,s.v.take j++(cs++s.v.drop (j+cs.length))=(f s).v) (l:List Se) (i:Nat):qbx (qax l) i j cs=qax (l.modify i f):=by
 unfold qbx qax
 exact qbI Se.v f _ h l i
theorem set_addr (l:List Se) (i:Nat) (x:Int):qbx (qax l) i 1 [.int .i64 x]=qax (l.modify i fun s=>{ s with addr:=x }):=setS _ (fun _=>rfl) l i
theorem set_state (l:List Se) (i:Nat) (x:Int):qbx (qax l) i 2 [.int .i64 x]=qax (l.modify i fun s=>{ s with state:=x }):=setS _ (fun _=>rfl) l i
theorem set_said (l:List Se) (i:Nat) (x:Int):qbx (qax l) i 6 [.int .i64 x]=qax (l.modify i fun s=>{ s with said:=x }):=setS _ (fun _=>rfl) l i
theorem set_part (l:List Se) (i:Nat) (x:Int):qbx (qax l) i 7 [.int .i64 x]=qax (l.modify i fun s=>{ s with part:=x }):=setS _ (fun _=>rfl) l i
theorem set_last (l:List Se) (i:Nat) (x:Int):qbx (qax l) i 9 [.int .i64 x]=qax (l.modify i fun s=>{ s with last:=x }):=setS _ (fun _=>rfl) l i
theorem set_heard (l:List Se) (i:Nat) (x:Int):qbx (qax l) i 19 [.int .i64 x]=qax (l.modify i fun s=>{ s with heard:=x }):=setS _ (fun _=>rfl) l i
theorem set_ch (l:List Se) (i:Nat) (c:Ch):qbx (qax l) i 10 [.int .i64 c.app,.int .i64 c.side,.int .i64 c.ep,.int .i64 c.seq,.int .i64 c.heard,.int .i64 c.nt,.int .i64 c.ns,.int .i64 c.lt,.int .i64 c.ls]=qax (l.modify i fun s=>{ s with ch:=c }):=setS _ (fun _=>rfl) l i
theorem mod_mod {α:Type} (f g:α→α):∀(l:List α) (i:Nat),(l.modify i f).modify i g=l.modify i fun x=>g (f x)
 | [],_=>by simp
 | x :: l,0=>by simp
 | x :: l,i+1=>by simp[mod_mod f g l i]
theorem mod_v {f g:Se→Se} (h:∀s,(f s).v=(g s).v):∀(l:List Se) (i:Nat),qax (l.modify i f)=qax (l.modify i g)
 | [],_=>by simp
 | x :: l,0=>by simp[qax,h]
 | x :: l,i+1=>by
  have:=mod_v h l i
  simp only[qax] at this ⊢
  simp[this]
theorem qey {α:Type} {f:α→α}:∀{l:List α} {i:Nat} {x:α},x∈l.modify i f→x∈l∨∃h:i < l.length,x=f l[i]
 | [],_,_,h=>by simp at h
 | y :: l,0,x,h=>by
  simp only[List.modify_zero_cons,List.mem_cons] at h
  rcases h with rfl | h
  ·exact .inr ⟨by simp,rfl⟩
  ·exact .inl (List.mem_cons_of_mem _ h)
 | y :: l,i+1,x,h=>by
  simp only[List.modify_succ_cons,List.mem_cons] at h
  rcases h with rfl | h
  ·exact .inl (List.mem_cons_self ..)
  ·rcases qey h with h | ⟨h1,h2⟩
   ·exact .inl (List.mem_cons_of_mem _ h)
   ·exact .inr ⟨by simp;omega,by simpa using h2⟩
def qfx (draw:Int):Tm':=qgq (.atom (draw+1)) (.pub (.atom draw))
def bothG (draw:Int) (Hl:Tm'):Tm':=.pair Hl (qfx draw)
def handG (gate draw mode name:Int) (Y Hl:Tm'):Tm':=qdp mode name gate (.atom draw) Y (bothG draw Hl)
def qeQ (gate draw mode name:Int) (Y Hl:Tm'):Tm':=partT 2 (handG gate draw mode name Y Hl) mode gate (bothG draw Hl)
theorem helloR_ok {T:Tm'} {h:Hi} (hh:qds T=some h):h.nonce.nonce=true∧h.pub.kind=6∧(h.mode=1∨h.mode=2)∧0≤h.name∧h.name≤9:=by
 unfold qds at hh
 split at hh
 ·split at hh
  ·rename_i hc
   cases hh
   obtain⟨_,c1,c2,_,_,c3,c4⟩:=hc
   simp only[inB,Bool.and_eq_true,decide_eq_true_eq] at c3 c4
   exact⟨c1,c2,by show _=_∨_=_;dsimp only;omega,c4⟩
  ·cases hh
 ·cases hh
theorem f_half {a:Ar} (ha:AOk a) {l:List Se} {r2 r3 r4:Rw} {name next drops addr mode cname nonce pub hello draw now:Int} {Y Hl:Tm'}
  (hn:0≤name∧name≤9) (hx:1≤next∧next≤9998) (hm:mode=1∨mode=2) (hc:0≤cname∧cname≤9) (hp:Den a pub (.pub Y)) (hh:Den a hello Hl) (hd:1000≤draw∧draw≤900000) (hl:a.length+58≤3000) (h3:l.length < 3) :
  ∃a' said hand t,fin trA 3110 [I name,I next,I drops,I addr,I mode,I cname,I nonce,I pub,I hello,I draw,I now] [qag a,qax l,r2,r3,r4] =
    some (0,[I (next+1),I t,B true],[qag a',qax (l++[⟨next,addr,1,cname,mode,hello,said,0,hand,t,Ch.zero,now,⟨Hl,.pair (bothG draw Hl) (qeQ name draw mode cname Y Hl),handG name draw mode cname Y Hl,qav 73 [qfx draw,qeQ name draw mode cname Y Hl],Hl,Hl,fun _=>False,fun _=>False⟩⟩])])∧Ext a a' 58 ∧
   Den a' said (.pair (bothG draw Hl) (qeQ name draw mode cname Y Hl))∧Den a' hand (handG name draw mode cname Y Hl)∧Den a' t (qav 73 [qfx draw,qeQ name draw mode cname Y Hl]):=by
 have w1:wr (draw+1)=draw+1:=qaj (by omega) (by omega)
 have w2:wr (next+1)=next+1:=qaj (by omega) (by omega)
 have b1:inB draw 1000 900000=true:=by simp[inB];omega
 obtain⟨a1,k1,e1,x1,d1⟩:=qat (n:=draw+1) ha (by omega) (by omega) (by omega)
 have l1:=x1.len
 obtain⟨a2,k2,e2,x2,d2⟩:=qat (n:=draw) x1.ok (by omega) (by omega) (by omega)
 have l2:=x2.len
 obtain⟨a3,k3,e3,x3,d3⟩:=qbM (c:=6) (y:=0) x2.ok (by omega) d2 (by omega) (by omega)
 have l3:=x3.len
 obtain⟨a4,k4,e4,x4,d4⟩:=f_server x3.ok (d1.mono (x2.pre.trans x3.pre)) d3 (by omega)
 have l4:=x4.len
 have p4:=x1.pre.trans (x2.pre.trans (x3.pre.trans x4.pre))
 obtain⟨a5,k5,e5,x5,d5⟩:=qbk (c:=2) x4.ok (by omega) (hh.mono p4) d4 (by omega)
 have l5:=x5.len
 have p5:=p4.trans x5.pre
 obtain⟨a6,k6,e6,x6,d6⟩:=f_hand0 (mode:=mode) x5.ok (d2.mono (x3.pre.trans (x4.pre.trans x5.pre))) (hp.mono p5) d5 hc hn (by omega)
 have l6:=x6.len
 obtain⟨a7,k7,e7,x7,d7⟩:=f_part (side:=2) (mode:=mode) (name:=name) x6.ok d6 (d5.mono x6.pre) (by omega) (by omega) hn.1 hn.2 (by omega)
 have l7:=x7.len
 obtain⟨a8,k8,e8,x8,d8⟩:=qbt (n:=73) x7.ok (d4.mono (x5.pre.trans (x6.pre.trans x7.pre))) d7 (by omega) (by omega) (by omega)
 have l8:=x8.len
 obtain⟨a9,k9,e9,x9,d9⟩:=qbk (c:=2) x8.ok (by omega) (d5.mono (x6.pre.trans (x7.pre.trans x8.pre))) (d7.mono x8.pre) (by omega)
 have n8:¬k8 < 0:=by have:=d8.nonneg;omega
 have n9:¬k9 < 0:=by have:=d9.nonneg;omega
 have g0:¬(3:Int)≤(l.length:Int):=by omega
 have g1:¬(9999:Int)≤next:=by omega
 refine⟨a9,k9,k6,k8,qaa trA ?_,(x1.trans (x2.trans (x3.trans (x4.trans (x5.trans (x6.trans (x7.trans (x8.trans x9)))))))).le (by omega),d9,d6.mono (x7.pre.trans (x8.pre.trans x9.pre)),d8.mono x9.pre⟩
 have q:∀g:SeG,qax l++[[Value.int .i64 next,Value.int .i64 addr,Value.int .i64 1,Value.int .i64 cname,Value.int .i64 mode,Value.int .i64 hello,Value.int .i64 k9,Value.int .i64 0,Value.int .i64 k6,Value.int .i64 k8,Value.int .i64 0,Value.int .i64 0,Value.int .i64 0,Value.int .i64 0,Value.int .i64 0,Value.int .i64 0,Value.int .i64 0,Value.int .i64 0,Value.int .i64 0,Value.int .i64 now]] =
   qax (l++[⟨next,addr,1,cname,mode,hello,k9,0,k6,k8,Ch.zero,now,g⟩]):=fun g=>by simp[qax,Se.v,Ch.zero]
 have g2:((qax l).length:Int)+1≤100000000:=by rw[qad];omega
 show o259.go _ _ _=_
 simp only[o259,TT,Nat.reduceEqDiff,↓reduceIte,qad,ge_iff_le,g0,g1,f_in,b1,w1,w2,e1,e2,e3,e4,e5,e6,e7,e8,e9,n8,n9,List.length_append,List.length_cons,List.length_nil,Nat.zero_add]
 rw[if_pos (by push_cast;rw[qad] at g2;exact g2)]
 rw[q]
theorem f_half_no {a:Ar} {l:List Se} {r2 r3 r4:Rw} {name next drops addr mode cname nonce pub hello draw now:Int} (h3:3≤l.length) :
  fin trA 3110 [I name,I next,I drops,I addr,I mode,I cname,I nonce,I pub,I hello,I draw,I now] [qag a,qax l,r2,r3,r4]=some (0,[I next,I (-1),B false],[qag a,qax l]):=by
 have g0:(3:Int)≤(l.length:Int):=by omega
 refine qaa trA ?_
 show o259.go _ _ _=_
 simp only[o259,TT,Nat.reduceEqDiff,↓reduceIte,qad,ge_iff_le,g0]
def qbn (addr hello:Int):List Se→Nat→Option Nat
 | [],_=>none
 | s :: l,i=>if s.addr=addr∧s.hello=hello then some i else qbn addr hello l (i+1)
theorem qeb {addr hello:Int}:∀{l:List Se} {i j:Nat},qbn addr hello l i=some j→i≤j∧∃h:j - i < l.length,l[j - i].addr=addr∧l[j - i].hello=hello
 | [],_,_,h=>by cases h
 | s :: l,i,j,h=>by
  unfold qbn at h
  split at h
  ·rename_i hc
   cases h
   exact⟨Nat.le_refl _,by simp,by simpa using hc⟩
  ·obtain⟨h1,h2,h3⟩:=qeb h
   refine⟨by omega,by simp only[List.length_cons];omega,?_⟩
   have:j - i=(j - (i+1))+1:=by omega
   simp only[this,List.getElem_cons_succ]
   exact h3
theorem f_hello0 {l:List Se} (hl:l.length≤100) (ra r2 r3 r4:Rw) (x y z c0 d0 now addr tm v w m1 m2 m3 m4:Int) (b:Bool):∀(n i:Nat),i+n=l.length →
  fin trA 2990 [I c0,I d0,I v,I 1,I 2,I w,I now,I addr,I tm,I 0,B b,I m1,I m2,I m3,I m4,I i] [ra,qax l,r2,r3,r4,[[I x],[I y],[I z]]] =
   some (match qbn addr y (l.drop i) i with
    | some j=>if (l.getD j ⟨0,0,0,0,0,0,0,0,0,0,Ch.zero,0,⟨.atom 0,.atom 0,.atom 0,.atom 0,.atom 0,.atom 0,fun _=>False,fun _=>False⟩⟩).state=1 then (1,[I (l.getD j ⟨0,0,0,0,0,0,0,0,0,0,Ch.zero,0,⟨.atom 0,.atom 0,.atom 0,.atom 0,.atom 0,.atom 0,fun _=>False,fun _=>False⟩⟩).last,B true],[qax (l.modify j fun s=>{ s with heard:=now })]) else (1,[I (-1),B false],[qax l])
    | none=>(0,[],[]))
 | 0,i,hi=>by
  refine qaa trA ?_
  show o249_0.go _ _ _=_
  have g:¬(i:Int) < (l.length:Int):=by omega
  rw[List.drop_eq_nil_of_le (by omega)]
  simp only[o249_0,TT,Nat.reduceEqDiff,↓reduceIte,qad,g,qbn]
 | n+1,i,hi=>by
  have ih:=f_hello0 hl ra r2 r3 r4 x y z c0 d0 now addr tm v w m1 m2 m3 m4 b n (i+1) (by omega)
  have hlt:i < l.length:=by omega
  have g:(i:Int) < (l.length:Int):=by omega
  have g0:(0:Int)≤(i:Int):=by omega
  have v0:wr (1+0)=1:=by rw[qaj (by omega) (by omega)];rfl
  refine qaa trA ?_
  show o249_0.go _ _ _=_
  rw[List.drop_eq_getElem_cons hlt]
  by_cases h1:l[i].addr=addr∧l[i].hello=y
  ·have hg:l.getD i ⟨0,0,0,0,0,0,0,0,0,0,Ch.zero,0,⟨.atom 0,.atom 0,.atom 0,.atom 0,.atom 0,.atom 0,fun _=>False,fun _=>False⟩⟩=l[i]:=by simp[List.getD_eq_getElem?_getD,List.getElem?_eq_getElem hlt]
   by_cases hs:l[i].state=1
   ·simp only[o249_0,qac,TT,Nat.reduceEqDiff,↓reduceIte,TN,Nat.reduceAdd,Int.reduceLT,Int.reduceLE,Int.reduceToNat,Int.reduceToNat,qad,Int.toNat_natCast,qaq l i hlt,Se.v,g,g0,h1.1,h1.2,v0,qbn,and_self,hg,hs,set_heard,ne_eq,not_true_eq_false]
   ·simp only[o249_0,qac,TT,Nat.reduceEqDiff,↓reduceIte,TN,Nat.reduceAdd,Int.reduceLT,Int.reduceLE,Int.reduceToNat,Int.reduceToNat,qad,Int.toNat_natCast,qaq l i hlt,Se.v,g,g0,h1.1,h1.2,v0,qbn,and_self,hg,hs,ne_eq,not_false_eq_true]
  ·have hf:qbn addr y (l[i] :: l.drop (i+1)) i=qbn addr y (l.drop (i+1)) (i+1):=by rw[qbn,if_neg h1]
   rw[hf]
   have key:∀r,fin trA 2990 [I c0,I d0,I v,I 1,I 2,I w,I now,I addr,I tm,I 0,B b,I m1,I m2,I m3,I m4,I ((i+1:Nat):Int)] [ra,qax l,r2,r3,r4,[[I x],[I y],[I z]]]=some r→(r=(0,[],[])∨∃p q o,r=(1,[p,q],[o])) →
     o249_0.go (qbO (fin trA) 2990) [I c0,I d0,I v,I 1,I 2,I w,I now,I addr,I tm,I 0,B b,I m1,I m2,I m3,I m4,I i] [ra,qax l,r2,r3,r4,[[I x],[I y],[I z]]]=some r:=fun r er hr=>by
    by_cases h2:l[i].addr=addr
    ·have h3:¬l[i].hello=y:=fun h=>h1 ⟨h2,h⟩
     rcases hr with rfl | ⟨p,q,o,rfl⟩<;>simp only[o249_0,qac,TT,Nat.reduceEqDiff,↓reduceIte,TN,Nat.reduceAdd,Int.reduceLT,Int.reduceLE,Int.reduceToNat,Int.reduceToNat,qad,Int.toNat_natCast,qaq l i hlt,Se.v,g,g0,h2,h3,v0,qaB (i:=i) (n:=100) (by omega) (by omega),er]
    ·rcases hr with rfl | ⟨p,q,o,rfl⟩<;>simp only[o249_0,qac,TT,Nat.reduceEqDiff,↓reduceIte,TN,Nat.reduceAdd,Int.reduceLT,Int.reduceLE,Int.reduceToNat,Int.reduceToNat,qad,Int.toNat_natCast,qaq l i hlt,Se.v,g,g0,h2,v0,qaB (i:=i) (n:=100) (by omega) (by omega),er]
   refine key _ ih ?_
   cases qbn addr y (l.drop (i+1)) (i+1) with
   | none=>exact .inl rfl
   | some j =>
    dsimp only
    split
    ·exact .inr ⟨_,_,_,rfl⟩
    ·exact .inr ⟨_,_,_,rfl⟩
theorem f_ghello {a:Ar} (ha:AOk a) {l:List Se} {r2 r3 r4:Rw} {name next drops addr tm x y z draw now:Int} {Hl C:Tm'}
  (hn:0≤name∧name≤9) (hx:1≤next∧next≤9998) (had:0≤addr∧addr≤900000) (hy:Den a y Hl) (hz:Den a z C) (hd:1000≤draw∧draw≤900000) (hl:a.length+65≤3000) (h3:l.length≤100) :
  (∃a',fin trA 2991 [I name,I next,I drops,I addr,I tm,I 1,I 2,I draw,I now] [qag a,qax l,r2,r3,r4,[[I x],[I y],[I z]]]=some (0,[I next,I (-1),B false],[qag a',qax l])∧Ext a a' 65) ∨
  (∃(j:Nat) (hj:j < l.length),l[j].addr=addr∧l[j].hello=y∧l[j].state=1∧fin trA 2991 [I name,I next,I drops,I addr,I tm,I 1,I 2,I draw,I now] [qag a,qax l,r2,r3,r4,[[I x],[I y],[I z]]]=some (0,[I next,I l[j].last,B true],[qag a,qax (l.modify j fun s=>{ s with heard:=now })])) ∨
  (∃a' t,(∃h,qds Hl=some h)∧C≠qdu 9000 addr Hl∧fin trA 2991 [I name,I next,I drops,I addr,I tm,I 1,I 2,I draw,I now] [qag a,qax l,r2,r3,r4,[[I x],[I y],[I z]]]=some (0,[I next,I t,B true],[qag a',qax l])∧Ext a a' 65∧Den a' t (qav 72 [qdu 9000 addr Hl])) ∨
  (∃h Y a' said hand t,qds Hl=some h∧h.pub=.pub Y∧C=qdu 9000 addr Hl∧l.length < 3∧fin trA 2991 [I name,I next,I drops,I addr,I tm,I 1,I 2,I draw,I now] [qag a,qax l,r2,r3,r4,[[I x],[I y],[I z]]] =
    some (0,[I (next+1),I t,B true],[qag a',qax (l++[⟨next,addr,1,h.name,h.mode,y,said,0,hand,t,Ch.zero,now,⟨Hl,.pair (bothG draw Hl) (qeQ name draw h.mode h.name Y Hl),handG name draw h.mode h.name Y Hl,qav 73 [qfx draw,qeQ name draw h.mode h.name Y Hl],Hl,Hl,fun _=>False,fun _=>False⟩⟩])])∧Ext a a' 65 ∧
   Den a' said (.pair (bothG draw Hl) (qeQ name draw h.mode h.name Y Hl))∧Den a' hand (handG name draw h.mode h.name Y Hl)∧Den a' t (qav 73 [qfx draw,qeQ name draw h.mode h.name Y Hl])):=by
 have v0:wr (1+0)=1:=by rw[qaj (by omega) (by omega)];rfl
 have v1:wr (1+1)=2:=by rw[qaj (by omega) (by omega)];rfl
 obtain⟨s1,s2⟩:=f_helloIn ha hy
 cases hh:qds Hl with
 | none =>
  have e1:=s2 hh
  refine .inl ⟨a,qaa trA ?_,(Ext.refl ha).le (by omega)⟩
  show o249.go _ _ _=_
  simp only[o249,qaE,qaG,TT,Nat.reduceEqDiff,↓reduceIte,TN,Nat.reduceAdd,Int.reduceLT,Int.reduceLE,Int.reduceToNat,Int.reduceToNat,v0,e1,same_self]
 | some h =>
  obtain⟨i,j,e1,d1,d2⟩:=s1 h hh
  have e2:=f_hello0 h3 (qag a) r2 r3 r4 x y z name next now addr tm drops draw h.mode h.name i j false l.length 0 (by omega)
  rw[show((0:Nat):Int)=0 from rfl,List.drop_zero] at e2
  cases hf:qbn addr y l 0 with
  | some m =>
   obtain⟨_,hm,c1,c2⟩:=qeb hf
   simp only[Nat.sub_zero] at hm c1 c2
   rw[hf] at e2
   have hg:l.getD m ⟨0,0,0,0,0,0,0,0,0,0,Ch.zero,0,⟨.atom 0,.atom 0,.atom 0,.atom 0,.atom 0,.atom 0,fun _=>False,fun _=>False⟩⟩=l[m]:=by simp[List.getD_eq_getElem?_getD,List.getElem?_eq_getElem hm]
   simp only[hg] at e2
   by_cases hs:l[m].state=1
   ·rw[if_pos hs] at e2
    refine .inr (.inl ⟨m,hm,c1,c2,hs,qaa trA ?_⟩)
    show o249.go _ _ _=_
    simp only[o249,qaE,qaG,qac,TT,Nat.reduceEqDiff,↓reduceIte,TN,Nat.reduceAdd,Int.reduceLT,Int.reduceLE,Int.reduceToNat,Int.reduceToNat,v0,e1,e2,same_self]
   ·rw[if_neg hs] at e2
    refine .inl ⟨a,qaa trA ?_,(Ext.refl ha).le (by omega)⟩
    show o249.go _ _ _=_
    simp only[o249,qaE,qaG,qac,TT,Nat.reduceEqDiff,↓reduceIte,TN,Nat.reduceAdd,Int.reduceLT,Int.reduceLE,Int.reduceToNat,Int.reduceToNat,v0,e1,e2,same_self]
  | none =>
   rw[hf] at e2
   dsimp only at e2
   obtain⟨a1,k,e3,x1,g1⟩:=f_cookie (c:=9000) (n:=addr) ha hy (by omega) (by omega) had.1 had.2 (by omega)
   have l1:=x1.len
   have n1:¬k < 0:=by have:=g1.nonneg;omega
   have hkz:=g1.iff x1.ok (hz.mono x1.pre)
   by_cases hc:C=qdu 9000 addr Hl
   ·have hk:k=z:=hkz.2 hc.symm
    have n1':¬z < 0:=by rw[←hk];exact n1
    obtain⟨q1,q2,q3,q4⟩:=helloR_ok hh
    by_cases h4:l.length < 3
    ·obtain⟨Y,hY⟩:=kind_un d2 q2 (.inr rfl)
     rw[hY] at d2
     obtain⟨a2,said,hand,t,e4,x2,f1,f2,f3⟩:=f_half (r2:=r2) (r3:=r3) (r4:=r4) (next:=next) (drops:=drops) (addr:=addr) (nonce:=i) (now:=now) x1.ok hn hx q3 q4 (d2.mono x1.pre) (hy.mono x1.pre) hd (by omega) h4
     refine .inr (.inr (.inr ⟨h,Y,a2,said,hand,t,rfl,hY,hc,h4,qaa trA ?_,(x1.trans x2).le (by omega),f1,f2,f3⟩))
     show o249.go _ _ _=_
     simp only[o249,qaE,qaG,qac,TT,Nat.reduceEqDiff,↓reduceIte,TN,Nat.reduceAdd,Int.reduceLT,Int.reduceLE,Int.reduceToNat,Int.reduceToNat,v0,v1,e1,e2,e3,n1',hk,e4,same_self,ne_eq,not_true_eq_false]
    ·have e4:=f_half_no (a:=a1) (r2:=r2) (r3:=r3) (r4:=r4) (name:=name) (next:=next) (drops:=drops) (addr:=addr) (mode:=h.mode) (cname:=h.name) (nonce:=i) (pub:=j) (hello:=y) (draw:=draw) (now:=now) (show 3≤l.length by omega)
     refine .inl ⟨a1,qaa trA ?_,x1.le (by omega)⟩
     show o249.go _ _ _=_
     simp only[o249,qaE,qaG,qac,TT,Nat.reduceEqDiff,↓reduceIte,TN,Nat.reduceAdd,Int.reduceLT,Int.reduceLE,Int.reduceToNat,Int.reduceToNat,v0,v1,e1,e2,e3,n1',hk,e4,same_self,ne_eq,not_true_eq_false]
   ·have hk:¬k=z:=fun h=>hc (hkz.1 h).symm
    obtain⟨a2,t,e4,x2,g2⟩:=qgc (n:=72) x1.ok g1 (by omega) (by omega) (by omega)
    have n2:0≤t:=g2.nonneg
    refine .inr (.inr (.inl ⟨a2,t,⟨h,rfl⟩,hc,qaa trA ?_,(x1.trans x2).le (by omega),g2⟩))
    show o249.go _ _ _=_
    simp only[o249,qaE,qaG,qac,TT,Nat.reduceEqDiff,↓reduceIte,TN,Nat.reduceAdd,Int.reduceLT,Int.reduceLE,Int.reduceToNat,Int.reduceToNat,v0,v1,e1,e2,e3,n1,hk,e4,n2,same_self,ne_eq,not_false_eq_true,ge_iff_le]
def opened (s : Se) (part said t app now place : Int) (P : Tm') : Se :=
  { s with state := 2, part := part, said := said, last := t, ch := ⟨app, 2, 0, 0, 0, -1, 0, -1, 0⟩, heard := now,
           g := { s.g with said := .pair s.g.said P, last := qav 75 [ackT s.g.hand place (.pair s.g.said P)], app := appT s.g.hand (.pair s.g.said P), part := P, SN := fun _ => False, SL := fun _ => False } }
theorem f_gopen {a:Ar} (ha:AOk a) {l:List Se} {p:List Le} {r3 r4:Rw} {name next drops part now:Int} {P:Tm'} (i:Nat) (hi:i < l.length) (hs:SeD a l[i]) (hp:PoolR p) (hc:¬∃e∈p,e.cid=l[i].cid) (hk:Den a part P)
  (hr:qeU 1 l[i].g.hand l[i].mode l[i].name l[i].g.said P=true) (hl:a.length+65≤3000) :
  (∃a',fin trA 3134 [I name,I next,I drops,I i,I part,I now] [qag a,qax l,qaI p,r3,r4]=some (0,[I (-1),B false],[qag a',qaI p,qax l])∧Ext a a' 65∧(qan l[i].cid p).2=0) ∨
  ∃a' said t app,fin trA 3134 [I name,I next,I drops,I i,I part,I now] [qag a,qax l,qaI p,r3,r4]=some (0,[I t,B true],[qag a',qaI (qan l[i].cid p).1,qax (l.modify i fun s=>opened s part said t app now (qan l[i].cid p).2 P)])∧Ext a a' 65∧(qan l[i].cid p).2≠0 ∧
   Den a' said (.pair l[i].g.said P)∧Den a' t (qav 75 [ackT l[i].g.hand (qan l[i].cid p).2 (.pair l[i].g.said P)])∧Den a' app (appT l[i].g.hand (.pair l[i].g.said P)):=by
 have e1:=f_l12Ok (mode:=l[i].mode) (name:=l[i].name) ha hs.hand hs.said hk (side:=1) (by omega) (by omega) (by omega)
 rw[hr] at e1
 have e2:=f_leased hp hc
 have hlr:=qhg hp hc
 obtain⟨a1,k1,e3,x1,d1⟩:=qbk (c:=2) ha (by omega) hs.said hk (by omega)
 have l1:=x1.len
 have hpl:0≤(qan l[i].cid p).2∧(qan l[i].cid p).2≤900000:=by
  by_cases h0:(qan l[i].cid p).2=0
  ·omega
  ·have:=(hlr.2 h0).2.2.2;omega
 obtain⟨a2,k2,e4,x2,d2⟩:=f_ack (n:=(qan l[i].cid p).2) x1.ok (hs.hand.mono x1.pre) d1 hpl.1 hpl.2 (by omega)
 have l2:=x2.len
 obtain⟨a3,k3,e5,x3,d3⟩:=qgc (n:=75) x2.ok d2 (by omega) (by omega) (by omega)
 have l3:=x3.len
 have p3:=x1.pre.trans (x2.pre.trans x3.pre)
 obtain⟨a4,k4,e6,x4,d4⟩:=f_app x3.ok (hs.hand.mono p3) (d1.mono (x2.pre.trans x3.pre)) (by omega)
 have n3:¬k3 < 0:=by have:=d3.nonneg;omega
 have n4:¬k4 < 0:=by have:=d4.nonneg;omega
 have g0:(0:Int)≤(i:Int):=by omega
 have g1:(i:Int) < (l.length:Int):=by omega
 have x5:=(x1.trans (x2.trans (x3.trans x4))).le (show 1+(8+(4+4))≤65 by omega)
 by_cases h0:(qan l[i].cid p).2=0
 ·rw[if_pos h0] at e2
  rw[h0] at e4
  refine .inl ⟨a4,qaa trA ?_,x5,h0⟩
  show o261.go _ _ _=_
  simp only[o261,TT,Nat.reduceEqDiff,↓reduceIte,TN,Nat.reduceAdd,Int.reduceLT,Int.reduceLE,Int.reduceToNat,Int.reduceToNat,qad,Int.toNat_natCast,qaq l i hi,Se.v,g0,g1,e1,e2,e3,e4,e5,e6]
 ·rw[if_neg h0] at e2
  have e7:=f_chanNew k4 2
  simp only[Ch.v] at e7
  refine .inr ⟨a4,k1,k3,k4,qaa trA ?_,x5,h0,d1.mono (x2.pre.trans (x3.pre.trans x4.pre)),d3.mono x4.pre,d4⟩
  have sc:∀l':List Se,qbx (qax l') i 10 [.int .i64 k4,.int .i64 2,.int .i64 0,.int .i64 0,.int .i64 0,.int .i64 (-1),.int .i64 0,.int .i64 (-1),.int .i64 0]=qax (l'.modify i fun s=>{ s with ch:=⟨k4,2,0,0,0,-1,0,-1,0⟩ }):=fun l'=>set_ch l' i ⟨k4,2,0,0,0,-1,0,-1,0⟩
  have lm:∀(l':List Se) (f:Se→Se),(qax (l'.modify i f)).length=l'.length:=fun l' f=>by rw[qad,List.length_modify]
  show o261.go _ _ _=_
  simp only[o261,TT,Nat.reduceEqDiff,↓reduceIte,TN,Nat.reduceAdd,Int.reduceLT,Int.reduceLE,Int.reduceToNat,Int.reduceToNat,qad,Int.toNat_natCast,qaq l i hi,Se.v,g0,g1,e1,e2,e3,e4,e5,e6,e7,n3,n4,set_state,set_part,set_said,set_last,set_heard,sc,mod_mod]
  refine congrArg (fun r=>some ((0:Nat),([I k3,B true]:List Value),[qag a4,qaI (qan l[i].cid p).1,r])) ?_
  refine mod_v ?_ l i
  intro s;rfl
theorem qhm {a:Ar} (ha:AOk a) {l:List Se} (hl3:l.length≤100) (hS:∀s∈l,SeD a s) {p r3 r4:Rw} {name next drops part now addr tm v:Int} {b:Bool} {P:Tm'} (hk:Den a part P) (hl:a.length+65≤3000):∀(n i:Nat),i+n=l.length →
  (fin trA 3002 [I name,I next,I drops,I part,I now,I addr,I tm,I v,B b,I i] [qag a,qax l,p,r3,r4]=some (0,[],[qag a])) ∨
  (∃(j:Nat) (hj:j < l.length),l[j].addr=addr∧l[j].state=2∧fin trA 3002 [I name,I next,I drops,I part,I now,I addr,I tm,I v,B b,I i] [qag a,qax l,p,r3,r4]=some (1,[I l[j].last,B true],[qag a,p,qax (l.modify j fun s=>{ s with heard:=now })])) ∨
  (∃(j:Nat) (hj:j < l.length),l[j].addr=addr∧l[j].state=1∧qeU 1 l[j].g.hand l[j].mode l[j].name l[j].g.said P=true∧∀t ok A Q S,fin trA 3134 [I name,I next,I drops,I j,I part,I now] [qag a,qax l,p,r3,r4]=some (0,[I t,B ok],[A,Q,S]) →
   fin trA 3002 [I name,I next,I drops,I part,I now,I addr,I tm,I v,B b,I i] [qag a,qax l,p,r3,r4]=some (1,[I t,B ok],[A,Q,S]))
 | 0,i,hi=>by
  refine .inl (qaa trA ?_)
  show o250_0.go _ _ _=_
  have g:¬(i:Int) < (l.length:Int):=by omega
  simp only[o250_0,TT,Nat.reduceEqDiff,↓reduceIte,qad,g]
 | n+1,i,hi=>by
  have ih:=qhm ha hl3 hS (p:=p) (r3:=r3) (r4:=r4) (name:=name) (next:=next) (drops:=drops) (now:=now) (addr:=addr) (tm:=tm) (v:=v) (b:=b) hk hl n (i+1) (by omega)
  have hlt:i < l.length:=by omega
  have g:(i:Int) < (l.length:Int):=by omega
  have g0:(0:Int)≤(i:Int):=by omega
  have w:=qaB (i:=i) (n:=100) (by omega) (by omega)
  have hs:=hS l[i] (List.getElem_mem hlt)
  have e1:=f_l12Ok (mode:=l[i].mode) (name:=l[i].name) ha hs.hand hs.said hk (side:=1) (by omega) (by omega) (by omega)
  have key:∀r,fin trA 3002 [I name,I next,I drops,I part,I now,I addr,I tm,I v,B b,I ((i+1:Nat):Int)] [qag a,qax l,p,r3,r4]=some r→(r=(0,[],[qag a])∨∃x y o1 o2 o3,r=(1,[x,y],[o1,o2,o3])) →
    (l[i].addr≠addr∨(l[i].state=2∧l[i].part≠part)∨(l[i].state=1∧qeU 1 l[i].g.hand l[i].mode l[i].name l[i].g.said P=false))→fin trA 3002 [I name,I next,I drops,I part,I now,I addr,I tm,I v,B b,I i] [qag a,qax l,p,r3,r4]=some r:=fun r er hr hd=>by
   refine qaa trA ?_
   show o250_0.go _ _ _=_
   rcases hd with hd | ⟨hd,hd2⟩ | ⟨hd,hd2⟩
   ·rcases hr with rfl | ⟨x,y,o1,o2,o3,rfl⟩<;>simp only[o250_0,qac,TT,Nat.reduceEqDiff,↓reduceIte,qad,Int.toNat_natCast,qaq l i hlt,Se.v,g,g0,hd,w,er,ne_eq,not_false_eq_true]
   ·by_cases hda:l[i].addr=addr
    ·rcases hr with rfl | ⟨x,y,o1,o2,o3,rfl⟩<;>simp only[o250_0,qac,TT,Nat.reduceEqDiff,↓reduceIte,qad,Int.toNat_natCast,qaq l i hlt,Se.v,g,g0,hda,hd,hd2,w,er,ne_eq,not_true_eq_false,Int.reduceEq]
    ·rcases hr with rfl | ⟨x,y,o1,o2,o3,rfl⟩<;>simp only[o250_0,qac,TT,Nat.reduceEqDiff,↓reduceIte,qad,Int.toNat_natCast,qaq l i hlt,Se.v,g,g0,hda,w,er,ne_eq,not_false_eq_true]
   ·rw[hd2] at e1
    by_cases hda:l[i].addr=addr
    ·rcases hr with rfl | ⟨x,y,o1,o2,o3,rfl⟩<;>simp only[o250_0,qac,TT,Nat.reduceEqDiff,↓reduceIte,qad,Int.toNat_natCast,qaq l i hlt,Se.v,g,g0,hda,hd,e1,w,er,ne_eq,not_true_eq_false,Int.reduceEq]
    ·rcases hr with rfl | ⟨x,y,o1,o2,o3,rfl⟩<;>simp only[o250_0,qac,TT,Nat.reduceEqDiff,↓reduceIte,qad,Int.toNat_natCast,qaq l i hlt,Se.v,g,g0,hda,w,er,ne_eq,not_false_eq_true]
  by_cases hd:l[i].addr≠addr∨(l[i].state=2∧l[i].part≠part)∨(l[i].state=1∧qeU 1 l[i].g.hand l[i].mode l[i].name l[i].g.said P=false)
  ·rcases ih with h | ⟨j,hj,q1,q2,h⟩ | ⟨j,hj,q1,q2,q3,h⟩
   ·exact .inl (key _ h (.inl rfl) hd)
   ·exact .inr (.inl ⟨j,hj,q1,q2,key _ h (.inr ⟨_,_,_,_,_,rfl⟩) hd⟩)
   ·exact .inr (.inr ⟨j,hj,q1,q2,q3,fun t ok A Q S e=>key _ (h t ok A Q S e) (.inr ⟨_,_,_,_,_,rfl⟩) hd⟩)
  ·have h1:l[i].addr=addr:=Classical.byContradiction fun h=>hd (.inl h)
   rcases hs.state with h2 | h2
   ·have h3:qeU 1 l[i].g.hand l[i].mode l[i].name l[i].g.said P=true:=by
     cases h3:qeU 1 l[i].g.hand l[i].mode l[i].name l[i].g.said P with
     | false=>exact absurd (.inr (.inr ⟨h2,h3⟩)) hd
     | true=>rfl
    rw[h3] at e1
    refine .inr (.inr ⟨i,hlt,h1,h2,h3,fun t ok A Q S e=>qaa trA ?_⟩)
    show o250_0.go _ _ _=_
    simp only[o250_0,qac,TT,Nat.reduceEqDiff,↓reduceIte,qad,Int.toNat_natCast,qaq l i hlt,Se.v,g,g0,h1,h2,e1,e,ne_eq,not_true_eq_false,Int.reduceEq]
   ·have h3:l[i].part=part:=Classical.byContradiction fun h=>hd (.inr (.inl ⟨h2,h⟩))
    refine .inr (.inl ⟨i,hlt,h1,h2,qaa trA ?_⟩)
    show o250_0.go _ _ _=_
    simp only[o250_0,qac,TT,Nat.reduceEqDiff,↓reduceIte,qad,Int.toNat_natCast,qaq l i hlt,Se.v,g,g0,h1,h2,h3,set_heard,ne_eq,not_true_eq_false,Int.reduceEq]
end Go.Proofs.YtipomcnbjlfekaaGreat.Rs
