import Derived.Test.YtipomcnbjlfekaaGreatWl
/- Parts of the proof, merged by a program. -/
namespace Go.Proofs.YtipomcnbjlfekaaGreat.Rs
set_option maxRecDepth 100000
set_option linter.all false
open Go.RowKit
def qfL (name peer app body:Int) (m:Nt):Bool:=decide (m.name=name)&&((decide (peer < 0)||decide (m.peer=peer))&&(decide (m.app=app)&&decide (m.body=body)))
theorem f_has0 {l:List Nt} (hl:l.length≤1000) (name peer app body:Int) (z:Bool):∀(n i:Nat),i+n=l.length→fin trA 1166 [I name,I peer,I app,I body,B z,I i] [qas l]=some (if (l.drop i).any (qfL name peer app body)=true then (1,[B true],[]) else (0,[],[]))
 | 0,i,hi=>by
  refine qaa trA ?_
  show o97_0.go _ _ _=_
  have g:¬(i:Int) < (l.length:Int):=by omega
  rw[List.drop_eq_nil_of_le (by omega)]
  simp only[o97_0,TT,Nat.reduceEqDiff,↓reduceIte,encN_len,g,List.any_nil]
 | n+1,i,hi=>by
  have ih:=f_has0 hl name peer app body z n (i+1) (by omega)
  have hlt:i < l.length:=by omega
  have g:(i:Int) < (l.length:Int):=by omega
  have g0:(0:Int)≤(i:Int):=by omega
  have w:=qaB (i:=i) (n:=1000) (by omega) (by omega)
  refine qaa trA ?_
  show o97_0.go _ _ _=_
  rw[List.drop_eq_getElem_cons hlt,List.any_cons]
  have main:qfL name peer app body l[i]=true∨qfL name peer app body l[i]=false:=by cases qfL name peer app body l[i]<;>simp
  rcases main with hm | hm
  ·simp only[qfL,Bool.and_eq_true,Bool.or_eq_true,decide_eq_true_eq] at hm
   obtain⟨c1,c2,c3,c4⟩:=hm
   have hm:qfL name peer app body l[i]=true:=by simp[qfL,c1,c2,c3,c4]
   rw[hm]
   by_cases c5:peer < 0
   ·simp only[o97_0,qac,TT,Nat.reduceEqDiff,↓reduceIte,encN_len,Int.toNat_natCast,qah l i hlt,Nt.v,g,g0,c1,c3,c4,c5,Bool.true_or]
   ·have c6:l[i].peer=peer:=c2.resolve_left c5
    simp only[o97_0,qac,TT,Nat.reduceEqDiff,↓reduceIte,encN_len,Int.toNat_natCast,qah l i hlt,Nt.v,g,g0,c1,c3,c4,c5,c6,Bool.true_or]
  ·rw[hm,Bool.false_or]
   have hm2:¬(l[i].name=name∧(peer < 0∨l[i].peer=peer)∧l[i].app=app∧l[i].body=body):=by
    intro ⟨c1,c2,c3,c4⟩
    rw[show qfL name peer app body l[i]=true by simp[qfL,c1,c2,c3,c4]] at hm
    cases hm
   have fin1:∀r,fin trA 1166 [I name,I peer,I app,I body,B z,I ((i+1:Nat):Int)] [qas l]=some r→r=(0,[],[])∨r=(1,[B true],[]):=fun r hr=>by
    rw[ih] at hr
    split at hr
    ·exact .inr (Option.some.inj hr).symm
    ·exact .inl (Option.some.inj hr).symm
   obtain⟨r,hr⟩:∃r,fin trA 1166 [I name,I peer,I app,I body,B z,I ((i+1:Nat):Int)] [qas l]=some r:=⟨_,ih⟩
   rw[←ih,hr]
   by_cases c1:l[i].name=name<;>by_cases c5:peer < 0<;>by_cases c6:l[i].peer=peer<;>by_cases c3:l[i].app=app<;>by_cases c4:l[i].body=body <;>
   first
    | (exfalso;apply hm2;simp only[c1,c3,c4,c5,c6,true_or,or_true,and_self];done)
    | (rcases fin1 r hr with rfl | rfl<;>simp only[o97_0,qac,TT,Nat.reduceEqDiff,↓reduceIte,encN_len,Int.toNat_natCast,qah l i hlt,Nt.v,g,g0,c1,c3,c4,c5,c6,w,hr])
theorem f_has {l:List Nt} (hl:l.length≤1000) (name peer app body:Int):fin trA 1167 [I name,I peer,I app,I body] [qas l]=some (0,[B (l.any (qfL name peer app body))],[]):=by
 have e:=f_has0 hl name peer app body false l.length 0 (by omega)
 rw[show((0:Nat):Int)=0 from rfl,List.drop_zero] at e
 refine qaa trA ?_
 show o97.go _ _ _=_
 cases h:l.any (qfL name peer app body) with
 | true=>rw[h] at e;simp only[o97,qac,TT,Nat.reduceEqDiff,↓reduceIte,e]
 | false=>rw[h] at e;simp only[o97,qac,TT,Nat.reduceEqDiff,↓reduceIte,e]
theorem i_hasN0 {l:List Nt} (hl:l.length≤1000) (name peer app body x1 x2 x3 x4:Int) (x5 z:Bool):∀(n i:Nat),i+n=l.length→fin trA 1118 [I name,I peer,I x1,I x2,I app,I x3,I x4,I body,B x5,B z,I (l.length:Int),I i] [qas l]=some (if (l.drop i).any (qfL name peer app body)=true then (1,[B true],[]) else (0,[],[]))
 | 0,i,hi=>by
  refine qaa trA ?_
  show o93_0.go _ _ _=_
  have g:¬(i:Int) < (l.length:Int):=by omega
  rw[List.drop_eq_nil_of_le (by omega)]
  simp only[o93_0,TT,Nat.reduceEqDiff,↓reduceIte,encN_len,g,List.any_nil]
 | n+1,i,hi=>by
  have ih:=i_hasN0 hl name peer app body x1 x2 x3 x4 x5 z n (i+1) (by omega)
  have hlt:i < l.length:=by omega
  have g:(i:Int) < (l.length:Int):=by omega
  have g0:(0:Int)≤(i:Int):=by omega
  have w:=qaB (i:=i) (n:=1000) (by omega) (by omega)
  refine qaa trA ?_
  show o93_0.go _ _ _=_
  rw[List.drop_eq_getElem_cons hlt,List.any_cons]
  have main:qfL name peer app body l[i]=true∨qfL name peer app body l[i]=false:=by cases qfL name peer app body l[i]<;>simp
  rcases main with hm | hm
  ·simp only[qfL,Bool.and_eq_true,Bool.or_eq_true,decide_eq_true_eq] at hm
   obtain⟨c1,c2,c3,c4⟩:=hm
   have hm:qfL name peer app body l[i]=true:=by simp[qfL,c1,c2,c3,c4]
   rw[hm]
   by_cases c5:peer < 0
   ·simp only[o93_0,qac,TT,Nat.reduceEqDiff,↓reduceIte,encN_len,Int.toNat_natCast,qah l i hlt,Nt.v,g,g0,c1,c3,c4,c5,Bool.true_or]
   ·have c6:l[i].peer=peer:=c2.resolve_left c5
    simp only[o93_0,qac,TT,Nat.reduceEqDiff,↓reduceIte,encN_len,Int.toNat_natCast,qah l i hlt,Nt.v,g,g0,c1,c3,c4,c5,c6,Bool.true_or]
  ·rw[hm,Bool.false_or]
   have hm2:¬(l[i].name=name∧(peer < 0∨l[i].peer=peer)∧l[i].app=app∧l[i].body=body):=by
    intro ⟨c1,c2,c3,c4⟩
    rw[show qfL name peer app body l[i]=true by simp[qfL,c1,c2,c3,c4]] at hm
    cases hm
   have fin1:∀r,fin trA 1118 [I name,I peer,I x1,I x2,I app,I x3,I x4,I body,B x5,B z,I (l.length:Int),I ((i+1:Nat):Int)] [qas l]=some r→r=(0,[],[])∨r=(1,[B true],[]):=fun r hr=>by
    rw[ih] at hr
    split at hr
    ·exact .inr (Option.some.inj hr).symm
    ·exact .inl (Option.some.inj hr).symm
   obtain⟨r,hr⟩:∃r,fin trA 1118 [I name,I peer,I x1,I x2,I app,I x3,I x4,I body,B x5,B z,I (l.length:Int),I ((i+1:Nat):Int)] [qas l]=some r:=⟨_,ih⟩
   rw[←ih,hr]
   by_cases c1:l[i].name=name<;>by_cases c5:peer < 0<;>by_cases c6:l[i].peer=peer<;>by_cases c3:l[i].app=app<;>by_cases c4:l[i].body=body <;>
   first
    | (exfalso;apply hm2;simp only[c1,c3,c4,c5,c6,true_or,or_true,and_self];done)
    | (rcases fin1 r hr with rfl | rfl<;>simp only[o93_0,qac,TT,Nat.reduceEqDiff,↓reduceIte,encN_len,Int.toNat_natCast,qah l i hlt,Nt.v,g,g0,c1,c3,c4,c5,c6,w,hr])
theorem i_hasN {l:List Nt} (hl:l.length≤1000) (name peer app body x1 x2 x3 x4:Int) (x5:Bool):fin trA 1119 [I name,I peer,I x1,I x2,I app,I x3,I x4,I body,B x5] [qas l]=some (0,[B (l.any (qfL name peer app body))],[]):=by
 have e:=i_hasN0 hl name peer app body x1 x2 x3 x4 x5 false l.length 0 (by omega)
 rw[show((0:Nat):Int)=0 from rfl,List.drop_zero] at e
 refine qaa trA ?_
 show o93.go _ _ _=_
 cases h:l.any (qfL name peer app body) with
 | true=>rw[h] at e;simp only[o93,qac,TT,Nat.reduceEqDiff,↓reduceIte,encN_len,e]
 | false=>rw[h] at e;simp only[o93,qac,TT,Nat.reduceEqDiff,↓reduceIte,encN_len,e]
def Two (x y:Option Res):Prop:=∃b:Bool,x=some (0,[B b],[])∧y=some (0,[B b],[])
def Two1 (x y:Option Res):Prop:=(x=some (0,[],[])∧y=some (0,[],[]))∨(x=some (1,[B false],[])∧y=some (1,[B false],[]))
section
variable {dn begun:List Nt} (hd:dn.length≤1000) (hb:begun.length≤1000) (x1 x2 x3 x4:Int) (r0 r1 r2 r3 r4 r5 r6 r7 r8 r9 r12 r13 r14:Rw)
include hd hb
theorem agreed0 (z:Bool):∀(n i:Nat),i+n=dn.length→Two1 (fin trA 350 [I 9,I x1,I x2,I x3,I x4,B z,I (dn.length:Int),I i] [r0,r1,r2,r3,r4,r5,r6,r7,r8,r9,qas begun,qas dn,r12,r13,r14]) (fin trA 410 [I 9,I x1,I x2,I x3,I x4,B z,I i] [r0,r1,r2,r3,r4,r5,r6,r7,r8,r9,qas begun,qas dn,r12,r13,r14])
 | 0,i,hi=>by
  have g:¬(i:Int) < (dn.length:Int):=by omega
  refine .inl ⟨qaa trA ?_,qaa trA ?_⟩
  ·show o29_0.go _ _ _=_
   simp only[o29_0,TT,Nat.reduceEqDiff,↓reduceIte,g]
  ·show o34_0.go _ _ _=_
   simp only[o34_0,TT,Nat.reduceEqDiff,↓reduceIte,encN_len,g]
 | n+1,i,hi=>by
  have ih:=agreed0 z n (i+1) (by omega)
  have hlt:i < dn.length:=by omega
  have g:(i:Int) < (dn.length:Int):=by omega
  have g0:(0:Int)≤(i:Int):=by omega
  have w:=qaB (i:=i) (n:=1000) (by omega) (by omega)
  cases hs:dn[i].safe with
  | false =>
   rcases ih with ⟨e1,e2⟩ | ⟨e1,e2⟩
   ·refine .inl ⟨qaa trA ?_,qaa trA ?_⟩
    ·show o29_0.go _ _ _=_
     simp only[o29_0,qac,TT,Nat.reduceEqDiff,↓reduceIte,encN_len,Int.toNat_natCast,qah dn i hlt,Nt.v,g,g0,hs,w,e1]
    ·show o34_0.go _ _ _=_
     simp only[o34_0,qac,TT,Nat.reduceEqDiff,↓reduceIte,encN_len,Int.toNat_natCast,qah dn i hlt,Nt.v,g,g0,hs,w,e2]
   ·refine .inr ⟨qaa trA ?_,qaa trA ?_⟩
    ·show o29_0.go _ _ _=_
     simp only[o29_0,qac,TT,Nat.reduceEqDiff,↓reduceIte,encN_len,Int.toNat_natCast,qah dn i hlt,Nt.v,g,g0,hs,w,e1]
    ·show o34_0.go _ _ _=_
     simp only[o34_0,qac,TT,Nat.reduceEqDiff,↓reduceIte,encN_len,Int.toNat_natCast,qah dn i hlt,Nt.v,g,g0,hs,w,e2]
  | true =>
   by_cases h9:dn[i].name=9
   ·have e3:=i_hasN hb dn[i].peer (-1) dn[i].app dn[i].body 9 dn[i].peer dn[i].epoch dn[i].seq true
    have e4:=f_has hb dn[i].peer (-1) dn[i].app dn[i].body
    cases hm:begun.any (qfL dn[i].peer (-1) dn[i].app dn[i].body) with
    | false =>
     rw[hm] at e3 e4
     refine .inr ⟨qaa trA ?_,qaa trA ?_⟩
     ·show o29_0.go _ _ _=_
      simp only[o29_0,qac,TT,Nat.reduceEqDiff,↓reduceIte,encN_len,Int.toNat_natCast,qah dn i hlt,Nt.v,g,g0,hs,h9,e3]
     ·show o34_0.go _ _ _=_
      simp only[o34_0,qac,TT,Nat.reduceEqDiff,↓reduceIte,encN_len,Int.toNat_natCast,qah dn i hlt,Nt.v,g,g0,hs,h9,e4]
    | true =>
     rw[hm] at e3 e4
     rcases ih with ⟨e1,e2⟩ | ⟨e1,e2⟩
     ·refine .inl ⟨qaa trA ?_,qaa trA ?_⟩
      ·show o29_0.go _ _ _=_
       simp only[o29_0,qac,TT,Nat.reduceEqDiff,↓reduceIte,encN_len,Int.toNat_natCast,qah dn i hlt,Nt.v,g,g0,hs,h9,e3,w,e1]
      ·show o34_0.go _ _ _=_
       simp only[o34_0,qac,TT,Nat.reduceEqDiff,↓reduceIte,encN_len,Int.toNat_natCast,qah dn i hlt,Nt.v,g,g0,hs,h9,e4,w,e2]
     ·refine .inr ⟨qaa trA ?_,qaa trA ?_⟩
      ·show o29_0.go _ _ _=_
       simp only[o29_0,qac,TT,Nat.reduceEqDiff,↓reduceIte,encN_len,Int.toNat_natCast,qah dn i hlt,Nt.v,g,g0,hs,h9,e3,w,e1]
      ·show o34_0.go _ _ _=_
       simp only[o34_0,qac,TT,Nat.reduceEqDiff,↓reduceIte,encN_len,Int.toNat_natCast,qah dn i hlt,Nt.v,g,g0,hs,h9,e4,w,e2]
   ·have e3:=i_hasN hd 9 dn[i].name dn[i].app dn[i].body dn[i].name dn[i].peer dn[i].epoch dn[i].seq true
    have e4:=f_has hd 9 dn[i].name dn[i].app dn[i].body
    cases hm:dn.any (qfL 9 dn[i].name dn[i].app dn[i].body) with
    | false =>
     rw[hm] at e3 e4
     refine .inr ⟨qaa trA ?_,qaa trA ?_⟩
     ·show o29_0.go _ _ _=_
      simp only[o29_0,qac,TT,Nat.reduceEqDiff,↓reduceIte,encN_len,Int.toNat_natCast,qah dn i hlt,Nt.v,g,g0,hs,h9,e3]
     ·show o34_0.go _ _ _=_
      simp only[o34_0,qac,TT,Nat.reduceEqDiff,↓reduceIte,encN_len,Int.toNat_natCast,qah dn i hlt,Nt.v,g,g0,hs,h9,e4]
    | true =>
     rw[hm] at e3 e4
     rcases ih with ⟨e1,e2⟩ | ⟨e1,e2⟩
     ·refine .inl ⟨qaa trA ?_,qaa trA ?_⟩
      ·show o29_0.go _ _ _=_
       simp only[o29_0,qac,TT,Nat.reduceEqDiff,↓reduceIte,encN_len,Int.toNat_natCast,qah dn i hlt,Nt.v,g,g0,hs,h9,e3,w,e1]
      ·show o34_0.go _ _ _=_
       simp only[o34_0,qac,TT,Nat.reduceEqDiff,↓reduceIte,encN_len,Int.toNat_natCast,qah dn i hlt,Nt.v,g,g0,hs,h9,e4,w,e2]
     ·refine .inr ⟨qaa trA ?_,qaa trA ?_⟩
      ·show o29_0.go _ _ _=_
       simp only[o29_0,qac,TT,Nat.reduceEqDiff,↓reduceIte,encN_len,Int.toNat_natCast,qah dn i hlt,Nt.v,g,g0,hs,h9,e3,w,e1]
      ·show o34_0.go _ _ _=_
       simp only[o34_0,qac,TT,Nat.reduceEqDiff,↓reduceIte,encN_len,Int.toNat_natCast,qah dn i hlt,Nt.v,g,g0,hs,h9,e4,w,e2]
theorem agreed:Two (fin trA 351 [I 9,I x1,I x2,I x3,I x4] [r0,r1,r2,r3,r4,r5,r6,r7,r8,r9,qas begun,qas dn,r12,r13,r14]) (fin trA 411 [I 9,I x1,I x2,I x3,I x4] [r0,r1,r2,r3,r4,r5,r6,r7,r8,r9,qas begun,qas dn,r12,r13,r14]):=by
 have e:=agreed0 hd hb x1 x2 x3 x4 r0 r1 r2 r3 r4 r5 r6 r7 r8 r9 r12 r13 r14 false dn.length 0 (by omega)
 rw[show((0:Nat):Int)=0 from rfl] at e
 rcases e with ⟨e1,e2⟩ | ⟨e1,e2⟩
 ·refine⟨true,qaa trA ?_,qaa trA ?_⟩
  ·show o29.go _ _ _=_
   simp only[o29,qac,TT,Nat.reduceEqDiff,↓reduceIte,encN_len,e1]
  ·show o34.go _ _ _=_
   simp only[o34,qac,TT,Nat.reduceEqDiff,↓reduceIte,encN_len,e2]
 ·refine⟨false,qaa trA ?_,qaa trA ?_⟩
  ·show o29.go _ _ _=_
   simp only[o29,qac,TT,Nat.reduceEqDiff,↓reduceIte,encN_len,e1]
  ·show o34.go _ _ _=_
   simp only[o34,qac,TT,Nat.reduceEqDiff,↓reduceIte,encN_len,e2]
end
def sentM (n m:Nt):Bool:=decide (m.name=n.peer)&&(decide (m.app=n.app)&&(decide (m.epoch=n.epoch)&&(decide (m.seq=n.seq)&&decide (m.body=n.body))))
theorem sentM_iff {n m:Nt}:sentM n m=true↔m.name=n.peer∧m.app=n.app∧m.epoch=n.epoch∧m.seq=n.seq∧m.body=n.body:=by
 simp[sentM]
section
variable {sent got:List Nt} (hs:sent.length≤1000) (hg:got.length≤1000) (x0 x1 x2 x3 x4:Int) (r0 r1 r2 r3 r4 r5 r6 r7 r8 r9 r10 r11 r14:Rw)
include hs hg
theorem i_cf2 (z:Bool) (n:Nt) (y1 y2 y3:Int):∀(d j:Nat) (b:Bool),j+d=sent.length→fin trA 362 [I x0,I x1,I x2,I x3,I x4,B z,I y1,I n.name,I n.peer,I n.app,I n.epoch,I n.seq,I n.body,B n.safe,B b,I y2,I y3,I (sent.length:Int),I j] [r0,r1,r2,r3,r4,r5,r6,r7,r8,r9,r10,r11,qas sent,qas got,r14]=some (0,[B (b||(sent.drop j).any (sentM n))],[])
 | 0,j,b,hj=>by
  refine qaa trA ?_
  show o30_2.go _ _ _=_
  have g:¬(j:Int) < (sent.length:Int):=by omega
  rw[List.drop_eq_nil_of_le (by omega)]
  simp only[o30_2,TT,Nat.reduceEqDiff,↓reduceIte,g,List.any_nil,Bool.or_false]
 | d+1,j,b,hj=>by
  have hlt:j < sent.length:=by omega
  have g:(j:Int) < (sent.length:Int):=by omega
  have g0:(0:Int)≤(j:Int):=by omega
  have w:=qaB (i:=j) (n:=1000) (by omega) (by omega)
  refine qaa trA ?_
  show o30_2.go _ _ _=_
  rw[List.drop_eq_getElem_cons hlt,List.any_cons]
  cases hm:sentM n sent[j] with
  | true =>
   obtain⟨c1,c2,c3,c4,c5⟩:=sentM_iff.1 hm
   have ih:=i_cf2 z n y1 y2 y3 d (j+1) true (by omega)
   simp only[o30_2,TT,Nat.reduceEqDiff,↓reduceIte,encN_len,Int.toNat_natCast,qah sent j hlt,Nt.v,g,g0,c1,c2,c3,c4,c5,w,ih,Bool.true_or,Bool.or_true]
  | false =>
   have hm2:¬(sent[j].name=n.peer∧sent[j].app=n.app∧sent[j].epoch=n.epoch∧sent[j].seq=n.seq∧sent[j].body=n.body):=fun h=>by rw[sentM_iff.2 h] at hm;cases hm
   have ih:=i_cf2 z n y1 y2 y3 d (j+1) b (by omega)
   rw[Bool.false_or]
   by_cases c1:sent[j].name=n.peer<;>by_cases c2:sent[j].app=n.app<;>by_cases c3:sent[j].epoch=n.epoch<;>by_cases c4:sent[j].seq=n.seq<;>by_cases c5:sent[j].body=n.body <;>
   first
    | (exfalso;apply hm2;simp only[c1,c2,c3,c4,c5,and_self];done)
    | simp only[o30_2,TT,Nat.reduceEqDiff,↓reduceIte,encN_len,Int.toNat_natCast,qah sent j hlt,Nt.v,g,g0,c1,c2,c3,c4,c5,w,ih]
theorem f_cf2 (z:Bool) (n:Nt) (y1:Int):∀(d j:Nat) (b:Bool),j+d=sent.length→fin trA 422 [I x0,I x1,I x2,I x3,I x4,B z,I y1,I n.name,I n.peer,I n.app,I n.epoch,I n.seq,I n.body,B n.safe,B b,I j] [r0,r1,r2,r3,r4,r5,r6,r7,r8,r9,r10,r11,qas sent,qas got,r14]=some (0,[B (b||(sent.drop j).any (sentM n))],[])
 | 0,j,b,hj=>by
  refine qaa trA ?_
  show o35_2.go _ _ _=_
  have g:¬(j:Int) < (sent.length:Int):=by omega
  rw[List.drop_eq_nil_of_le (by omega)]
  simp only[o35_2,TT,Nat.reduceEqDiff,↓reduceIte,encN_len,g,List.any_nil,Bool.or_false]
 | d+1,j,true,hj=>by
  have g:(j:Int) < (sent.length:Int):=by omega
  refine qaa trA ?_
  show o35_2.go _ _ _=_
  simp only[o35_2,TT,Nat.reduceEqDiff,↓reduceIte,encN_len,g,Bool.true_or]
 | d+1,j,false,hj=>by
  have hlt:j < sent.length:=by omega
  have g:(j:Int) < (sent.length:Int):=by omega
  have g0:(0:Int)≤(j:Int):=by omega
  have w:=qaB (i:=j) (n:=1000) (by omega) (by omega)
  refine qaa trA ?_
  show o35_2.go _ _ _=_
  rw[List.drop_eq_getElem_cons hlt,List.any_cons]
  cases hm:sentM n sent[j] with
  | true =>
   obtain⟨c1,c2,c3,c4,c5⟩:=sentM_iff.1 hm
   have ih:=f_cf2 z n y1 d (j+1) true (by omega)
   simp only[o35_2,TT,Nat.reduceEqDiff,↓reduceIte,encN_len,Int.toNat_natCast,qah sent j hlt,Nt.v,g,g0,c1,c2,c3,c4,c5,w,ih,Bool.true_or,Bool.or_true]
  | false =>
   have hm2:¬(sent[j].name=n.peer∧sent[j].app=n.app∧sent[j].epoch=n.epoch∧sent[j].seq=n.seq∧sent[j].body=n.body):=fun h=>by rw[sentM_iff.2 h] at hm;cases hm
   have ih:=f_cf2 z n y1 d (j+1) false (by omega)
   rw[Bool.false_or] at ih
   rw[Bool.false_or,Bool.false_or]
   by_cases c1:sent[j].name=n.peer<;>by_cases c2:sent[j].app=n.app<;>by_cases c3:sent[j].epoch=n.epoch<;>by_cases c4:sent[j].seq=n.seq<;>by_cases c5:sent[j].body=n.body <;>
   first
    | (exfalso;apply hm2;simp only[c1,c2,c3,c4,c5,and_self];done)
    | simp only[o35_2,TT,Nat.reduceEqDiff,↓reduceIte,encN_len,Int.toNat_natCast,qah sent j hlt,Nt.v,g,g0,c1,c2,c3,c4,c5,w,ih]
theorem cf4 (z : Bool) (n : Nt) (i : Nat) (hi : i < got.length) : ∀ (d j : Nat), j + d = i → Two1 (fin trA 363 [I x0, I x1, I x2, I x3, I x4, B z, I n.name, I n.peer, I n.app, I n.epoch, I n.seq, I n.body, B n.safe, I (got.length : Int), I i, I 0, I i, I i, I j] [r0, r1, r2, r3, r4, r5, r6, r7, r8, r9, r10, r11, qas sent, qas got, r14])
      (fin trA 423 [I x0, I x1, I x2, I x3, I x4, B z, I i, I n.name, I n.peer, I n.app, I n.epoch, I n.seq, I n.body, B n.safe, I j] [r0, r1, r2, r3, r4, r5, r6, r7, r8, r9, r10, r11, qas sent, qas got, r14])
  | 0, j, hj => by
    have g : ¬ (j : Int) < (i : Int) := by omega
    refine .inl ⟨qaa trA ?_, qaa trA ?_⟩
    · show o30_4.go _ _ _ = _
      simp only [o30_4, TT, Nat.reduceEqDiff, ↓reduceIte, g]
    · show o35_4.go _ _ _ = _
      simp only [o35_4, TT, Nat.reduceEqDiff, ↓reduceIte, g]
  | d + 1, j, hj => by
    have hlt : j < got.length := by omega
    have g : (j : Int) < (i : Int) := by omega
    have g2 : (j : Int) < (got.length : Int) := by omega
    have g0 : (0 : Int) ≤ (j : Int) := by omega
    have w := qaB (i := j) (n := 1000) (by omega) (by omega)
    have w0 : wr (0 + (j : Int)) = (j : Int) := by rw [qaj (by omega) (by omega)]; omega
    have ih := cf4 z n i hi d (j + 1) (by omega)
    by_cases c1 : got[j].name = n.name <;> by_cases c2 : got[j].app = n.app <;> by_cases c3 : got[j].epoch = n.epoch <;> by_cases c4 : got[j].seq = n.seq
    · refine .inr ⟨qaa trA ?_, qaa trA ?_⟩
      · show o30_4.go _ _ _ = _
        simp only [o30_4, TT, Nat.reduceEqDiff, ↓reduceIte, encN_len, w0, Int.toNat_natCast, qah got j hlt, Nt.v, g, g0, c1, c2, c3, c4]
      · show o35_4.go _ _ _ = _
        simp only [o35_4, TT, Nat.reduceEqDiff, ↓reduceIte, encN_len, Int.toNat_natCast, qah got j hlt, Nt.v, g, g0, g2, c1, c2, c3, c4]
    all_goals
      rcases ih with ⟨e1, e2⟩ | ⟨e1, e2⟩
      · refine .inl ⟨qaa trA ?_, qaa trA ?_⟩
        · show o30_4.go _ _ _ = _
          simp only [o30_4, qac, TT, Nat.reduceEqDiff, ↓reduceIte, encN_len, w0, Int.toNat_natCast, qah got j hlt, Nt.v, g, g0, c1, c2, c3, c4, w, e1]
        · show o35_4.go _ _ _ = _
          simp only [o35_4, qac, TT, Nat.reduceEqDiff, ↓reduceIte, encN_len, Int.toNat_natCast, qah got j hlt, Nt.v, g, g0, g2, c1, c2, c3, c4, w, e2]
      · refine .inr ⟨qaa trA ?_, qaa trA ?_⟩
        · show o30_4.go _ _ _ = _
          simp only [o30_4, qac, TT, Nat.reduceEqDiff, ↓reduceIte, encN_len, w0, Int.toNat_natCast, qah got j hlt, Nt.v, g, g0, c1, c2, c3, c4, w, e1]
        · show o35_4.go _ _ _ = _
          simp only [o35_4, qac, TT, Nat.reduceEqDiff, ↓reduceIte, encN_len, Int.toNat_natCast, qah got j hlt, Nt.v, g, g0, g2, c1, c2, c3, c4, w, e2]
theorem came0 (z:Bool):∀(n i:Nat),i+n=got.length→Two1 (fin trA 364 [I x0,I x1,I x2,I x3,I x4,B z,I (got.length:Int),I i] [r0,r1,r2,r3,r4,r5,r6,r7,r8,r9,r10,r11,qas sent,qas got,r14]) (fin trA 424 [I x0,I x1,I x2,I x3,I x4,B z,I i] [r0,r1,r2,r3,r4,r5,r6,r7,r8,r9,r10,r11,qas sent,qas got,r14])
 | 0,i,hi=>by
  have g:¬(i:Int) < (got.length:Int):=by omega
  refine .inl ⟨qaa trA ?_,qaa trA ?_⟩
  ·show o30_0.go _ _ _=_
   simp only[o30_0,TT,Nat.reduceEqDiff,↓reduceIte,g]
  ·show o35_0.go _ _ _=_
   simp only[o35_0,TT,Nat.reduceEqDiff,↓reduceIte,encN_len,g]
 | n+1,i,hi=>by
  have ih:=came0 z n (i+1) (by omega)
  have hlt:i < got.length:=by omega
  have g:(i:Int) < (got.length:Int):=by omega
  have g1:(i:Int)≤(got.length:Int):=by omega
  have g0:(0:Int)≤(i:Int):=by omega
  have w:=qaB (i:=i) (n:=1000) (by omega) (by omega)
  have w0:wr ((i:Int) - 0)=(i:Int):=by rw[qaj (by omega) (by omega)];omega
  have a1:=i_cf2 hs hg x0 x1 x2 x3 x4 r0 r1 r2 r3 r4 r5 r6 r7 r8 r9 r10 r11 r14 z got[i] i got.length i sent.length 0 false (by omega)
  have a2:=fun b=>f_cf2 hs hg x0 x1 x2 x3 x4 r0 r1 r2 r3 r4 r5 r6 r7 r8 r9 r10 r11 r14 z got[i] i sent.length 0 b (by omega)
  have a3:=cf4 hs hg x0 x1 x2 x3 x4 r0 r1 r2 r3 r4 r5 r6 r7 r8 r9 r10 r11 r14 z got[i] i hlt i 0 (by omega)
  simp only[show((0:Nat):Int)=0 from rfl,List.drop_zero,Bool.false_or] at a1 a2 a3
  cases hsf:got[i].safe with
  | false =>
   rw[hsf] at a1 a2 a3
   have a4:=a2 true
   rw[Bool.true_or] at a4
   rcases a3 with ⟨b1,b2⟩ | ⟨b1,b2⟩
   ·rcases ih with ⟨e1,e2⟩ | ⟨e1,e2⟩
    ·refine .inl ⟨qaa trA ?_,qaa trA ?_⟩
     ·show o30_0.go _ _ _=_
      simp only[o30_0,qac,TT,Nat.reduceEqDiff,↓reduceIte,encN_len,Int.toNat_natCast,qah got i hlt,Nt.v,g,g0,g1,hsf,a1,w0,Int.le_refl,b1,w,e1]
     ·show o35_0.go _ _ _=_
      simp only[o35_0,qac,TT,Nat.reduceEqDiff,↓reduceIte,encN_len,Int.toNat_natCast,qah got i hlt,Nt.v,g,g0,hsf,a4,b2,w,e2]
    ·refine .inr ⟨qaa trA ?_,qaa trA ?_⟩
     ·show o30_0.go _ _ _=_
      simp only[o30_0,qac,TT,Nat.reduceEqDiff,↓reduceIte,encN_len,Int.toNat_natCast,qah got i hlt,Nt.v,g,g0,g1,hsf,a1,w0,Int.le_refl,b1,w,e1]
     ·show o35_0.go _ _ _=_
      simp only[o35_0,qac,TT,Nat.reduceEqDiff,↓reduceIte,encN_len,Int.toNat_natCast,qah got i hlt,Nt.v,g,g0,hsf,a4,b2,w,e2]
   ·refine .inr ⟨qaa trA ?_,qaa trA ?_⟩
    ·show o30_0.go _ _ _=_
     simp only[o30_0,qac,TT,Nat.reduceEqDiff,↓reduceIte,encN_len,Int.toNat_natCast,qah got i hlt,Nt.v,g,g0,g1,hsf,a1,w0,Int.le_refl,b1]
    ·show o35_0.go _ _ _=_
     simp only[o35_0,qac,TT,Nat.reduceEqDiff,↓reduceIte,encN_len,Int.toNat_natCast,qah got i hlt,Nt.v,g,g0,hsf,a4,b2]
  | true =>
   rw[hsf] at a1 a2 a3
   have a4:=a2 false
   rw[Bool.false_or] at a4
   cases hm:sent.any (sentM got[i]) with
   | false =>
    rw[hm] at a1 a4
    refine .inr ⟨qaa trA ?_,qaa trA ?_⟩
    ·show o30_0.go _ _ _=_
     simp only[o30_0,qac,TT,Nat.reduceEqDiff,↓reduceIte,encN_len,Int.toNat_natCast,qah got i hlt,Nt.v,g,g0,hsf,a1]
    ·show o35_0.go _ _ _=_
     simp only[o35_0,qac,TT,Nat.reduceEqDiff,↓reduceIte,encN_len,Int.toNat_natCast,qah got i hlt,Nt.v,g,g0,hsf,a4]
   | true =>
    rw[hm] at a1 a4
    rcases a3 with ⟨b1,b2⟩ | ⟨b1,b2⟩
    ·rcases ih with ⟨e1,e2⟩ | ⟨e1,e2⟩
     ·refine .inl ⟨qaa trA ?_,qaa trA ?_⟩
      ·show o30_0.go _ _ _=_
       simp only[o30_0,qac,TT,Nat.reduceEqDiff,↓reduceIte,encN_len,Int.toNat_natCast,qah got i hlt,Nt.v,g,g0,g1,hsf,a1,w0,Int.le_refl,b1,w,e1]
      ·show o35_0.go _ _ _=_
       simp only[o35_0,qac,TT,Nat.reduceEqDiff,↓reduceIte,encN_len,Int.toNat_natCast,qah got i hlt,Nt.v,g,g0,hsf,a4,b2,w,e2]
     ·refine .inr ⟨qaa trA ?_,qaa trA ?_⟩
      ·show o30_0.go _ _ _=_
       simp only[o30_0,qac,TT,Nat.reduceEqDiff,↓reduceIte,encN_len,Int.toNat_natCast,qah got i hlt,Nt.v,g,g0,g1,hsf,a1,w0,Int.le_refl,b1,w,e1]
      ·show o35_0.go _ _ _=_
       simp only[o35_0,qac,TT,Nat.reduceEqDiff,↓reduceIte,encN_len,Int.toNat_natCast,qah got i hlt,Nt.v,g,g0,hsf,a4,b2,w,e2]
    ·refine .inr ⟨qaa trA ?_,qaa trA ?_⟩
     ·show o30_0.go _ _ _=_
      simp only[o30_0,qac,TT,Nat.reduceEqDiff,↓reduceIte,encN_len,Int.toNat_natCast,qah got i hlt,Nt.v,g,g0,g1,hsf,a1,w0,Int.le_refl,b1]
     ·show o35_0.go _ _ _=_
      simp only[o35_0,qac,TT,Nat.reduceEqDiff,↓reduceIte,encN_len,Int.toNat_natCast,qah got i hlt,Nt.v,g,g0,hsf,a4,b2]
theorem came:Two (fin trA 365 [I x0,I x1,I x2,I x3,I x4] [r0,r1,r2,r3,r4,r5,r6,r7,r8,r9,r10,r11,qas sent,qas got,r14]) (fin trA 425 [I x0,I x1,I x2,I x3,I x4] [r0,r1,r2,r3,r4,r5,r6,r7,r8,r9,r10,r11,qas sent,qas got,r14]):=by
 have e:=came0 hs hg x0 x1 x2 x3 x4 r0 r1 r2 r3 r4 r5 r6 r7 r8 r9 r10 r11 r14 false got.length 0 (by omega)
 rw[show((0:Nat):Int)=0 from rfl] at e
 rcases e with ⟨e1,e2⟩ | ⟨e1,e2⟩
 ·refine⟨true,qaa trA ?_,qaa trA ?_⟩
  ·show o30.go _ _ _=_
   simp only[o30,qac,TT,Nat.reduceEqDiff,↓reduceIte,encN_len,e1]
  ·show o35.go _ _ _=_
   simp only[o35,qac,TT,Nat.reduceEqDiff,↓reduceIte,encN_len,e2]
 ·refine⟨false,qaa trA ?_,qaa trA ?_⟩
  ·show o30.go _ _ _=_
   simp only[o30,qac,TT,Nat.reduceEqDiff,↓reduceIte,encN_len,e1]
  ·show o35.go _ _ _=_
   simp only[o35,qac,TT,Nat.reduceEqDiff,↓reduceIte,encN_len,e2]
end
section
variable {dn:List Nt} (hd:dn.length≤1000) {hs:List Bool} (hh:hs.length≤3000) (x0 x1 x2 x3 x4:Int) (r0 r1 r2 r3 r4 r5 r6 r7 r8 r9 r10 r12 r13 r14:Rw)
include hd hh
theorem secret0 (z : Bool) : ∀ (n i : Nat), i + n = dn.length → (fin trA 338 [B z, I (dn.length : Int), I i] [qaQ hs, qas dn] = some (0, [], []) ∧ fin trA 434 [I x0, I x1, I x2, I x3, I x4, B z, I i] [r0, r1, r2, r3, r4, r5, r6, r7, r8, r9, r10, qas dn, r12, r13, r14, qaQ hs] = some (0, [], [])) ∨
      (fin trA 338 [B z, I (dn.length : Int), I i] [qaQ hs, qas dn] = some (1, [], []) ∧ fin trA 434 [I x0, I x1, I x2, I x3, I x4, B z, I i] [r0, r1, r2, r3, r4, r5, r6, r7, r8, r9, r10, qas dn, r12, r13, r14, qaQ hs] = some (1, [B false], []))
  | 0, i, hi => by
    have g : ¬ (i : Int) < (dn.length : Int) := by omega
    refine .inl ⟨qaa trA ?_, qaa trA ?_⟩
    · show o28_0.go _ _ _ = _
      simp only [o28_0, TT, Nat.reduceEqDiff, ↓reduceIte, g]
    · show o36_0.go _ _ _ = _
      simp only [o36_0, TT, Nat.reduceEqDiff, ↓reduceIte, encN_len, g]
  | n + 1, i, hi => by
    have ih := secret0 z n (i + 1) (by omega)
    have hlt : i < dn.length := by omega
    have g : (i : Int) < (dn.length : Int) := by omega
    have g0 : (0 : Int) ≤ (i : Int) := by omega
    have w := qaB (i := i) (n := 1000) (by omega) (by omega)
    have wl : wr ((hs.length : Int) - 1) = (hs.length : Int) - 1 := qaj (by omega) (by omega)
    have a1 := i_in dn[i].app 0 ((hs.length : Int) - 1)
    have a2 := f_in dn[i].app 0 ((hs.length : Int) - 1)
    have go : (dn[i].safe = true → ∀ b, inB dn[i].app 0 ((hs.length : Int) - 1) = b → b = true → ∀ c, hasAt hs dn[i].app = c → c = false) → ((fin trA 338 [B z, I (dn.length : Int), I i] [qaQ hs, qas dn] = some (0, [], []) ∧ fin trA 434 [I x0, I x1, I x2, I x3, I x4, B z, I i] [r0, r1, r2, r3, r4, r5, r6, r7, r8, r9, r10, qas dn, r12, r13, r14, qaQ hs] = some (0, [], [])) ∨
      (fin trA 338 [B z, I (dn.length : Int), I i] [qaQ hs, qas dn] = some (1, [], []) ∧ fin trA 434 [I x0, I x1, I x2, I x3, I x4, B z, I i] [r0, r1, r2, r3, r4, r5, r6, r7, r8, r9, r10, qas dn, r12, r13, r14, qaQ hs] = some (1, [B false], []))) := by
      intro hc
      cases hsf : dn[i].safe with
      | false =>
        rcases ih with ⟨e1, e2⟩ | ⟨e1, e2⟩
        · refine .inl ⟨qaa trA ?_, qaa trA ?_⟩
          · show o28_0.go _ _ _ = _
            simp only [o28_0, qac, TT, Nat.reduceEqDiff, ↓reduceIte, encN_len, Int.toNat_natCast, qah dn i hlt, Nt.v, g, g0, hsf, w, e1]
          · show o36_0.go _ _ _ = _
            simp only [o36_0, qac, TT, Nat.reduceEqDiff, ↓reduceIte, encN_len, Int.toNat_natCast, qah dn i hlt, Nt.v, g, g0, hsf, w, e2]
        · refine .inr ⟨qaa trA ?_, qaa trA ?_⟩
          · show o28_0.go _ _ _ = _
            simp only [o28_0, qac, TT, Nat.reduceEqDiff, ↓reduceIte, encN_len, Int.toNat_natCast, qah dn i hlt, Nt.v, g, g0, hsf, w, e1]
          · show o36_0.go _ _ _ = _
            simp only [o36_0, qac, TT, Nat.reduceEqDiff, ↓reduceIte, encN_len, Int.toNat_natCast, qah dn i hlt, Nt.v, g, g0, hsf, w, e2]
      | true =>
        cases hb : inB dn[i].app 0 ((hs.length : Int) - 1) with
        | false =>
          rw [hb] at a1 a2
          rcases ih with ⟨e1, e2⟩ | ⟨e1, e2⟩
          · refine .inl ⟨qaa trA ?_, qaa trA ?_⟩
            · show o28_0.go _ _ _ = _
              simp only [o28_0, qac, TT, Nat.reduceEqDiff, ↓reduceIte, encN_len, encBo_len, Int.toNat_natCast, qah dn i hlt, Nt.v, g, g0, hsf, wl, a1, w, e1]
            · show o36_0.go _ _ _ = _
              simp only [o36_0, qac, TT, Nat.reduceEqDiff, ↓reduceIte, encN_len, encBo_len, Int.toNat_natCast, qah dn i hlt, Nt.v, g, g0, hsf, wl, a2, w, e2]
          · refine .inr ⟨qaa trA ?_, qaa trA ?_⟩
            · show o28_0.go _ _ _ = _
              simp only [o28_0, qac, TT, Nat.reduceEqDiff, ↓reduceIte, encN_len, encBo_len, Int.toNat_natCast, qah dn i hlt, Nt.v, g, g0, hsf, wl, a1, w, e1]
            · show o36_0.go _ _ _ = _
              simp only [o36_0, qac, TT, Nat.reduceEqDiff, ↓reduceIte, encN_len, encBo_len, Int.toNat_natCast, qah dn i hlt, Nt.v, g, g0, hsf, wl, a2, w, e2]
        | true =>
          have hr : 0 ≤ dn[i].app ∧ dn[i].app < (hs.length : Int) := by simp [inB] at hb; omega
          have q := qaO hs hr.1 hr.2
          have hf := hc hsf _ hb rfl _ rfl
          rw [hb] at a1 a2
          rcases ih with ⟨e1, e2⟩ | ⟨e1, e2⟩
          · refine .inl ⟨qaa trA ?_, qaa trA ?_⟩
            · show o28_0.go _ _ _ = _
              simp only [o28_0, qac, TT, Nat.reduceEqDiff, ↓reduceIte, encN_len, encBo_len, Int.toNat_natCast, qah dn i hlt, Nt.v, g, g0, hsf, wl, a1, hr.1, hr.2, q, hf, w, e1]
            · show o36_0.go _ _ _ = _
              simp only [o36_0, qac, TT, Nat.reduceEqDiff, ↓reduceIte, encN_len, encBo_len, Int.toNat_natCast, qah dn i hlt, Nt.v, g, g0, hsf, wl, a2, hr.1, hr.2, q, hf, w, e2]
          · refine .inr ⟨qaa trA ?_, qaa trA ?_⟩
            · show o28_0.go _ _ _ = _
              simp only [o28_0, qac, TT, Nat.reduceEqDiff, ↓reduceIte, encN_len, encBo_len, Int.toNat_natCast, qah dn i hlt, Nt.v, g, g0, hsf, wl, a1, hr.1, hr.2, q, hf, w, e1]
            · show o36_0.go _ _ _ = _
              simp only [o36_0, qac, TT, Nat.reduceEqDiff, ↓reduceIte, encN_len, encBo_len, Int.toNat_natCast, qah dn i hlt, Nt.v, g, g0, hsf, wl, a2, hr.1, hr.2, q, hf, w, e2]
    by_cases hc : dn[i].safe = true ∧ inB dn[i].app 0 ((hs.length : Int) - 1) = true ∧ hasAt hs dn[i].app = true
    · obtain ⟨c1, c2, c3⟩ := hc
      have hr : 0 ≤ dn[i].app ∧ dn[i].app < (hs.length : Int) := by simp [inB] at c2; omega
      have q := qaO hs hr.1 hr.2
      rw [c2] at a1 a2
      refine .inr ⟨qaa trA ?_, qaa trA ?_⟩
      · show o28_0.go _ _ _ = _
        simp only [o28_0, qac, TT, Nat.reduceEqDiff, ↓reduceIte, encN_len, encBo_len, Int.toNat_natCast, qah dn i hlt, Nt.v, g, g0, c1, wl, a1, hr.1, hr.2, q, c3]
      · show o36_0.go _ _ _ = _
        simp only [o36_0, qac, TT, Nat.reduceEqDiff, ↓reduceIte, encN_len, encBo_len, Int.toNat_natCast, qah dn i hlt, Nt.v, g, g0, c1, wl, a2, hr.1, hr.2, q, c3]
    · refine go fun h1 b h2 h3 c h4 => ?_
      cases c with
      | false => rfl
      | true => exact absurd ⟨h1, h2.trans h3, h4⟩ hc
end
theorem secret {a:Ar} (ha:AOk a) (hao:fin trA 1142 [] [qag a]=some (0,[B true],[])) {known:List Int} (hk:known.length≤100000) {dn:List Nt} (hd:dn.length≤1000) (x0 x1 x2 x3 x4:Int) (r1 r2 r3 r4 r5 r6 r7 r9 r10 r12 r13 r14:Rw) :
  Two (fin trA 339 [I x0,I x1,I x2,I x3,I x4] [qag a,r1,r2,r3,r4,r5,r6,r7,qak known,r9,r10,qas dn,r12,r13,r14]) (fin trA 435 [I x0,I x1,I x2,I x3,I x4] [qag a,r1,r2,r3,r4,r5,r6,r7,qak known,r9,r10,qas dn,r12,r13,r14]):=by
 obtain⟨ps,hs,e1,h1⟩:=i_reach ha hao hk
 obtain⟨ps',hs',e2,h2⟩:=f_l05 ha hk
 obtain rfl:=h1.same ha h2
 have e0:=qeC ha
 have e3:fin trA 1178 [] [qag a,qak known]=some (0,[],[qaQ hs]):=by
  refine qaa trA ?_
  show o98.go _ _ _=_
  simp only[o98,TT,Nat.reduceEqDiff,↓reduceIte,e0,e2]
 have few:=ha.few
 have e:=secret0 hd (hs:=hs) (by rw[h1.len];exact few) x0 x1 x2 x3 x4 (qag a) r1 r2 r3 r4 r5 r6 r7 (qak known) r9 r10 r12 r13 r14 false dn.length 0 (by omega)
 rw[show((0:Nat):Int)=0 from rfl] at e
 rcases e with ⟨q1,q2⟩ | ⟨q1,q2⟩
 ·refine⟨true,qaa trA ?_,qaa trA ?_⟩
  ·show o28.go _ _ _=_
   simp only[o28,qac,TT,Nat.reduceEqDiff,↓reduceIte,encN_len,e1,q1]
  ·show o36.go _ _ _=_
   simp only[o36,qac,TT,Nat.reduceEqDiff,↓reduceIte,encN_len,e3,q2]
 ·refine⟨false,qaa trA ?_,qaa trA ?_⟩
  ·show o28.go _ _ _=_
   simp only[o28,qac,TT,Nat.reduceEqDiff,↓reduceIte,encN_len,e1,q1]
  ·show o36.go _ _ _=_
   simp only[o36,qac,TT,Nat.reduceEqDiff,↓reduceIte,encN_len,e3,q2]
theorem winOk2 (top seen:Int):Two (fin trA 1610 [I top,I seen] []) (fin trA 2522 [I top,I seen] []):=by
 cases g1:inB top (-1) 9999 with
 | false =>
  refine⟨false,qaa trA ?_,qaa trA ?_⟩
  ·show o134.go _ _ _=_
   simp only[o134,TT,Nat.reduceEqDiff,↓reduceIte,i_in,g1]
  ·show o210.go _ _ _=_
   simp only[o210,TT,Nat.reduceEqDiff,↓reduceIte,f_in,g1]
 | true =>
  cases g2:inB seen 0 65535 with
  | false =>
   refine⟨false,qaa trA ?_,qaa trA ?_⟩
   ·show o134.go _ _ _=_
    simp only[o134,TT,Nat.reduceEqDiff,↓reduceIte,i_in,g1,g2]
   ·show o210.go _ _ _=_
    simp only[o210,TT,Nat.reduceEqDiff,↓reduceIte,f_in,g1,g2]
  | true =>
   have b1:-1≤top∧top≤9999:=by simp[inB] at g1;omega
   by_cases g3:top=-1
   ·subst g3
    have g4:(-1:Int) < 0:=by omega
    refine⟨decide (seen=0),qaa trA ?_,qaa trA ?_⟩
    ·show o134.go _ _ _=_
     simp only[o134,TT,Nat.reduceEqDiff,↓reduceIte,i_in,g1,g2]
    ·show o210.go _ _ _=_
     simp only[o210,TT,Nat.reduceEqDiff,↓reduceIte,f_in,g1,g2,g4]
   ·have g4:¬top < 0:=by omega
    by_cases g5:seen.tmod 2=1
    ·by_cases g6:15≤top
     ·refine⟨true,qaa trA ?_,qaa trA ?_⟩
      ·show o134.go _ _ _=_
       simp only[o134,TT,Nat.reduceEqDiff,↓reduceIte,i_in,g1,g2,g3,g5,ge_iff_le,g6]
      ·show o210.go _ _ _=_
       simp only[o210,TT,Nat.reduceEqDiff,↓reduceIte,f_in,g1,g2,g4,g5,ge_iff_le,g6]
     ·obtain⟨t,rfl⟩:∃t:Nat,top=t:=⟨top.toNat,by omega⟩
      have e:wr ((t:Int)+1)=((t+1:Nat):Int):=by rw[qaj (by omega) (by omega)];omega
      have g7:(0:Int)≤((t+1:Nat):Int):=by omega
      have e2:=fun k=>qdN k (n:=t+1) (by omega)
      have e3:=qfU (n:=t+1) (by omega)
      refine⟨decide (seen < ((2 ^ (t+1):Nat):Int)),qaa trA ?_,qaa trA ?_⟩
      ·show o134.go _ _ _=_
       simp only[o134,TT,Nat.reduceEqDiff,↓reduceIte,i_in,g1,g2,g3,g5,ge_iff_le,g6,e,g7,e2]
      ·show o210.go _ _ _=_
       simp only[o210,TT,Nat.reduceEqDiff,↓reduceIte,f_in,g1,g2,g4,g5,ge_iff_le,g6,e,e3,g7,e2]
    ·refine⟨false,qaa trA ?_,qaa trA ?_⟩
     ·show o134.go _ _ _=_
      simp only[o134,TT,Nat.reduceEqDiff,↓reduceIte,i_in,g1,g2,g3,g5]
     ·show o210.go _ _ _=_
      simp only[o210,TT,Nat.reduceEqDiff,↓reduceIte,f_in,g1,g2,g4,g5]
theorem nodeOk_has {a:Ar} (ha:AOk a) (x:Int):qgL a x=decide (0≤x∧x < (a.length:Int)):=by
 by_cases h:0≤x∧x < (a.length:Int)
 ·rw[decide_eq_true h]
  have hl:x.toNat < a.length:=by omega
  have hr:=ha.right x.toNat _ (List.getElem?_eq_getElem hl)
  unfold qgL ndAt
  rw[if_pos h.1,List.getElem?_eq_getElem hl]
  rw[show((x.toNat:Nat):Int)=x by omega] at hr
  exact hr
 ·rw[decide_eq_false h]
  unfold qgL ndAt
  by_cases h0:0≤x
  ·rw[if_pos h0,List.getElem?_eq_none (by omega)]
  ·rw[if_neg h0]
theorem chanOk2 {a:Ar} (ha:AOk a) (c:Ch):Two (fin trA 854 [I c.app,I c.side,I c.ep,I c.seq,I c.heard,I c.nt,I c.ns,I c.lt,I c.ls] [qag a]) (fin trA 1958 [I c.app,I c.side,I c.ep,I c.seq,I c.heard,I c.nt,I c.ns,I c.lt,I c.ls] [qag a]):=by
 have e1:=i_has a c.app ha.le
 have e2:=qdC a c.app ha.le
 rw[nodeOk_has ha] at e2
 obtain⟨bn,n1,n2⟩:=winOk2 c.nt c.ns
 obtain⟨bl,l1,l2⟩:=winOk2 c.lt c.ls
 generalize decide (0≤c.app∧c.app < (a.length:Int))=b0 at e1 e2
 cases b0 with
 | false =>
  refine⟨false,qaa trA ?_,qaa trA ?_⟩
  ·show o71.go _ _ _=_
   simp only[o71,TT,Nat.reduceEqDiff,↓reduceIte,e1]
  ·show o163.go _ _ _=_
   simp only[o163,TT,Nat.reduceEqDiff,↓reduceIte,e2]
 | true =>
  cases b1:inB c.side 1 2 with
  | false =>
   refine⟨false,qaa trA ?_,qaa trA ?_⟩
   ·show o71.go _ _ _=_
    simp only[o71,TT,Nat.reduceEqDiff,↓reduceIte,e1,i_in,b1]
   ·show o163.go _ _ _=_
    simp only[o163,TT,Nat.reduceEqDiff,↓reduceIte,e2,f_in,b1]
  | true =>
   cases b2:inB (c.ep:Int) 0 8<;>cases b3:inB (c.heard:Int) 0 8<;>cases b4:inB (c.seq:Int) 0 10000
   all_goals try
    refine⟨false,qaa trA ?_,qaa trA ?_⟩
    ·show o71.go _ _ _=_
     simp only[o71,TT,Nat.reduceEqDiff,↓reduceIte,e1,i_in,b1,b2,b3,b4]
     done
    ·show o163.go _ _ _=_
     simp only[o163,TT,Nat.reduceEqDiff,↓reduceIte,e2,f_in,b1,b2,b3,b4]
     done
   cases bn with
   | false =>
    refine⟨false,qaa trA ?_,qaa trA ?_⟩
    ·show o71.go _ _ _=_
     simp only[o71,TT,Nat.reduceEqDiff,↓reduceIte,e1,i_in,b1,b2,b3,b4,n1]
    ·show o163.go _ _ _=_
     simp only[o163,TT,Nat.reduceEqDiff,↓reduceIte,e2,f_in,b1,b2,b3,b4,n2]
   | true =>
    refine⟨bl,qaa trA ?_,qaa trA ?_⟩
    ·show o71.go _ _ _=_
     simp only[o71,TT,Nat.reduceEqDiff,↓reduceIte,e1,i_in,b1,b2,b3,b4,n1,l1]
    ·show o163.go _ _ _=_
     simp only[o163,TT,Nat.reduceEqDiff,↓reduceIte,e2,f_in,b1,b2,b3,b4,n2,l2]
theorem i_sessX {l:List Se} (hl:l.length≤100) (cid y z w:Int) (r1 r2 r3:Rw):fin trA 843 [I y,I z,I w,I cid] [qax l,r1,r2,r3]=some (0,[I (ixI (qbU l cid))],[]):=by
 have e:=i_sessAt0 hl cid 0 l.length 0 (by omega)
 rw[show((0:Nat):Int)=0 from rfl,List.drop_zero] at e
 refine qaa trA ?_
 show o70.go _ _ _=_
 cases hs:sessFrom cid l 0 with
 | none =>
  rw[hs] at e
  rw[show qbU l cid=none from hs]
  simp only[o70,qac,TT,Nat.reduceEqDiff,↓reduceIte,qad,e,ixI]
 | some j =>
  rw[hs] at e
  rw[show qbU l cid=some j from hs]
  simp only[o70,qac,TT,Nat.reduceEqDiff,↓reduceIte,qad,e,ixI]
theorem pool2 {l:List Le} (hl:l.length≤100) (z:Bool) (i:Nat) (hi:i < l.length):∀(d j:Nat),j+d=i→Two1 (fin trA 866 [B z,I l[i].place,I l[i].cid,I (l.length:Int),I i,I 0,I i,I i,I j] [qaI l]) (fin trA 1934 [B z,I i,I j] [qaI l])
 | 0,j,hj=>by
  have g:¬(j:Int) < (i:Int):=by omega
  refine .inl ⟨qaa trA ?_,qaa trA ?_⟩
  ·show o72_2.go _ _ _=_
   simp only[o72_2,TT,Nat.reduceEqDiff,↓reduceIte,g]
  ·show o161_2.go _ _ _=_
   simp only[o161_2,TT,Nat.reduceEqDiff,↓reduceIte,g]
 | d+1,j,hj=>by
  have hlt:j < l.length:=by omega
  have g:(j:Int) < (i:Int):=by omega
  have g2:(j:Int) < (l.length:Int):=by omega
  have g3:(i:Int) < (l.length:Int):=by omega
  have g0:(0:Int)≤(j:Int):=by omega
  have g4:(0:Int)≤(i:Int):=by omega
  have w:=qaB (i:=j) (n:=1000) (by omega) (by omega)
  have w0:wr (0+(j:Int))=(j:Int):=by rw[qaj (by omega) (by omega)];omega
  have ih:=pool2 hl z i hi d (j+1) (by omega)
  by_cases c1:l[j].cid=l[i].cid
  ·refine .inr ⟨qaa trA ?_,qaa trA ?_⟩
   ·show o72_2.go _ _ _=_
    simp only[o72_2,TT,Nat.reduceEqDiff,↓reduceIte,qai,w0,Int.toNat_natCast,qap l j hlt,Le.v,g,g0,c1]
   ·show o161_2.go _ _ _=_
    simp only[o161_2,TT,Nat.reduceEqDiff,↓reduceIte,qai,Int.toNat_natCast,qap l j hlt,qap l i hi,Le.v,g,g0,g2,g3,g4,c1]
  ·rcases ih with ⟨e1,e2⟩ | ⟨e1,e2⟩
   ·refine .inl ⟨qaa trA ?_,qaa trA ?_⟩
    ·show o72_2.go _ _ _=_
     simp only[o72_2,qac,TT,Nat.reduceEqDiff,↓reduceIte,qai,w0,Int.toNat_natCast,qap l j hlt,Le.v,g,g0,c1,w,e1]
    ·show o161_2.go _ _ _=_
     simp only[o161_2,qac,TT,Nat.reduceEqDiff,↓reduceIte,qai,Int.toNat_natCast,qap l j hlt,qap l i hi,Le.v,g,g0,g2,g3,g4,c1,w,e2]
   ·refine .inr ⟨qaa trA ?_,qaa trA ?_⟩
    ·show o72_2.go _ _ _=_
     simp only[o72_2,qac,TT,Nat.reduceEqDiff,↓reduceIte,qai,w0,Int.toNat_natCast,qap l j hlt,Le.v,g,g0,c1,w,e1]
    ·show o161_2.go _ _ _=_
     simp only[o161_2,qac,TT,Nat.reduceEqDiff,↓reduceIte,qai,Int.toNat_natCast,qap l j hlt,qap l i hi,Le.v,g,g0,g2,g3,g4,c1,w,e2]
theorem pool0 {l:List Le} (hl:l.length≤100) (z:Bool):∀(d i:Nat),i+d=l.length→Two1 (fin trA 867 [B z,I (l.length:Int),I i] [qaI l]) (fin trA 1935 [B z,I i] [qaI l])
 | 0,i,hi=>by
  have g:¬(i:Int) < (l.length:Int):=by omega
  refine .inl ⟨qaa trA ?_,qaa trA ?_⟩
  ·show o72_0.go _ _ _=_
   simp only[o72_0,TT,Nat.reduceEqDiff,↓reduceIte,g]
  ·show o161_0.go _ _ _=_
   simp only[o161_0,TT,Nat.reduceEqDiff,↓reduceIte,qai,g]
 | d+1,i,hi=>by
  have hlt:i < l.length:=by omega
  have g:(i:Int) < (l.length:Int):=by omega
  have g1:(i:Int)≤(l.length:Int):=by omega
  have g0:(0:Int)≤(i:Int):=by omega
  have w:=qaB (i:=i) (n:=1000) (by omega) (by omega)
  have w0:wr ((i:Int) - 0)=(i:Int):=by rw[qaj (by omega) (by omega)];omega
  have ih:=pool0 hl z d (i+1) (by omega)
  have a3:=pool2 hl z i hlt i 0 (by omega)
  simp only[show((0:Nat):Int)=0 from rfl] at a3
  cases b1:inB l[i].place 10 12 with
  | false =>
   refine .inr ⟨qaa trA ?_,qaa trA ?_⟩
   ·show o72_0.go _ _ _=_
    simp only[o72_0,qac,TT,Nat.reduceEqDiff,↓reduceIte,qai,Int.toNat_natCast,qap l i hlt,Le.v,g,g0,i_in,b1]
   ·show o161_0.go _ _ _=_
    simp only[o161_0,qac,TT,Nat.reduceEqDiff,↓reduceIte,qai,Int.toNat_natCast,qap l i hlt,Le.v,g,g0,f_in,b1]
  | true =>
   cases i with
   | zero =>
    have n0:¬(0:Int) < 0:=by omega
    have g:(0:Int) < (l.length:Int):=by omega
    have w1:wr (0+1)=((0+1:Nat):Int):=w
    have w2:wr (0 - 0)=0:=w0
    have g2:(0:Int)≤(l.length:Int):=by omega
    have eg:(qaI l).getD 0 []=(l[0]).v:=qap l 0 hlt
    simp only[show((0:Nat):Int)=0 from rfl] at a3 ⊢
    rcases a3 with ⟨b1',b2'⟩ | ⟨b1',b2'⟩
    ·rcases ih with ⟨e1,e2⟩ | ⟨e1,e2⟩
     ·refine .inl ⟨qaa trA ?_,qaa trA ?_⟩
      ·show o72_0.go _ _ _=_
       simp only[o72_0,qac,TT,Nat.reduceEqDiff,↓reduceIte,qai,Int.toNat_zero,eg,Le.v,g,Int.le_refl,i_in,b1,gt_iff_lt,n0,g2,w2,b1',w1,e1]
      ·show o161_0.go _ _ _=_
       simp only[o161_0,qac,TT,Nat.reduceEqDiff,↓reduceIte,qai,Int.toNat_zero,eg,Le.v,g,Int.le_refl,f_in,b1,gt_iff_lt,n0,b2',w1,e2]
     ·refine .inr ⟨qaa trA ?_,qaa trA ?_⟩
      ·show o72_0.go _ _ _=_
       simp only[o72_0,qac,TT,Nat.reduceEqDiff,↓reduceIte,qai,Int.toNat_zero,eg,Le.v,g,Int.le_refl,i_in,b1,gt_iff_lt,n0,g2,w2,b1',w1,e1]
      ·show o161_0.go _ _ _=_
       simp only[o161_0,qac,TT,Nat.reduceEqDiff,↓reduceIte,qai,Int.toNat_zero,eg,Le.v,g,Int.le_refl,f_in,b1,gt_iff_lt,n0,b2',w1,e2]
    ·refine .inr ⟨qaa trA ?_,qaa trA ?_⟩
     ·show o72_0.go _ _ _=_
      simp only[o72_0,qac,TT,Nat.reduceEqDiff,↓reduceIte,qai,Int.toNat_zero,eg,Le.v,g,Int.le_refl,i_in,b1,gt_iff_lt,n0,g2,w2,b1']
     ·show o161_0.go _ _ _=_
      simp only[o161_0,qac,TT,Nat.reduceEqDiff,↓reduceIte,qai,Int.toNat_zero,eg,Le.v,g,Int.le_refl,f_in,b1,gt_iff_lt,n0,b2']
   | succ k =>
    have hk:k < l.length:=by omega
    have n0:(0:Int) < ((k+1:Nat):Int):=by omega
    have wk:wr (((k+1:Nat):Int) - 1)=(k:Int):=by rw[qaj (by omega) (by omega)];omega
    have k0:(0:Int)≤(k:Int):=by omega
    have k1:(k:Int) < (l.length:Int):=by omega
    by_cases c:l[k+1].place≤l[k].place
    ·refine .inr ⟨qaa trA ?_,qaa trA ?_⟩
     ·show o72_0.go _ _ _=_
      simp only[o72_0,qac,TT,Nat.reduceEqDiff,↓reduceIte,qai,Int.toNat_natCast,qap l (k+1) hlt,qap l k hk,Le.v,g,g0,i_in,b1,gt_iff_lt,n0,wk,k0,k1,ge_iff_le,c]
     ·show o161_0.go _ _ _=_
      simp only[o161_0,qac,TT,Nat.reduceEqDiff,↓reduceIte,qai,Int.toNat_natCast,qap l (k+1) hlt,qap l k hk,Le.v,g,g0,f_in,b1,gt_iff_lt,n0,wk,k0,k1,ge_iff_le,c]
    ·rcases a3 with ⟨b1',b2'⟩ | ⟨b1',b2'⟩
     ·rcases ih with ⟨e1,e2⟩ | ⟨e1,e2⟩
      ·refine .inl ⟨qaa trA ?_,qaa trA ?_⟩
       ·show o72_0.go _ _ _=_
        simp only[o72_0,qac,TT,Nat.reduceEqDiff,↓reduceIte,qai,Int.toNat_natCast,qap l (k+1) hlt,qap l k hk,Le.v,g,g0,g1,i_in,b1,gt_iff_lt,n0,wk,k0,k1,ge_iff_le,c,Int.le_refl,w0,b1',w,e1]
       ·show o161_0.go _ _ _=_
        simp only[o161_0,qac,TT,Nat.reduceEqDiff,↓reduceIte,qai,Int.toNat_natCast,qap l (k+1) hlt,qap l k hk,Le.v,g,g0,f_in,b1,gt_iff_lt,n0,wk,k0,k1,ge_iff_le,c,b2',w,e2]
      ·refine .inr ⟨qaa trA ?_,qaa trA ?_⟩
       ·show o72_0.go _ _ _=_
        simp only[o72_0,qac,TT,Nat.reduceEqDiff,↓reduceIte,qai,Int.toNat_natCast,qap l (k+1) hlt,qap l k hk,Le.v,g,g0,g1,i_in,b1,gt_iff_lt,n0,wk,k0,k1,ge_iff_le,c,Int.le_refl,w0,b1',w,e1]
       ·show o161_0.go _ _ _=_
        simp only[o161_0,qac,TT,Nat.reduceEqDiff,↓reduceIte,qai,Int.toNat_natCast,qap l (k+1) hlt,qap l k hk,Le.v,g,g0,f_in,b1,gt_iff_lt,n0,wk,k0,k1,ge_iff_le,c,b2',w,e2]
     ·refine .inr ⟨qaa trA ?_,qaa trA ?_⟩
      ·show o72_0.go _ _ _=_
       simp only[o72_0,qac,TT,Nat.reduceEqDiff,↓reduceIte,qai,Int.toNat_natCast,qap l (k+1) hlt,qap l k hk,Le.v,g,g0,g1,i_in,b1,gt_iff_lt,n0,wk,k0,k1,ge_iff_le,c,Int.le_refl,w0,b1']
      ·show o161_0.go _ _ _=_
       simp only[o161_0,qac,TT,Nat.reduceEqDiff,↓reduceIte,qai,Int.toNat_natCast,qap l (k+1) hlt,qap l k hk,Le.v,g,g0,f_in,b1,gt_iff_lt,n0,wk,k0,k1,ge_iff_le,c,b2']
theorem poolOk2 {l:List Le} (hl:l.length≤100):Two (fin trA 868 [] [qaI l]) (fin trA 1936 [] [qaI l]):=by
 have e:=pool0 hl false l.length 0 (by omega)
 rw[show((0:Nat):Int)=0 from rfl] at e
 rcases e with ⟨e1,e2⟩ | ⟨e1,e2⟩
 ·refine⟨decide ((l.length:Int)≤3),qaa trA ?_,qaa trA ?_⟩
  ·show o72.go _ _ _=_
   simp only[o72,qac,TT,Nat.reduceEqDiff,↓reduceIte,qai,e1]
  ·show o161.go _ _ _=_
   simp only[o161,qac,TT,Nat.reduceEqDiff,↓reduceIte,qai,e2]
 ·refine⟨false,qaa trA ?_,qaa trA ?_⟩
  ·show o72.go _ _ _=_
   simp only[o72,qac,TT,Nat.reduceEqDiff,↓reduceIte,qai,e1]
  ·show o161.go _ _ _=_
   simp only[o161,qac,TT,Nat.reduceEqDiff,↓reduceIte,qai,e2]
theorem ways2 {l:List Way} (hl:l.length≤100) (z:Bool) (i:Nat) (hi:i < l.length):∀(d j:Nat),j+d=i→Two1 (fin trA 878 [B z,I l[i].net,I l[i].bits,I l[i].to,I (l.length:Int),I i,I 0,I i,I i,I j] [qaR l]) (fin trA 1094 [B z,I i,I l[i].net,I l[i].bits,I l[i].to,I j] [qaR l])
 | 0,j,hj=>by
  have g:¬(j:Int) < (i:Int):=by omega
  refine .inl ⟨qaa trA ?_,qaa trA ?_⟩
  ·show o73_2.go _ _ _=_
   simp only[o73_2,TT,Nat.reduceEqDiff,↓reduceIte,g]
  ·show o91_2.go _ _ _=_
   simp only[o91_2,TT,Nat.reduceEqDiff,↓reduceIte,g]
 | d+1,j,hj=>by
  have hlt:j < l.length:=by omega
  have g:(j:Int) < (i:Int):=by omega
  have g2:(j:Int) < (l.length:Int):=by omega
  have g0:(0:Int)≤(j:Int):=by omega
  have w:=qaB (i:=j) (n:=1000) (by omega) (by omega)
  have w0:wr (0+(j:Int))=(j:Int):=by rw[qaj (by omega) (by omega)];omega
  have ih:=ways2 hl z i hi d (j+1) (by omega)
  by_cases c1:l[j].net=l[i].net<;>by_cases c2:l[j].bits=l[i].bits
  ·refine .inr ⟨qaa trA ?_,qaa trA ?_⟩
   ·show o73_2.go _ _ _=_
    simp only[o73_2,TT,Nat.reduceEqDiff,↓reduceIte,qar,w0,Int.toNat_natCast,qaD l j hlt,Way.v,g,g0,c1,c2]
   ·show o91_2.go _ _ _=_
    simp only[o91_2,TT,Nat.reduceEqDiff,↓reduceIte,qar,Int.toNat_natCast,qaD l j hlt,Way.v,g,g0,g2,c1,c2]
  all_goals
   rcases ih with ⟨e1,e2⟩ | ⟨e1,e2⟩
   ·refine .inl ⟨qaa trA ?_,qaa trA ?_⟩
    ·show o73_2.go _ _ _=_
     simp only[o73_2,qac,TT,Nat.reduceEqDiff,↓reduceIte,qar,w0,Int.toNat_natCast,qaD l j hlt,Way.v,g,g0,c1,c2,w,e1]
    ·show o91_2.go _ _ _=_
     simp only[o91_2,qac,TT,Nat.reduceEqDiff,↓reduceIte,qar,Int.toNat_natCast,qaD l j hlt,Way.v,g,g0,g2,c1,c2,w,e2]
   ·refine .inr ⟨qaa trA ?_,qaa trA ?_⟩
    ·show o73_2.go _ _ _=_
     simp only[o73_2,qac,TT,Nat.reduceEqDiff,↓reduceIte,qar,w0,Int.toNat_natCast,qaD l j hlt,Way.v,g,g0,c1,c2,w,e1]
    ·show o91_2.go _ _ _=_
     simp only[o91_2,qac,TT,Nat.reduceEqDiff,↓reduceIte,qar,Int.toNat_natCast,qaD l j hlt,Way.v,g,g0,g2,c1,c2,w,e2]
theorem ways0_ {l:List Way} (hl:l.length≤100) (z:Bool):∀(d i:Nat),i+d=l.length→Two1 (fin trA 879 [B z,I (l.length:Int),I i] [qaR l]) (fin trA 1095 [B z,I i] [qaR l])
 | 0,i,hi=>by
  have g:¬(i:Int) < (l.length:Int):=by omega
  refine .inl ⟨qaa trA ?_,qaa trA ?_⟩
  ·show o73_0.go _ _ _=_
   simp only[o73_0,TT,Nat.reduceEqDiff,↓reduceIte,g]
  ·show o91_0.go _ _ _=_
   simp only[o91_0,TT,Nat.reduceEqDiff,↓reduceIte,qar,g]
 | d+1,i,hi=>by
  have hlt:i < l.length:=by omega
  have g:(i:Int) < (l.length:Int):=by omega
  have g1:(i:Int)≤(l.length:Int):=by omega
  have g0:(0:Int)≤(i:Int):=by omega
  have w:=qaB (i:=i) (n:=1000) (by omega) (by omega)
  have w0:wr ((i:Int) - 0)=(i:Int):=by rw[qaj (by omega) (by omega)];omega
  have ih:=ways0_ hl z d (i+1) (by omega)
  have a3:=ways2 hl z i hlt i 0 (by omega)
  simp only[show((0:Nat):Int)=0 from rfl] at a3
  cases b1:inB l[i].bits 0 8 with
  | false =>
   refine .inr ⟨qaa trA ?_,qaa trA ?_⟩
   ·show o73_0.go _ _ _=_
    simp only[o73_0,qac,TT,Nat.reduceEqDiff,↓reduceIte,qar,Int.toNat_natCast,qaD l i hlt,Way.v,g,g0,i_in,b1]
   ·show o91_0.go _ _ _=_
    simp only[o91_0,qac,TT,Nat.reduceEqDiff,↓reduceIte,qar,Int.toNat_natCast,qaD l i hlt,Way.v,g,g0,f_in,b1]
  | true =>
  cases b2:inB l[i].net 0 255 with
  | false =>
   refine .inr ⟨qaa trA ?_,qaa trA ?_⟩
   ·show o73_0.go _ _ _=_
    simp only[o73_0,qac,TT,Nat.reduceEqDiff,↓reduceIte,qar,Int.toNat_natCast,qaD l i hlt,Way.v,g,g0,i_in,b1,b2]
   ·show o91_0.go _ _ _=_
    simp only[o91_0,qac,TT,Nat.reduceEqDiff,↓reduceIte,qar,Int.toNat_natCast,qaD l i hlt,Way.v,g,g0,f_in,b1,b2]
  | true =>
  cases b3:inB l[i].to 0 9 with
  | false =>
   refine .inr ⟨qaa trA ?_,qaa trA ?_⟩
   ·show o73_0.go _ _ _=_
    simp only[o73_0,qac,TT,Nat.reduceEqDiff,↓reduceIte,qar,Int.toNat_natCast,qaD l i hlt,Way.v,g,g0,i_in,b1,b2,b3]
   ·show o91_0.go _ _ _=_
    simp only[o91_0,qac,TT,Nat.reduceEqDiff,↓reduceIte,qar,Int.toNat_natCast,qaD l i hlt,Way.v,g,g0,f_in,b1,b2,b3]
  | true =>
  obtain⟨b,hb,hb8⟩:∃b:Nat,l[i].bits=b∧b≤8:=⟨l[i].bits.toNat,by simp[inB] at b1;omega,by simp[inB] at b1;omega⟩
  have eb:wr (8 - l[i].bits)=((8 - b:Nat):Int):=by rw[hb,qaj (by omega) (by omega)];omega
  have e2:=fun k=>qdN k (n:=8 - b) (by omega)
  have e3:=qfU (n:=8 - b) (by omega)
  have g7:(0:Int)≤((8 - b:Nat):Int):=by omega
  have hpos:0 < 2 ^ (8 - b):=Nat.pow_pos (by omega)
  have g8:¬((2 ^ (8 - b):Nat):Int)=0:=by omega
  by_cases c:l[i].net.tmod ((2 ^ (8 - b):Nat):Int)=0
  ·rcases a3 with ⟨q1,q2⟩ | ⟨q1,q2⟩
   ·rcases ih with ⟨p1,p2⟩ | ⟨p1,p2⟩
    ·refine .inl ⟨qaa trA ?_,qaa trA ?_⟩
     ·show o73_0.go _ _ _=_
      simp only[o73_0,qac,TT,Nat.reduceEqDiff,↓reduceIte,qar,Int.toNat_natCast,qaD l i hlt,Way.v,g,g0,g1,i_in,b1,b2,b3,eb,g7,e2,g8,not_false_eq_true,not_true_eq_false,c,Int.le_refl,w0,q1,w,p1,ne_eq]
     ·show o91_0.go _ _ _=_
      simp only[o91_0,qac,TT,Nat.reduceEqDiff,↓reduceIte,qar,Int.toNat_natCast,qaD l i hlt,Way.v,g,g0,f_in,b1,b2,b3,eb,e3,g7,e2,g8,not_false_eq_true,not_true_eq_false,c,q2,w,p2,ne_eq]
    ·refine .inr ⟨qaa trA ?_,qaa trA ?_⟩
     ·show o73_0.go _ _ _=_
      simp only[o73_0,qac,TT,Nat.reduceEqDiff,↓reduceIte,qar,Int.toNat_natCast,qaD l i hlt,Way.v,g,g0,g1,i_in,b1,b2,b3,eb,g7,e2,g8,not_false_eq_true,not_true_eq_false,c,Int.le_refl,w0,q1,w,p1,ne_eq]
     ·show o91_0.go _ _ _=_
      simp only[o91_0,qac,TT,Nat.reduceEqDiff,↓reduceIte,qar,Int.toNat_natCast,qaD l i hlt,Way.v,g,g0,f_in,b1,b2,b3,eb,e3,g7,e2,g8,not_false_eq_true,not_true_eq_false,c,q2,w,p2,ne_eq]
   ·refine .inr ⟨qaa trA ?_,qaa trA ?_⟩
    ·show o73_0.go _ _ _=_
     simp only[o73_0,qac,TT,Nat.reduceEqDiff,↓reduceIte,qar,Int.toNat_natCast,qaD l i hlt,Way.v,g,g0,g1,i_in,b1,b2,b3,eb,g7,e2,g8,not_false_eq_true,not_true_eq_false,c,Int.le_refl,w0,q1,ne_eq]
    ·show o91_0.go _ _ _=_
     simp only[o91_0,qac,TT,Nat.reduceEqDiff,↓reduceIte,qar,Int.toNat_natCast,qaD l i hlt,Way.v,g,g0,f_in,b1,b2,b3,eb,e3,g7,e2,g8,not_false_eq_true,not_true_eq_false,c,q2,ne_eq]
  ·refine .inr ⟨qaa trA ?_,qaa trA ?_⟩
   ·show o73_0.go _ _ _=_
    simp only[o73_0,qac,TT,Nat.reduceEqDiff,↓reduceIte,qar,Int.toNat_natCast,qaD l i hlt,Way.v,g,g0,i_in,b1,b2,b3,eb,g7,e2,g8,not_false_eq_true,not_true_eq_false,c,ne_eq]
   ·show o91_0.go _ _ _=_
    simp only[o91_0,qac,TT,Nat.reduceEqDiff,↓reduceIte,qar,Int.toNat_natCast,qaD l i hlt,Way.v,g,g0,f_in,b1,b2,b3,eb,e3,g7,e2,g8,not_false_eq_true,not_true_eq_false,c,ne_eq]
theorem routesOk2 {l:List Way} (hl:l.length≤100):Two (fin trA 880 [] [qaR l]) (fin trA 1096 [] [qaR l]):=by
 have e:=ways0_ hl false l.length 0 (by omega)
 rw[show((0:Nat):Int)=0 from rfl] at e
 rcases e with ⟨e1,e2⟩ | ⟨e1,e2⟩
 ·refine⟨decide ((l.length:Int)≤8),qaa trA ?_,qaa trA ?_⟩
  ·show o73.go _ _ _=_
   simp only[o73,qac,TT,Nat.reduceEqDiff,↓reduceIte,qar,e1]
  ·show o91.go _ _ _=_
   simp only[o91,qac,TT,Nat.reduceEqDiff,↓reduceIte,qar,e2]
 ·refine⟨false,qaa trA ?_,qaa trA ?_⟩
  ·show o73.go _ _ _=_
   simp only[o73,qac,TT,Nat.reduceEqDiff,↓reduceIte,qar,e1]
  ·show o91.go _ _ _=_
   simp only[o91,qac,TT,Nat.reduceEqDiff,↓reduceIte,qar,e2]
def Two3 (x y:Option Res):Prop:=(∃k:Int,x=some (0,[I k],[])∧y=some (0,[I k],[]))∨(x=some (1,[B false],[])∧y=some (1,[B false],[]))
section
variable {a:Ar} (ha:AOk a) {g:Gt} (hl:g.l.length≤100) (hp:g.p.length≤100)
include ha hl hp
theorem gate0 (z:Bool):∀(d i c:Nat),i+d=g.l.length→c≤i→Two3 (fin trA 230 [I g.name,I g.next,I g.drops,B z,I c,I (g.l.length:Int),I i] [qag a,qax g.l,qaI g.p,qaR g.w,qbb g.o]) (fin trA 1190 [I g.name,I g.next,I g.drops,B z,I c,I i] [qag a,qax g.l,qaI g.p,qaR g.w,qbb g.o])
 | 0,i,c,hi,hc=>by
  have g1:¬(i:Int) < (g.l.length:Int):=by omega
  refine .inl ⟨c,qaa trA ?_,qaa trA ?_⟩
  ·show o19_0.go _ _ _=_
   simp only[o19_0,TT,Nat.reduceEqDiff,↓reduceIte,g1]
  ·show o99_0.go _ _ _=_
   simp only[o99_0,TT,Nat.reduceEqDiff,↓reduceIte,qad,g1]
 | d+1,i,c,hi,hc=>by
  have hlt:i < g.l.length:=by omega
  have g1:(i:Int) < (g.l.length:Int):=by omega
  have g0:(0:Int)≤(i:Int):=by omega
  have w:=qaB (i:=i) (n:=1000) (by omega) (by omega)
  have wc:=qaB (i:=c) (n:=1000) (by omega) (by omega)
  have eg:=qaq g.l i hlt
  have s1:=i_sessX hl g.l[i].cid g.name g.next g.drops (qaI g.p) (qaR g.w) (qbb g.o)
  have s2:=qdD hl g.l[i].cid g.name g.next g.drops (qaI g.p) (qaR g.w) (qbb g.o)
  have p1:=i_placeOf hp g.l[i].cid
  have p2:=f_placeOf hp g.l[i].cid
  obtain⟨bc,c1,c2⟩:=chanOk2 ha g.l[i].ch
  cases b1:inB g.l[i].cid 1 (wr (g.next - 1)) with
  | false =>
   refine .inr ⟨qaa trA ?_,qaa trA ?_⟩
   ·show o19_0.go _ _ _=_
    simp only[o19_0,qac,TT,Nat.reduceEqDiff,↓reduceIte,qad,Int.toNat_natCast,eg,Se.v,g0,g1,i_in,b1]
   ·show o99_0.go _ _ _=_
    simp only[o99_0,qac,TT,Nat.reduceEqDiff,↓reduceIte,qad,Int.toNat_natCast,eg,Se.v,g0,g1,f_in,b1]
  | true =>
  by_cases hs':¬ixI (qbU g.l g.l[i].cid)=(i:Int)
  ·have hs:=hs'
   refine .inr ⟨qaa trA ?_,qaa trA ?_⟩
   ·show o19_0.go _ _ _=_
    simp only[o19_0,qac,TT,Nat.reduceEqDiff,↓reduceIte,qad,Int.toNat_natCast,eg,Se.v,g0,g1,i_in,b1,s1,hs,ne_eq,not_false_eq_true]
   ·show o99_0.go _ _ _=_
    simp only[o99_0,qac,TT,Nat.reduceEqDiff,↓reduceIte,qad,Int.toNat_natCast,eg,Se.v,g0,g1,f_in,b1,s2,hs,ne_eq,not_false_eq_true]
  have hs:=Classical.not_not.1 hs'
  cases b2:inB g.l[i].state 1 2 with
  | false =>
   refine .inr ⟨qaa trA ?_,qaa trA ?_⟩
   ·show o19_0.go _ _ _=_
    simp only[o19_0,qac,TT,Nat.reduceEqDiff,↓reduceIte,qad,Int.toNat_natCast,eg,Se.v,g0,g1,i_in,b1,s1,hs,ne_eq,not_true_eq_false,b2]
   ·show o99_0.go _ _ _=_
    simp only[o99_0,qac,TT,Nat.reduceEqDiff,↓reduceIte,qad,Int.toNat_natCast,eg,Se.v,g0,g1,f_in,b1,s2,hs,ne_eq,not_true_eq_false,b2]
  | true =>
  have st:g.l[i].state=1∨g.l[i].state=2:=by simp[inB] at b2;omega
  rcases st with st | st
  ·have n2:¬(1:Int)=2:=by omega
   rw[st] at b2
   rcases gate0 z d (i+1) c (by omega) (by omega) with ⟨k,e1,e2⟩ | ⟨e1,e2⟩
   ·refine .inl ⟨k,qaa trA ?_,qaa trA ?_⟩
    ·show o19_0.go _ _ _=_
     simp only[o19_0,qac,TT,Nat.reduceEqDiff,↓reduceIte,qad,Int.toNat_natCast,eg,Se.v,g0,g1,i_in,b1,s1,hs,ne_eq,not_true_eq_false,st,b2,w,e1]
    ·show o99_0.go _ _ _=_
     simp only[o99_0,qac,TT,Nat.reduceEqDiff,↓reduceIte,qad,Int.toNat_natCast,eg,Se.v,g0,g1,f_in,b1,s2,hs,ne_eq,not_true_eq_false,st,b2,n2,w,e2]
   ·refine .inr ⟨qaa trA ?_,qaa trA ?_⟩
    ·show o19_0.go _ _ _=_
     simp only[o19_0,qac,TT,Nat.reduceEqDiff,↓reduceIte,qad,Int.toNat_natCast,eg,Se.v,g0,g1,i_in,b1,s1,hs,ne_eq,not_true_eq_false,st,b2,w,e1]
    ·show o99_0.go _ _ _=_
     simp only[o99_0,qac,TT,Nat.reduceEqDiff,↓reduceIte,qad,Int.toNat_natCast,eg,Se.v,g0,g1,f_in,b1,s2,hs,ne_eq,not_true_eq_false,st,b2,n2,w,e2]
  ·have n1:¬(2:Int)=1:=by omega
   rw[st] at b2
   cases bc with
   | false =>
    refine .inr ⟨qaa trA ?_,qaa trA ?_⟩
    ·show o19_0.go _ _ _=_
     simp only[o19_0,qac,TT,Nat.reduceEqDiff,↓reduceIte,qad,Int.toNat_natCast,eg,Se.v,g0,g1,i_in,b1,s1,hs,ne_eq,not_true_eq_false,st,b2,n1,c1]
    ·show o99_0.go _ _ _=_
     simp only[o99_0,qac,TT,Nat.reduceEqDiff,↓reduceIte,qad,Int.toNat_natCast,eg,Se.v,g0,g1,f_in,b1,s2,hs,ne_eq,not_true_eq_false,st,b2,c2]
   | true =>
   by_cases hz:qaP g.l[i].cid g.p=0
   ·refine .inr ⟨qaa trA ?_,qaa trA ?_⟩
    ·show o19_0.go _ _ _=_
     simp only[o19_0,qac,TT,Nat.reduceEqDiff,↓reduceIte,qad,Int.toNat_natCast,eg,Se.v,g0,g1,i_in,b1,s1,hs,ne_eq,not_true_eq_false,st,b2,n1,c1,p1,hz]
    ·show o99_0.go _ _ _=_
     simp only[o99_0,qac,TT,Nat.reduceEqDiff,↓reduceIte,qad,Int.toNat_natCast,eg,Se.v,g0,g1,f_in,b1,s2,hs,ne_eq,not_true_eq_false,st,b2,c2,p2,hz]
   ·rcases gate0 z d (i+1) (c+1) (by omega) (by omega) with ⟨k,e1,e2⟩ | ⟨e1,e2⟩
    ·refine .inl ⟨k,qaa trA ?_,qaa trA ?_⟩
     ·show o19_0.go _ _ _=_
      simp only[o19_0,qac,TT,Nat.reduceEqDiff,↓reduceIte,qad,Int.toNat_natCast,eg,Se.v,g0,g1,i_in,b1,s1,hs,ne_eq,not_true_eq_false,st,b2,n1,c1,p1,hz,w,wc,e1]
     ·show o99_0.go _ _ _=_
      simp only[o99_0,qac,TT,Nat.reduceEqDiff,↓reduceIte,qad,Int.toNat_natCast,eg,Se.v,g0,g1,f_in,b1,s2,hs,ne_eq,not_true_eq_false,st,b2,c2,p2,hz,w,wc,e2]
    ·refine .inr ⟨qaa trA ?_,qaa trA ?_⟩
     ·show o19_0.go _ _ _=_
      simp only[o19_0,qac,TT,Nat.reduceEqDiff,↓reduceIte,qad,Int.toNat_natCast,eg,Se.v,g0,g1,i_in,b1,s1,hs,ne_eq,not_true_eq_false,st,b2,n1,c1,p1,hz,w,wc,e1]
     ·show o99_0.go _ _ _=_
      simp only[o99_0,qac,TT,Nat.reduceEqDiff,↓reduceIte,qad,Int.toNat_natCast,eg,Se.v,g0,g1,f_in,b1,s2,hs,ne_eq,not_true_eq_false,st,b2,c2,p2,hz,w,wc,e2]
theorem gateOk2 (hw:g.w.length≤100):Two (fin trA 231 [I g.name,I g.next,I g.drops] [qag a,qax g.l,qaI g.p,qaR g.w,qbb g.o]) (fin trA 1191 [I g.name,I g.next,I g.drops] [qag a,qax g.l,qaI g.p,qaR g.w,qbb g.o]):=by
 have e:=gate0 ha hl hp false g.l.length 0 0 (by omega) (by omega)
 rw[show((0:Nat):Int)=0 from rfl] at e
 obtain⟨bp,p1,p2⟩:=poolOk2 hp
 obtain⟨bw,w1,w2⟩:=routesOk2 hw
 cases b1:inB g.name 0 9 with
 | false =>
  refine⟨false,qaa trA ?_,qaa trA ?_⟩
  ·show o19.go _ _ _=_
   simp only[o19,qac,TT,Nat.reduceEqDiff,↓reduceIte,i_in,b1]
  ·show o99.go _ _ _=_
   simp only[o99,qac,TT,Nat.reduceEqDiff,↓reduceIte,f_in,b1]
 | true =>
 cases b2:inB g.next 1 9999 with
 | false =>
  refine⟨false,qaa trA ?_,qaa trA ?_⟩
  ·show o19.go _ _ _=_
   simp only[o19,qac,TT,Nat.reduceEqDiff,↓reduceIte,i_in,b1,b2]
  ·show o99.go _ _ _=_
   simp only[o99,qac,TT,Nat.reduceEqDiff,↓reduceIte,f_in,b1,b2]
 | true =>
 by_cases g3:(3:Int) < (g.l.length:Int)
 ·refine⟨false,qaa trA ?_,qaa trA ?_⟩
  ·show o19.go _ _ _=_
   simp only[o19,qac,TT,Nat.reduceEqDiff,↓reduceIte,i_in,b1,b2,qad,gt_iff_lt,g3]
  ·show o99.go _ _ _=_
   simp only[o99,qac,TT,Nat.reduceEqDiff,↓reduceIte,f_in,b1,b2,qad,gt_iff_lt,g3]
 by_cases g4:(50:Int) < (g.o.length:Int)
 ·refine⟨false,qaa trA ?_,qaa trA ?_⟩
  ·show o19.go _ _ _=_
   simp only[o19,qac,TT,Nat.reduceEqDiff,↓reduceIte,i_in,b1,b2,qad,qaK,gt_iff_lt,g3,g4]
  ·show o99.go _ _ _=_
   cases bp<;>cases bw <;>
   simp only[o99,qac,TT,Nat.reduceEqDiff,↓reduceIte,f_in,b1,b2,qad,qaK,gt_iff_lt,g3,g4,p2,w2]
 rcases e with ⟨k,e1,e2⟩ | ⟨e1,e2⟩
 ·cases bp with
  | false =>
   refine⟨false,qaa trA ?_,qaa trA ?_⟩
   ·show o19.go _ _ _=_
    simp only[o19,qac,TT,Nat.reduceEqDiff,↓reduceIte,i_in,b1,b2,qad,qaK,qai,gt_iff_lt,g3,g4,e1,p1]
   ·show o99.go _ _ _=_
    simp only[o99,qac,TT,Nat.reduceEqDiff,↓reduceIte,f_in,b1,b2,qad,qaK,qai,gt_iff_lt,g3,g4,p2]
  | true =>
   by_cases hk:(g.p.length:Int)=k
   ·refine⟨bw,qaa trA ?_,qaa trA ?_⟩
    ·show o19.go _ _ _=_
     simp only[o19,qac,TT,Nat.reduceEqDiff,↓reduceIte,i_in,b1,b2,qad,qaK,qai,gt_iff_lt,g3,g4,e1,p1,hk,w1]
    ·show o99.go _ _ _=_
     cases bw <;>
     simp only[o99,qac,TT,Nat.reduceEqDiff,↓reduceIte,f_in,b1,b2,qad,qaK,qai,gt_iff_lt,g3,g4,p2,w2,e2,hk]
   ·refine⟨false,qaa trA ?_,qaa trA ?_⟩
    ·show o19.go _ _ _=_
     simp only[o19,qac,TT,Nat.reduceEqDiff,↓reduceIte,i_in,b1,b2,qad,qaK,qai,gt_iff_lt,g3,g4,e1,p1,hk]
    ·show o99.go _ _ _=_
     cases bw <;>
     simp only[o99,qac,TT,Nat.reduceEqDiff,↓reduceIte,f_in,b1,b2,qad,qaK,qai,gt_iff_lt,g3,g4,p2,w2,e2,hk]
 ·refine⟨false,qaa trA ?_,qaa trA ?_⟩
  ·show o19.go _ _ _=_
   simp only[o19,qac,TT,Nat.reduceEqDiff,↓reduceIte,i_in,b1,b2,qad,qaK,qai,gt_iff_lt,g3,g4,e1]
  ·show o99.go _ _ _=_
   cases bp<;>cases bw <;>
   simp only[o99,qac,TT,Nat.reduceEqDiff,↓reduceIte,f_in,b1,b2,qad,qaK,qai,gt_iff_lt,g3,g4,p2,w2,e2]
end
structure WdW (w:Wd):Prop where
 ok:AOk w.a
 name:w.g.name=9
 l:w.g.l.length≤100
 p:w.g.p.length≤100
 ways:w.g.w.length≤100
 o:w.g.o.length≤100
 kn:w.known.length≤100000
 begun:w.begun.length≤1000
 dn:w.dn.length≤1000
 sent:w.sent.length≤1000
 got:w.got.length≤1000
section
variable {w:Wd} (h:WdW w)
include h
theorem places0 (z:Bool):∀(d i:Nat),i+d=w.g.o.length→Two1 (fin trA 446 (w.vs++[B z,I (w.g.o.length:Int),I i]) w.rs) (fin trA 458 (w.vs++[B z,I i]) w.rs)
 | 0,i,hi=>by
  have g:¬(i:Int) < (w.g.o.length:Int):=by omega
  refine .inl ⟨qaa trA ?_,qaa trA ?_⟩
  ·show o37_0.go _ _ _=_
   simp only[Wd.vs,Wd.rs,o37_0,TT,Nat.reduceEqDiff,↓reduceIte,g]
  ·show o38_0.go _ _ _=_
   simp only[Wd.vs,Wd.rs,o38_0,TT,Nat.reduceEqDiff,↓reduceIte,qaK,g]
 | d+1,i,hi=>by
  have hlt:i < w.g.o.length:=by omega
  have g:(i:Int) < (w.g.o.length:Int):=by omega
  have g0:(0:Int)≤(i:Int):=by omega
  have ho:=h.o
  have wi:=qaB (i:=i) (n:=1000) (by omega) (by omega)
  have eg:=encO_get w.g.o i hlt
  have ih:=places0 z d (i+1) (by omega)
  simp only[Wd.vs,Wd.rs,List.cons_append,List.nil_append] at ih
  cases b:inB w.g.o[i].src 10 12 with
  | false =>
   refine .inr ⟨qaa trA ?_,qaa trA ?_⟩
   ·show o37_0.go _ _ _=_
    simp only[Wd.vs,Wd.rs,o37_0,qac,TT,Nat.reduceEqDiff,↓reduceIte,qaK,Int.toNat_natCast,eg,Ou.v,g,g0,i_in,b]
   ·show o38_0.go _ _ _=_
    simp only[Wd.vs,Wd.rs,o38_0,qac,TT,Nat.reduceEqDiff,↓reduceIte,qaK,Int.toNat_natCast,eg,Ou.v,g,g0,f_in,b]
  | true =>
   rcases ih with ⟨e1,e2⟩ | ⟨e1,e2⟩
   ·refine .inl ⟨qaa trA ?_,qaa trA ?_⟩
    ·show o37_0.go _ _ _=_
     simp only[Wd.vs,Wd.rs,o37_0,qac,TT,Nat.reduceEqDiff,↓reduceIte,qaK,Int.toNat_natCast,eg,Ou.v,g,g0,i_in,b,wi,e1]
    ·show o38_0.go _ _ _=_
     simp only[Wd.vs,Wd.rs,o38_0,qac,TT,Nat.reduceEqDiff,↓reduceIte,qaK,Int.toNat_natCast,eg,Ou.v,g,g0,f_in,b,wi,e2]
   ·refine .inr ⟨qaa trA ?_,qaa trA ?_⟩
    ·show o37_0.go _ _ _=_
     simp only[Wd.vs,Wd.rs,o37_0,qac,TT,Nat.reduceEqDiff,↓reduceIte,qaK,Int.toNat_natCast,eg,Ou.v,g,g0,i_in,b,wi,e1]
    ·show o38_0.go _ _ _=_
     simp only[Wd.vs,Wd.rs,o38_0,qac,TT,Nat.reduceEqDiff,↓reduceIte,qaK,Int.toNat_natCast,eg,Ou.v,g,g0,f_in,b,wi,e2]
theorem places2:Two (fin trA 447 w.vs w.rs) (fin trA 459 w.vs w.rs):=by
 have e:=places0 h false w.g.o.length 0 (by omega)
 obtain⟨b,q1,q2⟩:=gateOk2 h.ok h.l h.p h.ways
 simp only[Wd.vs,Wd.rs,List.cons_append,List.nil_append,show((0:Nat):Int)=0 from rfl] at e
 rcases e with ⟨e1,e2⟩ | ⟨e1,e2⟩
 ·refine⟨b,qaa trA ?_,qaa trA ?_⟩
  ·show o37.go _ _ _=_
   simp only[Wd.vs,Wd.rs,o37,qac,TT,Nat.reduceEqDiff,↓reduceIte,qaK,e1,q1]
  ·show o38.go _ _ _=_
   simp only[Wd.vs,Wd.rs,o38,qac,TT,Nat.reduceEqDiff,↓reduceIte,e2,q2]
 ·refine⟨false,qaa trA ?_,qaa trA ?_⟩
  ·show o37.go _ _ _=_
   simp only[Wd.vs,Wd.rs,o37,qac,TT,Nat.reduceEqDiff,↓reduceIte,qaK,e1]
  ·show o38.go _ _ _=_
   simp only[Wd.vs,Wd.rs,o38,qac,TT,Nat.reduceEqDiff,↓reduceIte,e2]
theorem agreed2:Two (fin trA 351 w.vs w.rs) (fin trA 411 w.vs w.rs):=by
 have e:=agreed h.dn h.begun w.g.next w.g.drops w.now w.draw (qag w.a) (qbE w.cs) (qak w.ad) (qax w.g.l) (qaI w.g.p) (qaR w.g.w) (qbb w.g.o) (qbs w.net) (qak w.known) (qak w.taken) (qas w.sent) (qas w.got) (qak w.codes)
 simp only[Wd.vs,Wd.rs,h.name]
 exact e
theorem came2:Two (fin trA 365 w.vs w.rs) (fin trA 425 w.vs w.rs):=came h.sent h.got ..
theorem secret2 (hao:fin trA 1142 [] [qag w.a]=some (0,[B true],[])):Two (fin trA 339 w.vs w.rs) (fin trA 435 w.vs w.rs):=secret h.ok hao h.kn h.dn ..
theorem sound2 (hao:fin trA 1142 [] [qag w.a]=some (0,[B true],[])):Two (fin trA 386 w.vs w.rs) (fin trA 398 w.vs w.rs):=by
 obtain⟨b1,p1,q1⟩:=agreed2 h
 obtain⟨b2,p2,q2⟩:=came2 h
 obtain⟨b3,p3,q3⟩:=secret2 h hao
 obtain⟨b4,p4,q4⟩:=places2 h
 have e0:=qeC h.ok
 simp only[Wd.vs,Wd.rs] at p1 q1 p2 q2 p3 q3 p4 q4
 refine⟨b1&&(b2&&(b3&&b4)),qaa trA ?_,qaa trA ?_⟩
 ·show o32.go _ _ _=_
  cases b1<;>cases b2<;>cases b3 <;>
  simp only[Wd.vs,Wd.rs,o32,TT,Nat.reduceEqDiff,↓reduceIte,hao,p1,p2,p3,p4,Bool.true_and,Bool.false_and]
 ·show o33.go _ _ _=_
  cases b1<;>cases b2<;>cases b3 <;>
  simp only[Wd.vs,Wd.rs,o33,TT,Nat.reduceEqDiff,↓reduceIte,e0,q1,q2,q3,q4,Bool.true_and,Bool.false_and]
end
mutual
def Te.no (u:Nat→Bool):Te→Bool
 | .s _=>true
 | .l _=>true
 | .bin _ a b=>a.no u&&b.no u
 | .not a=>a.no u
 | .and a b=>a.no u&&b.no u
 | .cv _ a=>a.no u
 | .sl a=>a.no u
 | .len r=>r.no u
 | .cell r i _=>r.no u&&i.no u
 | .ite c a b=>c.no u&&(a.no u&&b.no u)
 | .sub a i j=>a.no u&&(i.no u&&j.no u)
 | .str r=>r.no u
def RT.no (u:Nat→Bool):RT→Bool
 | .s i=>!u i
 | .nil=>true
 | .one cs=>cs.no u
 | .app a b=>a.no u&&b.no u
 | .set r i _ cs=>r.no u&&(i.no u&&cs.no u)
 | .take r n=>r.no u&&n.no u
 | .drop r n=>r.no u&&n.no u
 | .rep cs n=>cs.no u&&n.no u
 | .by a=>a.no u
def TL.no (u:Nat→Bool):TL→Bool
 | .nil=>true
 | .cons x xs=>x.no u&&xs.no u
end
def SyU (u:Nat→Bool) (S S':Sy):Prop:=S.v=S'.v∧∀i,u i=false→S.r i=S'.r i
mutual
theorem Te.no_ev {u:Nat→Bool} {S S':Sy} (h:SyU u S S'):∀(x:Te),x.no u=true→x.ev S=x.ev S'
 | .s i,k=>by simp only[Te.ev,h.1]
 | .l _,k=>by simp only[Te.ev]
 | .bin _ a b,k=>by
  simp only[Te.no,Bool.and_eq_true] at k
  simp only[Te.ev,Te.no_ev h a k.1,Te.no_ev h b k.2]
 | .not a,k=>by simp only[Te.ev,Te.no_ev h a k]
 | .and a b,k=>by
  simp only[Te.no,Bool.and_eq_true] at k
  simp only[Te.ev,Te.no_ev h a k.1,Te.no_ev h b k.2]
 | .cv _ a,k=>by simp only[Te.ev,Te.no_ev h a k]
 | .sl a,k=>by simp only[Te.ev,Te.no_ev h a k]
 | .len r,k=>by simp only[Te.ev,RT.no_ev h r k]
 | .cell r i _,k=>by
  simp only[Te.no,Bool.and_eq_true] at k
  simp only[Te.ev,RT.no_ev h r k.1,Te.no_ev h i k.2]
 | .ite c a b,k=>by
  simp only[Te.no,Bool.and_eq_true] at k
  simp only[Te.ev,Te.no_ev h c k.1,Te.no_ev h a k.2.1,Te.no_ev h b k.2.2]
 | .sub a i j,k=>by
  simp only[Te.no,Bool.and_eq_true] at k
  simp only[Te.ev,Te.no_ev h a k.1,Te.no_ev h i k.2.1,Te.no_ev h j k.2.2]
 | .str r,k=>by simp only[Te.ev,RT.no_ev h r k]
theorem RT.no_ev {u:Nat→Bool} {S S':Sy} (h:SyU u S S'):∀(x:RT),x.no u=true→x.ev S=x.ev S'
 | .s i,k=>by
  simp only[RT.no,Bool.not_eq_true'] at k
  simp only[RT.ev,h.2 i k]
 | .nil,k=>by simp only[RT.ev]
 | .one cs,k=>by simp only[RT.ev,TL.no_ev h cs k]
 | .app a b,k=>by
  simp only[RT.no,Bool.and_eq_true] at k
  simp only[RT.ev,RT.no_ev h a k.1,RT.no_ev h b k.2]
 | .set r i _ cs,k=>by
  simp only[RT.no,Bool.and_eq_true] at k
  simp only[RT.ev,RT.no_ev h r k.1,Te.no_ev h i k.2.1,TL.no_ev h cs k.2.2]
 | .take r n,k=>by
  simp only[RT.no,Bool.and_eq_true] at k
  simp only[RT.ev,RT.no_ev h r k.1,Te.no_ev h n k.2]
 | .drop r n,k=>by
  simp only[RT.no,Bool.and_eq_true] at k
  simp only[RT.ev,RT.no_ev h r k.1,Te.no_ev h n k.2]
 | .rep cs n,k=>by
  simp only[RT.no,Bool.and_eq_true] at k
  simp only[RT.ev,TL.no_ev h cs k.1,Te.no_ev h n k.2]
 | .by a,k=>by simp only[RT.ev,Te.no_ev h a k]
theorem TL.no_ev {u:Nat→Bool} {S S':Sy} (h:SyU u S S'):∀(x:TL),x.no u=true→x.ev S=x.ev S'
 | .nil,k=>by simp only[TL.ev]
 | .cons x xs,k=>by
  simp only[TL.no,Bool.and_eq_true] at k
  simp only[TL.ev,Te.no_ev h x k.1,TL.no_ev h xs k.2]
end
def qhe (U' u:Nat→Bool):List RT→Nat→Bool
 | [],_=>true
 | x :: xs,k=>(U' k||x.no u)&&qhe U' u xs (k+1)
def tesNo (u:Nat→Bool):List Te→Bool
 | []=>true
 | x :: xs=>x.no u&&tesNo u xs
def rtsNo (u:Nat→Bool):List RT→Bool
 | []=>true
 | x :: xs=>x.no u&&rtsNo u xs
mutual
def Ot.no (U:Nat→Nat→Bool) (me:Nat) (u:Nat→Bool):Ot→Bool
 | .ask c x y=>c.no u&&(x.no U me u&&y.no U me u)
 | .need c x=>c.no u&&x.no U me u
 | .call p a r k=>tesNo u a&&(qhe (U (bif Nat.beq p 0 then me else p)) u r 0&&k.no' U me u)
 | .name te x=>te.no u&&x.no U me u
 | .ret _ v l=>tesNo u v&&rtsNo u l
 | .two x=>x.no U me u
 | .both x y=>x.no U me u&&y.no U me u
 | .fail=>true
def Os.no' (U:Nat→Nat→Bool) (me:Nat) (u:Nat→Bool):Os→Bool
 | .one _ _ _ x=>x.no U me u
 | .more _ _ _ x rest=>x.no U me u&&rest.no' U me u
end
def Alike (u:Nat→Bool) (l l':List Rw):Prop:=l.length=l'.length∧∀i,u i=false→l.getD i []=l'.getD i []
theorem Alike.app {u:Nat→Bool} {l l':List Rw} (h:Alike u l l') (n:List Rw):Alike u (l++n) (l'++n):=by
 refine⟨by rw[List.length_append,List.length_append,h.1],fun i hi=>?_⟩
 have h2:=h.2 i hi
 rw[List.getD_eq_getElem?_getD,List.getD_eq_getElem?_getD] at h2 ⊢
 rcases Nat.lt_or_ge i l.length with q | q
 ·rw[List.getElem?_append_left q,List.getElem?_append_left (by rw[←h.1];exact q)]
  exact h2
 ·rw[List.getElem?_append_right q,List.getElem?_append_right (by rw[←h.1];exact q),h.1]
theorem Alike.sy {u:Nat→Bool} {l l':List Rw} (h:Alike u l l') (vs:List Value):SyU u (syL vs l) (syL vs l'):=⟨rfl,h.2⟩
theorem tesNo_ev {u:Nat→Bool} {S S':Sy} (h:SyU u S S'):∀(x:List Te),tesNo u x=true→x.map (Te.ev S)=x.map (Te.ev S')
 | [],_=>rfl
 | x :: xs,k=>by
  simp only[tesNo,Bool.and_eq_true] at k
  rw[List.map_cons,List.map_cons,Te.no_ev h x k.1,tesNo_ev h xs k.2]
theorem rtsNo_ev {u:Nat→Bool} {S S':Sy} (h:SyU u S S'):∀(x:List RT),rtsNo u x=true→x.map (RT.ev S)=x.map (RT.ev S')
 | [],_=>rfl
 | x :: xs,k=>by
  simp only[rtsNo,Bool.and_eq_true] at k
  rw[List.map_cons,List.map_cons,RT.no_ev h x k.1,rtsNo_ev h xs k.2]
theorem rowsNo_at {U' u:Nat→Bool}:∀{x:List RT} {k j:Nat} {r:RT},qhe U' u x k=true→x[j]?=some r→U' (k+j)=true∨r.no u=true
 | x :: xs,k,0,r,h,e=>by
  simp only[qhe,Bool.and_eq_true,Bool.or_eq_true] at h
  cases e
  exact h.1
 | x :: xs,k,j+1,r,h,e=>by
  simp only[qhe,Bool.and_eq_true,Bool.or_eq_true] at h
  have:=rowsNo_at h.2 (show xs[j]?=some r by simpa using e)
  rwa [show k+1+j=k+(j+1) by omega] at this
theorem rowsNo_ev {U' u:Nat→Bool} {S S':Sy} (h:SyU u S S') {x:List RT} (k:qhe U' u x 0=true):Alike U' (x.map (RT.ev S)) (x.map (RT.ev S')):=by
 refine⟨by simp,fun i hi=>?_⟩
 rw[List.getD_eq_getElem?_getD,List.getD_eq_getElem?_getD,List.getElem?_map,List.getElem?_map]
 cases hx:x[i]? with
 | none=>rfl
 | some r =>
  rcases rowsNo_at k hx with q | q
  ·rw[Nat.zero_add,hi] at q;cases q
  ·show RT.ev S r=RT.ev S' r
   exact RT.no_ev h r q
section
variable {U:Nat→Nat→Bool} {me:Nat} {u:Nat→Bool} {F:Phi} (hF:∀p a r r',Alike (U (if p=0 then me else p)) r r'→F p a r=F p a r')
include hF
mutual
theorem Ot.go_no:∀(x:Ot) {vs l l'},x.no U me u=true→Alike u l l'→x.go F vs l=x.go F vs l'
 | .ask c x y,vs,l,l',k,h=>by
  simp only[Ot.no,Bool.and_eq_true] at k
  rw[go_ask,go_ask,Te.no_ev (h.sy vs) c k.1,Ot.go_no x k.2.1 h,Ot.go_no y k.2.2 h]
 | .need c x,vs,l,l',k,h=>by
  simp only[Ot.no,Bool.and_eq_true] at k
  rw[go_need,go_need,Te.no_ev (h.sy vs) c k.1,Ot.go_no x k.2 h]
 | .call p a r x,vs,l,l',k,h=>by
  simp only[Ot.no,Bool.and_eq_true] at k
  have e:=hF p (a.map (Te.ev (syL vs l'))) _ _ (by
   have:=rowsNo_ev (h.sy vs) k.2.1
   rw[qaz,qau] at this
   exact this)
  rw[go_call,go_call,tesNo_ev (h.sy vs) a k.1,e]
  congr 1
  funext res
  exact Os.go_no' x k.2.2 h
 | .name te x,vs,l,l',k,h=>by
  simp only[Ot.no,Bool.and_eq_true] at k
  show x.go F (vs++[te.ev (syL vs l)]) l=x.go F (vs++[te.ev (syL vs l')]) l'
  rw[Te.no_ev (h.sy vs) te k.1]
  exact Ot.go_no x k.2 h
 | .ret n v m,vs,l,l',k,h=>by
  simp only[Ot.no,Bool.and_eq_true] at k
  rw[go_ret,go_ret,tesNo_ev (h.sy vs) v k.1,rtsNo_ev (h.sy vs) m k.2]
 | .two x,vs,l,l',k,h=>by
  rw[qaG,qaG]
  exact Ot.go_no x k h
 | .both x y,vs,l,l',k,h=>by
  simp only[Ot.no,Bool.and_eq_true] at k
  rw[qaE,qaE,Ot.go_no x k.1 h,Ot.go_no y k.2 h]
 | .fail,vs,l,l',k,h=>rfl
theorem Os.go_no':∀(x:Os) {res vs l l'},x.no' U me u=true→Alike u l l'→x.go F res vs l=x.go F res vs l'
 | .one a b k x,res,vs,l,l',q,h=>by
  obtain⟨j,v,m⟩:=res
  rw[go_one,go_one,Ot.go_no x q (h.app m)]
 | .more a b k x rest,res,vs,l,l',q,h=>by
  simp only[Os.no',Bool.and_eq_true] at q
  obtain⟨j,v,m⟩:=res
  rw[qac,qac,Ot.go_no x q.1 (h.app m),Os.go_no' rest q.2 h]
end
end
theorem Alike.eq {u:Nat→Bool} (hu:∀i,u i=false) {l l':List Rw} (h:Alike u l l'):l=l':=by
 apply List.ext_getElem h.1
 intro i h1 h2
 have:=h.2 i (hu i)
 rw[List.getD_eq_getElem?_getD,List.getD_eq_getElem?_getD,List.getElem?_eq_getElem h1,List.getElem?_eq_getElem h2] at this
 exact this
theorem phi_no {tr:Nat→Ot} {U:Nat→Nat→Bool} (hU:∀p,(tr p).no U p (U p)=true∨∀i,U p i=false):∀(n p:Nat) (vs:List Value) (l l':List Rw),Alike (U p) l l'→phi tr n p vs l=phi tr n p vs l'
 | 0,p,vs,l,l',h=>rfl
 | n+1,p,vs,l,l',h=>by
  rcases hU p with q | q
  ·show(tr p).go (qbO (phi tr n) p) vs l=(tr p).go (qbO (phi tr n) p) vs l'
   exact Ot.go_no (fun p' a r r' hr=>phi_no hU n (if p'=0 then p else p') a r r' hr) (tr p) q h
  ·rw[h.eq q]
theorem fin_no {tr:Nat→Ot} {U:Nat→Nat→Bool} (hU:∀p,(tr p).no U p (U p)=true∨∀i,U p i=false) {p:Nat} {vs:List Value} {l l':List Rw} (h:Alike (U p) l l') {r:Res} (k:fin tr p vs l=some r):fin tr p vs l'=some r:=by
 obtain⟨n,hn⟩:=of_fin tr k
 rw[phi_no hU n p vs l l' h] at hn
 exact fin_of tr hn
def codesL:List Nat:=[1070,1071,1754,1766,1802,1814,1826,1838,2318,2319,2366,2367,2390,2450,2451,2630,2642,2643,2644,2645,2646,2647,2648,2649,2650,2651,2652,2738,2739,2823,2822,2824,2834,2835]
def qgZ (p i:Nat):Bool:=Nat.beq i 14&&codesL.any (Nat.beq p)
theorem codes_all:codesL.all (fun p=>(trA p).no qgZ p (qgZ p))=true:=by kernel_rfl
theorem codes_no:∀p,(trA p).no qgZ p (qgZ p)=true∨∀i,qgZ p i=false:=by
 intro p
 cases h:codesL.any (Nat.beq p) with
 | true =>
  obtain⟨q,hq,e⟩:=List.any_eq_true.1 h
  obtain rfl:=Nat.eq_of_beq_eq_true e
  exact .inl (List.all_eq_true.1 codes_all _ hq)
 | false=>exact .inr fun i=>by unfold qgZ;rw[h,Bool.and_false]
theorem do_codes {vs:List Value} {r0 r1 r2 r3 r4 r5 r6 r7 r8 r9 r10 r11 r12 r13 r14:Rw} (c:Rw) {r:Res} (k:fin trA 1071 vs [r0,r1,r2,r3,r4,r5,r6,r7,r8,r9,r10,r11,r12,r13,r14]=some r):fin trA 1071 vs [r0,r1,r2,r3,r4,r5,r6,r7,r8,r9,r10,r11,r12,r13,c]=some r:=by
 refine fin_no (p:=1071) (l:=[r0,r1,r2,r3,r4,r5,r6,r7,r8,r9,r10,r11,r12,r13,r14]) (l':=[r0,r1,r2,r3,r4,r5,r6,r7,r8,r9,r10,r11,r12,r13,c]) codes_no ⟨rfl,fun i hi=>?_⟩ k
 have h14:i≠14:=fun e=>by subst e;exact absurd hi (by decide)
 match i,h14 with
 | 0,_=>rfl
 | 1,_=>rfl
 | 2,_=>rfl
 | 3,_=>rfl
 | 4,_=>rfl
 | 5,_=>rfl
 | 6,_=>rfl
 | 7,_=>rfl
 | 8,_=>rfl
 | 9,_=>rfl
 | 10,_=>rfl
 | 11,_=>rfl
 | 12,_=>rfl
 | 13,_=>rfl
 | 14,h=>exact absurd rfl h
 | i+15,_=>rfl
structure Ev where
 kind:Int
 at_:Int
 num:Int
 text:List Nat
def Ev.v (e:Ev):List Value:=[I e.kind,I e.at_,I e.num,.string (qbS e.text)]
def encE (l:List Ev):Rw:=l.map Ev.v
theorem encE_len (l:List Ev):(encE l).length=l.length:=List.length_map ..
theorem encE_get (l:List Ev) (i:Nat) (h:i < l.length):(encE l).getD i []=(l[i]).v:=by
 simp[encE,List.getD_eq_getElem?_getD,List.getElem?_eq_getElem h]
def Ev.good (e:Ev):Prop:=0≤e.at_∧0≤e.num∧EvT e.kind e.text
theorem bv_seq (a b:ByteArray):qbm .eql (.string a) (.string b)=.bool (a.toList==b.toList):=rfl
theorem f_evOk {e:Ev} (h:e.good):fin trA 1046 [I e.kind,I e.at_,I e.num,.string (qbS e.text)] []=some (0,[B true],[]):=by
 obtain⟨h0,h1,ht,hl,k1,k2⟩:=h
 have b:inB e.kind 1 10=true:=by simp[inB];omega
 have n0:¬e.at_ < 0:=by omega
 have n1:¬e.num < 0:=by omega
 refine qaa trA ?_
 show o87.go _ _ _=_
 by_cases h9:e.kind=9
 ·have g:(e.text.length:Int)≤4000:=by omega
  rw[h9] at b
  simp only[o87,TT,Nat.reduceEqDiff,↓reduceIte,f_in,b,n0,n1,h9,sizeV_str,qao,g]
 ·have ht:=ht.resolve_left h9
  rw[ht,qaJ]
  simp only[o87,TT,Nat.reduceEqDiff,↓reduceIte,f_in,b,n0,n1,h9,bv_seq,beq_self_eq_true]
inductive Plays:Wd→List Ev→Wd→Prop where
 | nil (w:Wd):Plays w [] w
 | cons {w w1 w2:Wd} {e:Ev} {es:List Ev} {code:Int} (h:fin trA 1071 (w.vs++e.v) w.rs=some (0,w1.vs++[I code],w1.o14)) (k:Plays w1 es w2):Plays w (e :: es) w2
section
variable {b:Rw} (hb:Bys b) {ws:List Way}
include hb
theorem qgr (mode:Int) (R:Rw) (most:Nat) (hmost:most≤100):∀(d n i c1:Nat) (c2:Int) (w:Wd) (evs:List Ev),i+d=most→n+d≤44→evs.length≤i→WdS n ws w →
  ∃(c1':Nat) (c2':Int) (w':Wd) (es:List Ev),WdS (n+d) ws w'∧Plays w es w'∧es.length=d∧(∀e∈es,e.good) ∧
   fin trA 890 ([I 0,I c1,I c2,I mode,I (most:Int)]++w.vs++[I i]) ([] :: [] :: b :: R :: (w.rs++[encE evs]))=some (0,[I c1',I c2']++w'.vs,[qag w'.a,qax w'.g.l,qaI w'.g.p,qaR w'.g.w,qbb w'.g.o,qbs w'.net,qak w'.known,qak w'.taken,qas w'.begun,qas w'.dn,qas w'.sent,qas w'.got,qbE w'.cs,qak w'.ad,encE (evs++es)])
 | 0,n,i,c1,c2,w,evs,hi,hn,he,h=>by
  refine⟨c1,c2,w,[],h,.nil w,rfl,by simp,qaa trA ?_⟩
  show o74_0.go _ _ _=_
  have g:¬(i:Int) < (most:Int):=by omega
  rw[List.append_nil]
  simp only[Wd.vs,Wd.rs,o74_0,TT,Nat.reduceEqDiff,↓reduceIte,g]
 | d+1,n,i,c1,c2,w,evs,hi,hn,he,h=>by
  have g:(i:Int) < (most:Int):=by omega
  have w1:=qaB (i:=i) (n:=1000) (by omega) (by omega)
  have hcod:=h.codes
  obtain⟨e3,e4,num,fb,r1,r2⟩:=qaH hb c1 c2 (n:=30) (by omega)
  obtain⟨e5,e6,kind,at_,num',t,fd,ev,et⟩:=f_draw h.inv (by omega) hb h.some e3 e4 num r1
  simp only[Wd.vs,Wd.rs,hcod,List.cons_append,List.nil_append] at fd
  by_cases hi2:i < 2
  ·have g2:(i:Int) < 2:=by omega
   obtain⟨w',code,f1,h'⟩:=qgv h (by omega) (kind:=1) (at_:=i) (num:=0) (t:=[]) ⟨by omega,by omega,by omega⟩
   obtain⟨q1,q2,wz,es,hS,hP,hl,hg,f2⟩:=qgr mode R most hmost d (n+1) (i+1) e5 e6 w' (evs++[⟨1,i,0,[]⟩]) (by omega) (by omega) (by simp;omega) h'
   have hcod':=h'.codes
   refine⟨q1,q2,wz,⟨1,i,0,[]⟩ :: es,by rw[show n+(d+1)=n+1+d by omega];exact hS,.cons f1 hP,by simp[hl],?_,qaa trA ?_⟩
   ·intro e hm
    rcases List.mem_cons.1 hm with rfl | hm
    ·exact⟨by show(0:Int)≤(i:Int);omega,Int.le_refl _,.inr rfl,Nat.zero_le _,by show(1:Int)≤1;omega,by show(1:Int)≤10;omega⟩
    ·exact hg e hm
   ·have hap:encE evs++[[I 1,I i,I 0,.string (qbS [])]]=encE (evs++[⟨1,i,0,[]⟩]):=by simp[encE,Ev.v]
    have hln:((evs++[(⟨1,i,0,[]⟩:Ev)]).length:Int)≤100000000:=by simp;omega
    rw[show evs++(⟨1,i,0,[]⟩:Ev) :: es=evs++[⟨1,i,0,[]⟩]++es by simp]
    rw[qaJ] at f1 hap
    simp only[Wd.vs,Wd.rs,Wd.o14,hcod,hcod',List.cons_append,List.nil_append] at f1 f2
    show o74_0.go _ _ _=_
    simp only[Wd.vs,Wd.rs,Wd.o14,hcod,o74_0,qaE,qaG,same_self,TT,Nat.reduceEqDiff,↓reduceIte,g,fb,fd,g2,f1,hap,encE_len,hln,w1,f2]
  ·have g2:¬(i:Int) < 2:=by omega
   obtain⟨w',code,f1,h'⟩:=qgv h (by omega) ev
   obtain⟨q1,q2,wz,es,hS,hP,hl,hg,f2⟩:=qgr mode R most hmost d (n+1) (i+1) e5 e6 w' (evs++[⟨kind,at_,num',t⟩]) (by omega) (by omega) (by simp;omega) h'
   have hcod':=h'.codes
   refine⟨q1,q2,wz,⟨kind,at_,num',t⟩ :: es,by rw[show n+(d+1)=n+1+d by omega];exact hS,.cons f1 hP,by simp[hl],?_,qaa trA ?_⟩
   ·intro e hm
    rcases List.mem_cons.1 hm with rfl | hm
    ·exact⟨ev.1,ev.2.1,et⟩
    ·exact hg e hm
   ·have hap:encE evs++[[I kind,I at_,I num',.string (qbS t)]]=encE (evs++[⟨kind,at_,num',t⟩]):=by simp[encE,Ev.v]
    have hln:((evs++[(⟨kind,at_,num',t⟩:Ev)]).length:Int)≤100000000:=by simp;omega
    rw[show evs++(⟨kind,at_,num',t⟩:Ev) :: es=evs++[⟨kind,at_,num',t⟩]++es by simp]
    simp only[Wd.vs,Wd.rs,Wd.o14,hcod,hcod',List.cons_append,List.nil_append] at f1 f2
    show o74_0.go _ _ _=_
    simp only[Wd.vs,Wd.rs,Wd.o14,hcod,o74_0,qaE,qaG,same_self,TT,Nat.reduceEqDiff,↓reduceIte,g,fb,fd,g2,f1,hap,encE_len,hln,w1,f2]
theorem f_events:∃(mode:Int) (ws:List Way) (es:List Ev) (w0 w:Wd) (n:Nat),fin trA 891 [] [b]=some (0,[I mode],[qaR ws,encE es])∧(mode=1∨mode=2)∧ws.Sublist ways0∧n≤40∧es.length=n∧(∀e∈es,e.good) ∧
  fin trA 269 [I mode] [qaR ws]=some (0,w0.vs,w0.rs)∧WdS 0 ws w0∧Plays w0 es w∧WdS n ws w:=by
 obtain⟨h1,f1⟩:=f_new hb
 rw[show(0:Int)=((0:Nat):Int) from rfl] at f1
 obtain⟨i3,h3,mode,f3,hm⟩:=f_mode hb 0 h1
 obtain⟨i4,h4,ws,hws,f4⟩:=f_routes hb i3 h3
 have hwl:ws.length≤5:=by have:=hws.length_le;simpa [ways0] using this
 obtain⟨w0,f5,k0,kd,kw,kc,kk⟩:=qhj hm hwl
 have s0:WdS 0 ws w0:=⟨k0,by rw[kd];rfl,kw,kc,kk⟩
 have hbl:b.length≤100000000:=hb.1
 have eq1:qbm .quo (.int .i64 (b.length:Int)) (.int .i64 4)=.int .i64 ((b.length / 4:Nat):Int):=by
  show Value.int .i64 (wr (((b.length:Nat):Int).tdiv 4))=_
  rw[Int.tdiv_eq_ediv_of_nonneg (by omega),qaj (by omega) (by omega)]
  rfl
 have e10:wr (10+((b.length / 4:Nat):Int))=((10+b.length / 4:Nat):Int):=by rw[qaj (by omega) (by omega)];omega
 have fin':∀most:Nat,most≤40→((40 < 10+b.length / 4∧most=40)∨(¬40 < 10+b.length / 4∧most=10+b.length / 4))→∃(mode:Int) (ws:List Way) (es:List Ev) (w0 w:Wd) (n:Nat),fin trA 891 [] [b]=some (0,[I mode],[qaR ws,encE es])∧(mode=1∨mode=2)∧ws.Sublist ways0∧n≤40∧es.length=n∧(∀e∈es,e.good) ∧
  fin trA 269 [I mode] [qaR ws]=some (0,w0.vs,w0.rs)∧WdS 0 ws w0∧Plays w0 es w∧WdS n ws w:=by
  intro most hmost hcase
  obtain⟨q1,q2,w,es,hS,hP,hl,hg,f6⟩:=qgr hb mode (qaR ws) most (by omega) most 0 0 i4 h4 w0 [] (by omega) (by omega) (Nat.le_refl _) s0
  rw[Nat.zero_add] at hS
  refine⟨mode,ws,es,w0,w,most,qaa trA ?_,hm,hws,hmost,hl,hg,f5,s0,hP,hS⟩
  have c0:=s0.codes
  rw[show((0:Nat):Int)=0 from rfl] at f1 f3 f6
  rw[List.nil_append] at f6
  simp only[Wd.vs,Wd.rs,c0,List.cons_append,List.nil_append,encE,List.map_nil] at f5 f6
  show o74.go _ _ _=_
  rcases hcase with ⟨hc,rfl⟩ | ⟨hc,rfl⟩
  ·have g:(40:Int) < ((10+b.length / 4:Nat):Int):=by omega
   have f6':=f6
   rw[show((40:Nat):Int)=40 from rfl] at f6'
   simp only[o74,TT,Nat.reduceEqDiff,↓reduceIte,f1,f3,f4,eq1,e10,gt_iff_lt,g,f5,f6',encE]
  ·have g:¬(40:Int) < ((10+b.length / 4:Nat):Int):=by omega
   simp only[o74,TT,Nat.reduceEqDiff,↓reduceIte,f1,f3,f4,eq1,e10,gt_iff_lt,g,f5,f6,encE]
 by_cases hc:40 < 10+b.length / 4
 ·exact fin' 40 (by omega) (.inl ⟨hc,rfl⟩)
 ·exact fin' (10+b.length / 4) (by omega) (.inr ⟨hc,rfl⟩)
end
theorem f_run0 {evs:List Ev} (hg:∀e∈evs,e.good) (hl:evs.length≤100) (mode:Int) (r0 r2 r3 r4 r5 r6 r7 r8 r9 r10 r11 r12 r13 r14 r15 r16:Rw):∀(d i:Nat),i+d=evs.length →
  fin trA 326 [I mode,I 0,I 0,I 0,I 0,I 0,B false,B true,I i] [r0,encE evs,r2,r3,r4,r5,r6,r7,r8,r9,r10,r11,r12,r13,r14,r15,r16]=some (0,[B true],[])
 | 0,i,hi=>by
  refine qaa trA ?_
  show o27_0.go _ _ _=_
  have g:¬(i:Int) < (evs.length:Int):=by omega
  simp only[o27_0,TT,Nat.reduceEqDiff,↓reduceIte,encE_len,g]
 | d+1,i,hi=>by
  have ih:=f_run0 hg hl mode r0 r2 r3 r4 r5 r6 r7 r8 r9 r10 r11 r12 r13 r14 r15 r16 d (i+1) (by omega)
  have hlt:i < evs.length:=by omega
  have g:(i:Int) < (evs.length:Int):=by omega
  have g0:(0:Int)≤(i:Int):=by omega
  have w:=qaB (i:=i) (n:=1000) (by omega) (by omega)
  have e1:=f_evOk (hg _ (List.getElem_mem hlt))
  refine qaa trA ?_
  show o27_0.go _ _ _=_
  simp only[o27_0,TT,Nat.reduceEqDiff,↓reduceIte,encE_len,Int.toNat_natCast,encE_get evs i hlt,Ev.v,g,g0,e1,w,ih]
theorem f_run2 {evs:List Ev} (hl:evs.length≤100) (x1 x2 x3 x4 x5:Int) (x6:Bool) (r1 r2 r3 r4 r5 r6 r7 r8 r9 r10 r11 r12 r13 r14 r15:Rw) {w':Wd}:∀(d i:Nat) (w:Wd) (codes:List Int),i+d=evs.length→Plays w (evs.drop i) w'→codes.length≤i →
  ∃codes':List Int,fin trA 327 ([I x1,I x2,I x3,I x4,I x5,B x6]++w.vs++[I i]) (encE evs :: r1 :: r2 :: r3 :: r4 :: r5 :: r6 :: r7 :: r8 :: r9 :: r10 :: r11 :: r12 :: r13 :: r14 :: r15 :: ({ w with codes:=codes }:Wd).rs) =
   some (0,w'.vs,[qag w'.a,qax w'.g.l,qaI w'.g.p,qaR w'.g.w,qbb w'.g.o,qbs w'.net,qak w'.known,qak w'.taken,qas w'.begun,qas w'.dn,qas w'.sent,qas w'.got,qak codes',qbE w'.cs,qak w'.ad])
 | 0,i,w,codes,hi,hP,hc=>by
  rw[List.drop_eq_nil_of_le (by omega)] at hP
  cases hP
  refine⟨codes,qaa trA ?_⟩
  show o27_2.go _ _ _=_
  have g:¬(i:Int) < (evs.length:Int):=by omega
  simp only[Wd.vs,Wd.rs,o27_2,TT,Nat.reduceEqDiff,↓reduceIte,encE_len,g]
 | d+1,i,w,codes,hi,hP,hc=>by
  have hlt:i < evs.length:=by omega
  have g:(i:Int) < (evs.length:Int):=by omega
  have g0:(0:Int)≤(i:Int):=by omega
  have wi:=qaB (i:=i) (n:=1000) (by omega) (by omega)
  rw[List.drop_eq_getElem_cons hlt] at hP
  cases hP with
  | @cons _ w1 _ _ _ code hd hk =>
   obtain⟨codes',e2⟩:=f_run2 hl x1 x2 x3 x4 x5 x6 r1 r2 r3 r4 r5 r6 r7 r8 r9 r10 r11 r12 r13 r14 r15 d (i+1) w1 (codes++[code]) (by omega) hk (by simp;omega)
   have e1:=do_codes (qak codes) hd
   have hap:qak codes++[[I code]]=qak (codes++[code]):=by simp[qak]
   have hln:((codes++[code]).length:Int)≤100000000:=by simp;omega
   refine⟨codes',qaa trA ?_⟩
   simp only[Wd.vs,Wd.rs,Wd.o14,Ev.v,List.cons_append,List.nil_append] at e1 e2
   show o27_2.go _ _ _=_
   simp only[Wd.vs,Wd.rs,o27_2,TT,Nat.reduceEqDiff,↓reduceIte,encE_len,Int.toNat_natCast,encE_get evs i hlt,Ev.v,g,g0,e1,hap,encI_len,hln,wi,e2]
theorem f_run {mode:Int} (hm:mode=1∨mode=2) {ws:List Way} (hws:ws.Sublist ways0) {es:List Ev} (hl:es.length≤40) (hg:∀e∈es,e.good) {w0 w:Wd} (h0:fin trA 269 [I mode] [qaR ws]=some (0,w0.vs,w0.rs)) (c0:w0.codes=[]) (hP:Plays w0 es w) :
  ∃codes:List Int,fin trA 328 [I mode] [qaR ws,encE es]=some (0,w.vs++[B true],({ w with codes:=codes }:Wd).rs):=by
 have hwl:ws.length≤5:=by have:=hws.length_le;simpa [ways0] using this
 obtain⟨bw,p1,p2⟩:=routesOk2 (l:=ws) (by omega)
 have p3:=i_routesOk hws
 rw[p1] at p3
 obtain rfl:bw=true:=by simpa using p3
 have hin:inB mode 1 2=true:=by rcases hm with rfl | rfl<;>rfl
 have e1:=f_run0 hg (by omega) mode (qaR ws) [] [] [] [] [] [] [] [] [] [] [] [] [] [] [] es.length 0 (by omega)
 obtain⟨codes,e2⟩:=f_run2 (evs:=es) (w':=w) (by omega) 0 0 0 0 0 false [] [] [] [] [] [] [] [] [] [] [] [] [] [] [] es.length 0 w0 [] (by omega) (by rw[List.drop_zero];exact hP) (Nat.le_refl _)
 have g:(es.length:Int)≤50:=by omega
 refine⟨codes,qaa trA ?_⟩
 rw[show((0:Nat):Int)=0 from rfl] at e1 e2
 simp only[Wd.vs,Wd.rs,c0,List.cons_append,List.nil_append] at h0 e2
 show o27.go _ _ _=_
 simp only[Wd.vs,Wd.rs,o27,TT,Nat.reduceEqDiff,↓reduceIte,encE_len,g,p2,f_in,hin,e1,h0,e2]
theorem WdS.watch {n:Nat} {ws:List Way} {w:Wd} (h:WdS n ws w) (hn:n≤44):WdW w:=by
 have g:=h.inv.gate
 have:=g.few;have:=g.pool.few;have:=g.ways;have:=g.outs
 have:=h.inv.knl;have:=h.inv.begun;have:=h.inv.dn;have:=h.inv.sent;have:=h.inv.got
 exact⟨h.inv.ok,h.inv.gname,by omega,by omega,by omega,by omega,by omega,by omega,by omega,by omega,by omega⟩
section
variable {b:Rw} (hb:Bys b)
include hb
theorem f_some (i:Nat) (h:Int) {x:Int} (r1:0≤x) (r2:x < 14):∃(q1:Nat) (q2:Int) (w:Wd) (m:Nat) (ws:List Way),m≤35∧WdS m ws w∧fin trA 483 [I i,I h,I (3+x)] [b]=some (0,[I q1,I q2]++w.vs,w.rs):=by
 obtain⟨d,hd⟩:∃d:Nat,3+x=d:=⟨(3+x).toNat,by omega⟩
 obtain⟨i3,h3,mode,f3,hm⟩:=f_mode hb i h
 obtain⟨i4,h4,ws,hws,f4⟩:=f_routes hb i3 h3
 have hwl:ws.length≤5:=by have:=hws.length_le;simpa [ways0] using this
 obtain⟨w0,f5,k0,kd,kw,kc,kk⟩:=qhj hm hwl
 have s0:WdS 0 ws w0:=⟨k0,by rw[kd];rfl,kw,kc,kk⟩
 obtain⟨w1,code,f6,s1⟩:=qgv s0 (by omega) (kind:=1) (at_:=0) (num:=0) (t:=[]) ⟨by omega,by omega,by omega⟩
 obtain⟨q1,q2,w2,m,hmm,s2,f7⟩:=f_some0 hb d 1 0 i4 h4 w1 (by omega) (by omega) s1
 have c0:=s0.codes;have c1:=s1.codes;have c2:=s2.codes
 rw[qaJ] at f6
 rw[show(0+d:Nat)=d by omega,←hd,show((0:Nat):Int)=0 from rfl] at f7
 simp only[Wd.vs,Wd.rs,Wd.o14,c0,c1,c2,List.cons_append,List.nil_append] at f5 f6 f7
 refine⟨q1,q2,w2,m,ws,hmm,s2,qaa trA ?_⟩
 show o40.go _ _ _=_
 simp only[Wd.vs,Wd.rs,c2,o40,TT,Nat.reduceEqDiff,↓reduceIte,f3,f4,f5,f6,f7]
theorem f_ways (i:Nat) (h:Int):∃(q1:Nat) (q2:Int) (ws:List Way),ws.length≤20∧fin trA 2462 [I i,I h] [b]=some (0,[I q1,I q2],[qaR ws]):=by
 obtain⟨i1,h1,k,f1,r1,r1'⟩:=qaH hb i h (n:=8) (by omega)
 obtain⟨i2,h2,ws,hws,f2⟩:=f_routes hb i1 h1
 have hwl:ws.length≤5:=by have:=hws.length_le;simpa [ways0] using this
 have g1:(ws.length:Int)≤100000000:=by omega
 by_cases c0:k=0
 ·obtain⟨i3,h3,x3,f3,_,_⟩:=qaH hb i2 h2 (n:=40) (by omega)
  obtain⟨i4,h4,x4,f4,_,_⟩:=qaH hb i3 h3 (n:=10) (by omega)
  obtain⟨i5,h5,x5,f5,_,_⟩:=qaH hb i4 h4 (n:=11) (by omega)
  have hap:qaR ws++[[I x3,I x4,I x5]]=qaR (ws++[⟨x3,x4,x5⟩]):=by simp[qaR,Way.v]
  have g2:((ws++[(⟨x3,x4,x5⟩:Way)]).length:Int)≤100000000:=by simp;omega
  refine⟨i5,h5,ws++[⟨x3,x4,x5⟩],by simp;omega,qaa trA ?_⟩
  show o205.go _ _ _=_
  simp only[o205,TT,Nat.reduceEqDiff,↓reduceIte,f1,f2,qar,g1,c0,f3,f4,f5,hap,g2]
 by_cases c1:k=1
 ·have hap:qaR ws++qaR ws=qaR (ws++ws):=by simp[qaR]
  have g2:((ws++ws).length:Int)≤100000000:=by simp;omega
  refine⟨i2,h2,ws++ws,by simp;omega,qaa trA ?_⟩
  show o205.go _ _ _=_
  simp only[o205,TT,Nat.reduceEqDiff,↓reduceIte,f1,f2,qar,g1,c1,Int.reduceEq,hap,g2]
 ·refine⟨i2,h2,ws,by omega,qaa trA ?_⟩
  show o205.go _ _ _=_
  simp only[o205,TT,Nat.reduceEqDiff,↓reduceIte,f1,f2,qar,g1,c0,c1]
theorem f_any (i:Nat) (h:Int):∃(q1:Nat) (q2:Int) (v:Wd),fin trA 1886 [I i,I h] [b]=some (0,[I q1,I q2]++v.vs,v.rs)∧v.g.name=9∧v.g.l.length≤100∧v.g.p.length≤100∧v.g.w.length≤100∧v.g.o.length≤100:=by
 obtain⟨i1,h1,k,f1,_,_⟩:=qaH hb i h (n:=14) (by omega)
 obtain⟨i2,h2,y,f2,ry,ry'⟩:=qaH hb i1 h1 (n:=60) (by omega)
 obtain⟨i3,h3,x,f3,rx,rx'⟩:=qaH hb i2 h2 (n:=14) (by omega)
 have wx:wr (3+x)=3+x:=qaj (by omega) (by omega)
 obtain⟨q1,q2,w,m,ws,hm,hS,f4⟩:=f_some hb i3 h3 rx rx'
 have hW:=hS.watch (by omega)
 have b1:=hW.l;have b2:=hW.p;have b3:=hW.ways;have b4:=hW.o
 simp only[Wd.vs,Wd.rs,List.cons_append,List.nil_append] at f4
 by_cases c0:k=0
 ·have e:y.tmod 3=0∨y.tmod 3=1∨y.tmod 3=2:=by
   have:=Int.tmod_nonneg (a:=y) 3 ry
   have:=Int.tmod_lt_of_pos y (show(0:Int) < 3 by omega)
   omega
  rcases e with e | e | e
  ·refine⟨q1,q2,{ w with g:={ w.g with next:=0 } },qaa trA ?_,hW.name,b1,b2,b3,b4⟩
   show o157.go _ _ _=_
   simp only[Wd.vs,Wd.rs,o157,TT,Nat.reduceEqDiff,↓reduceIte,TN,Nat.reduceAdd,Int.reduceLT,Int.reduceLE,Int.reduceToNat,f1,f2,f3,wx,f4,c0,e]
  ·refine⟨q1,q2,{ w with g:={ w.g with next:=9999 } },qaa trA ?_,hW.name,b1,b2,b3,b4⟩
   show o157.go _ _ _=_
   simp only[Wd.vs,Wd.rs,o157,TT,Nat.reduceEqDiff,↓reduceIte,TN,Nat.reduceAdd,Int.reduceLT,Int.reduceLE,Int.reduceToNat,f1,f2,f3,wx,f4,c0,e]
  ·refine⟨q1,q2,{ w with g:={ w.g with next:=10000 } },qaa trA ?_,hW.name,b1,b2,b3,b4⟩
   show o157.go _ _ _=_
   simp only[Wd.vs,Wd.rs,o157,TT,Nat.reduceEqDiff,↓reduceIte,TN,Nat.reduceAdd,Int.reduceLT,Int.reduceLE,Int.reduceToNat,f1,f2,f3,wx,f4,c0,e]
 by_cases c1:k=1
 ·obtain⟨e1,he1⟩:∃e:Int,wr (9+y.tmod 5)=e:=⟨_,rfl⟩
  have hap:qaI w.g.p++[[I e1,I (y.tmod 4)]]=qaI (w.g.p++[⟨e1,y.tmod 4⟩]):=by simp[qaI,Le.v]
  have hf:=hS.inv.gate.pool.few
  have g2:((w.g.p++[(⟨e1,y.tmod 4⟩:Le)]).length:Int)≤100000000:=by simp;omega
  refine⟨q1,q2,{ w with g:={ w.g with p:=w.g.p++[⟨e1,y.tmod 4⟩] } },qaa trA ?_,hW.name,b1,by show(w.g.p++_).length≤100;simp;omega,b3,b4⟩
  show o157.go _ _ _=_
  simp only[Wd.vs,Wd.rs,o157,TT,Nat.reduceEqDiff,↓reduceIte,f1,f2,f3,wx,f4,c1,Int.reduceEq,he1,hap,qai,g2]
 by_cases c2:k=2
 ·obtain⟨q3,q4,ws',hws',f5⟩:=f_ways hb q1 q2
  refine⟨q3,q4,{ w with g:={ w.g with w:=ws' } },qaa trA ?_,hW.name,b1,b2,by show ws'.length≤100;omega,b4⟩
  show o157.go _ _ _=_
  simp only[Wd.vs,Wd.rs,o157,TT,Nat.reduceEqDiff,↓reduceIte,f1,f2,f3,wx,f4,c2,Int.reduceEq,f5]
 by_cases c3:k=3
 ·by_cases g:(0:Int) < (w.g.l.length:Int)
  ·have hset:=set_state w.g.l 0 (y.tmod 4)
   refine⟨q1,q2,{ w with g:={ w.g with l:=w.g.l.modify 0 fun s=>{ s with state:=y.tmod 4 } } },qaa trA ?_,hW.name,by show(w.g.l.modify 0 _).length≤100;rw[List.length_modify];exact b1,b2,b3,b4⟩
   show o157.go _ _ _=_
   simp only[Wd.vs,Wd.rs,o157,TT,Nat.reduceEqDiff,↓reduceIte,f1,f2,f3,wx,f4,c3,Int.reduceEq,qad,gt_iff_lt,g,Int.le_refl,Int.toNat_zero,hset]
  ·refine⟨q1,q2,w,qaa trA ?_,hW.name,b1,b2,b3,b4⟩
   show o157.go _ _ _=_
   simp only[Wd.vs,Wd.rs,o157,TT,Nat.reduceEqDiff,↓reduceIte,f1,f2,f3,wx,f4,c3,Int.reduceEq,qad,gt_iff_lt,g]
 by_cases c4:k=4
 ·by_cases g:(0:Int) < (w.g.l.length:Int)
  ·have hlt:0 < w.g.l.length:=by omega
   have eg:=qaq w.g.l 0 hlt
   have hap:qax w.g.l++[(w.g.l[0]).v]=qax (w.g.l++[w.g.l[0]]):=by simp[qax]
   have hf:=hS.inv.gate.few
   have g2:((w.g.l++[w.g.l[0]]).length:Int)≤100000000:=by simp;omega
   simp only[Se.v] at hap
   refine⟨q1,q2,{ w with g:={ w.g with l:=w.g.l++[w.g.l[0]] } },qaa trA ?_,hW.name,by show(w.g.l++_).length≤100;simp;omega,b2,b3,b4⟩
   show o157.go _ _ _=_
   simp only[Wd.vs,Wd.rs,o157,TT,Nat.reduceEqDiff,↓reduceIte,f1,f2,f3,wx,f4,c4,Int.reduceEq,qad,gt_iff_lt,g,Int.le_refl,Int.toNat_zero,eg,Se.v,hap,g2]
  ·refine⟨q1,q2,w,qaa trA ?_,hW.name,b1,b2,b3,b4⟩
   show o157.go _ _ _=_
   simp only[Wd.vs,Wd.rs,o157,TT,Nat.reduceEqDiff,↓reduceIte,f1,f2,f3,wx,f4,c4,Int.reduceEq,qad,gt_iff_lt,g]
 ·refine⟨q1,q2,w,qaa trA ?_,hW.name,b1,b2,b3,b4⟩
  show o157.go _ _ _=_
  simp only[Wd.vs,Wd.rs,o157,TT,Nat.reduceEqDiff,↓reduceIte,f1,f2,f3,wx,f4,c0,c1,c2,c3,c4]
theorem f_world:∃w,fin trA 1874 [] [b]=some (0,w.vs,w.rs)∧∃(n:Nat) (ws:List Way) (w1:Wd),n≤40∧WdS n ws w1∧∃codes,w={ w1 with codes:=codes }:=by
 obtain⟨mode,ws,es,w0,w,n,f1,hm,hws,hn,hl,hg,f2,s0,hP,hS⟩:=f_events hb
 obtain⟨codes,f3⟩:=f_run hm hws (by omega) hg f2 s0.codes hP
 simp only[Wd.vs,Wd.rs,List.cons_append,List.nil_append] at f3
 refine⟨{ w with codes:=codes },qaa trA ?_,n,ws,w,hn,hS,codes,rfl⟩
 show o156.go _ _ _=_
 simp only[Wd.vs,Wd.rs,o156,TT,Nat.reduceEqDiff,↓reduceIte,f1,f3]
end
theorem f_bent1 {dn:List Nt} (hd:dn.length≤1000) (x0 x1 x2 x3 x4 x5 x6 x7 x8 x9 x10 x11 x12 x14:Int) (r0 r1 r2 r3 r4 r5 r6 r7 r8 r9 r10 r11 r12 r13 r14 r15 r16 r17 r18 r19 r20 r21 r22 r23 r25 r26 r28 r29 r30:Rw):∀(d i:Nat) (known:List Int),i+d=dn.length→known.length+d≤100000 →
  fin trA 1130 [I x0,I x1,I x2,I x3,I x4,I x5,I x6,I x7,I x8,I x9,I x10,I x11,I x12,I i,I x14] [r0,r1,r2,r3,r4,r5,r6,r7,r8,r9,r10,r11,r12,r13,r14,r15,r16,r17,r18,r19,r20,r21,r22,r23,qak known,r25,r26,qas dn,r28,r29,r30]=some (0,[],[qak (known++(dn.drop i).map Nt.app)])
 | 0,i,known,hi,hk=>by
  refine qaa trA ?_
  show o94_1.go _ _ _=_
  have g:¬(i:Int) < (dn.length:Int):=by omega
  rw[List.drop_eq_nil_of_le (by omega),List.map_nil,List.append_nil]
  simp only[o94_1,TT,Nat.reduceEqDiff,↓reduceIte,encN_len,g]
 | d+1,i,known,hi,hk=>by
  have hlt:i < dn.length:=by omega
  have ih:=f_bent1 hd x0 x1 x2 x3 x4 x5 x6 x7 x8 x9 x10 x11 x12 x14 r0 r1 r2 r3 r4 r5 r6 r7 r8 r9 r10 r11 r12 r13 r14 r15 r16 r17 r18 r19 r20 r21 r22 r23 r25 r26 r28 r29 r30 d (i+1) (known++[dn[i].app]) (by omega) (by simp;omega)
  have g:(i:Int) < (dn.length:Int):=by omega
  have g0:(0:Int)≤(i:Int):=by omega
  have w:=qaB (i:=i) (n:=1000) (by omega) (by omega)
  have hap:qak known++[[I dn[i].app]]=qak (known++[dn[i].app]):=by simp[qak]
  have g2:((known++[dn[i].app]).length:Int)≤100000000:=by simp;omega
  refine qaa trA ?_
  show o94_1.go _ _ _=_
  rw[List.drop_eq_getElem_cons hlt,List.map_cons,show known++dn[i].app :: (dn.drop (i+1)).map Nt.app=known++[dn[i].app]++(dn.drop (i+1)).map Nt.app by simp]
  simp only[o94_1,TT,Nat.reduceEqDiff,↓reduceIte,encN_len,Int.toNat_natCast,qah dn i hlt,Nt.v,g,g0,hap,encI_len,g2,w,ih]
section
variable {b:Rw} (hb:Bys b)
include hb
theorem f_bent:∃w,fin trA 374 [] [b]=some (0,w.vs,w.rs)∧WdW w:=by
 have key:∃w,fin trA 1131 [] [b]=some (0,w.vs,w.rs)∧WdW w:=by
  obtain⟨h1,f1⟩:=f_new hb
  obtain⟨i2,h2,k,f2,_,_⟩:=qaH hb 0 h1 (n:=12) (by omega)
  obtain⟨i3,h3,y,f3,_,_⟩:=qaH hb i2 h2 (n:=60) (by omega)
  rw[show((0:Nat):Int)=0 from rfl] at f2
  obtain⟨w,f4,n,ws,w1,hn,hS,codes,rfl⟩:=f_world hb
  have hW:=hS.watch (by omega)
  have i:=hS.inv
  have a1:=i.knl;have a2:=i.begun;have a3:=i.dn;have a4:=i.sent;have a5:=i.got;have a6:=i.gate.outs
  simp only[Wd.vs,Wd.rs] at f4
  by_cases c0:k=0
  ·refine⟨{ w1 with codes:=codes,begun:=[] },qaa trA ?_,{ hW with begun:=Nat.zero_le _ }⟩
   show o94.go _ _ _=_
   simp only[Wd.vs,Wd.rs,o94,TT,Nat.reduceEqDiff,↓reduceIte,f1,f2,f3,f4,c0]
   rfl
  by_cases c1:k=1
  ·refine⟨{ w1 with codes:=codes,sent:=[] },qaa trA ?_,{ hW with sent:=Nat.zero_le _ }⟩
   show o94.go _ _ _=_
   simp only[Wd.vs,Wd.rs,o94,TT,Nat.reduceEqDiff,↓reduceIte,f1,f2,f3,f4,c1,Int.reduceEq]
   rfl
  by_cases c2:k=2
  ·have hap:qas w1.got++qas w1.got=qas (w1.got++w1.got):=by simp[qas]
   have g:((w1.got++w1.got).length:Int)≤100000000:=by simp;omega
   refine⟨{ w1 with codes:=codes,got:=w1.got++w1.got },qaa trA ?_,{ hW with got:=by show(w1.got++w1.got).length≤1000;simp;omega }⟩
   show o94.go _ _ _=_
   simp only[Wd.vs,Wd.rs,o94,TT,Nat.reduceEqDiff,↓reduceIte,f1,f2,f3,f4,c2,Int.reduceEq,hap,encN_len,g]
  by_cases c3:k=3
  ·have f5:=f_bent1 (dn:=w1.dn) (by omega) 0 0 0 0 0 i3 h3 y w1.g.name w1.g.next w1.g.drops w1.now w1.draw 3 [] [] [] [] [] [] [] [] [] [] [] [] [] [] [] b (qag w1.a) (qbE w1.cs) (qak w1.ad) (qax w1.g.l) (qaI w1.g.p) (qaR w1.g.w) (qbb w1.g.o) (qbs w1.net) (qak w1.taken) (qas w1.begun) (qas w1.sent) (qas w1.got) (qak codes) w1.dn.length 0 w1.known (by omega) (by omega)
   rw[show((0:Nat):Int)=0 from rfl,List.drop_zero] at f5
   refine⟨{ w1 with codes:=codes,known:=w1.known++w1.dn.map Nt.app },qaa trA ?_,{ hW with kn:=by show(w1.known++w1.dn.map Nt.app).length≤100000;simp;omega }⟩
   show o94.go _ _ _=_
   simp only[Wd.vs,Wd.rs,o94,TT,Nat.reduceEqDiff,↓reduceIte,f1,f2,f3,f4,c3,Int.reduceEq,f5]
  by_cases c4:k=4
  ·have hap:qbb w1.g.o++[[I 0,I y,I 0,I 0,I 0]]=qbb (w1.g.o++[⟨0,y,0,0,0⟩]):=by simp[qbb,Ou.v]
   have g:((w1.g.o++[(⟨0,y,0,0,0⟩:Ou)]).length:Int)≤100000000:=by simp;omega
   refine⟨{ w1 with codes:=codes,g:={ w1.g with o:=w1.g.o++[⟨0,y,0,0,0⟩] } },qaa trA ?_,{ hW with o:=by show(w1.g.o++[_]).length≤100;simp;omega }⟩
   show o94.go _ _ _=_
   simp only[Wd.vs,Wd.rs,o94,TT,Nat.reduceEqDiff,↓reduceIte,f1,f2,f3,f4,c4,Int.reduceEq,hap,qaK,g]
  by_cases c5:k=5
  ·obtain⟨q1,q2,v,f5,v0,v1,v2,v3,v4⟩:=f_any hb i3 h3
   simp only[Wd.vs,Wd.rs,List.cons_append,List.nil_append] at f5
   refine⟨{ w1 with codes:=codes,g:=v.g },qaa trA ?_,{ hW with name:=v0,l:=v1,p:=v2,ways:=v3,o:=v4 }⟩
   show o94.go _ _ _=_
   simp only[Wd.vs,Wd.rs,o94,TT,Nat.reduceEqDiff,↓reduceIte,f1,f2,f3,f4,c5,Int.reduceEq,f5]
  by_cases c6:k=6
  ·obtain⟨e1,he1⟩:∃e:Int,wr (1+y.tmod 2)=e:=⟨_,rfl⟩
   have hap:∀s:Bool,qas w1.dn++[[I e1,I 0,I y,I 0,I 0,I y,B s]]=qas (w1.dn++[⟨e1,0,y,0,0,y,s⟩]):=fun s=>by simp[qas,Nt.v]
   have g:∀s:Bool,((w1.dn++[(⟨e1,0,y,0,0,y,s⟩:Nt)]).length:Int)≤100000000:=fun s=>by simp;omega
   refine⟨{ w1 with codes:=codes,dn:=w1.dn++[⟨e1,0,y,0,0,y,decide (0 < y.tmod 3)⟩] },qaa trA ?_,{ hW with dn:=by show(w1.dn++[_]).length≤1000;simp;omega }⟩
   show o94.go _ _ _=_
   simp only[Wd.vs,Wd.rs,o94,TT,Nat.reduceEqDiff,↓reduceIte,f1,f2,f3,f4,c6,Int.reduceEq,he1,hap,encN_len,g]
  ·refine⟨{ w1 with codes:=codes },qaa trA ?_,{ hW with }⟩
   show o94.go _ _ _=_
   simp only[Wd.vs,Wd.rs,o94,TT,Nat.reduceEqDiff,↓reduceIte,f1,f2,f3,f4,c0,c1,c2,c3,c4,c5,c6]
 obtain⟨w,f,h⟩:=key
 refine⟨w,qaa trA ?_,h⟩
 simp only[Wd.vs,Wd.rs] at f
 show o31.go _ _ _=_
 simp only[Wd.vs,Wd.rs,o31,TT,Nat.reduceEqDiff,↓reduceIte,f]
end
theorem bv_eqb (a b:Bool):qbm .eql (.bool a) (.bool b)=.bool (a==b):=rfl
theorem i_agreed0:fin trA 351 [I 0,I 0,I 0,I 0,I 0] [[],[],[],[],[],[],[],[],[],[],[],[],[],[],[]]=some (0,[B true],[]):=by
 have e:fin trA 350 [I 0,I 0,I 0,I 0,I 0,B false,I 0,I 0] [[],[],[],[],[],[],[],[],[],[],[],[],[],[],[]]=some (0,[],[]):=by
  refine qaa trA ?_
  show o29_0.go _ _ _=_
  simp only[o29_0,TT,Nat.reduceEqDiff,↓reduceIte,Int.lt_irrefl]
 refine qaa trA ?_
 show o29.go _ _ _=_
 simp only[o29,qac,TT,Nat.reduceEqDiff,↓reduceIte,List.length_nil,show((0:Nat):Int)=0 from rfl,e]
theorem f_lawW (hao:∀a:Ar,AOk a→fin trA 1142 [] [qag a]=some (0,[B true],[])) {b:Rw} (hb:∀e∈b,∃x:Int,e=[.int .u8 x]):fin trA 74 [] [b]=some (0,[B true],[]):=by
 by_cases hbig:(1048576:Int) < (b.length:Int)
 ·have e0:fin trA 86 [] [b]=some (0,[B true],[]):=by
   refine qaa trA ?_
   show o7.go _ _ _=_
   simp only[o7,TT,Nat.reduceEqDiff,↓reduceIte,hbig]
  refine qaa trA ?_
  show o6.go _ _ _=_
  simp only[o6,TT,Nat.reduceEqDiff,↓reduceIte,e0]
 have e0:fin trA 86 [] [b]=some (0,[B false],[]):=by
  refine qaa trA ?_
  show o7.go _ _ _=_
  simp only[o7,TT,Nat.reduceEqDiff,↓reduceIte,hbig]
 have hB:Bys b:=⟨by omega,hb⟩
 obtain⟨w,e1,hW⟩:=f_bent hB
 have ha:=hao w.a hW.ok
 obtain⟨b1,p1,q1⟩:=sound2 hW ha
 obtain⟨b2,p2,q2⟩:=agreed2 hW
 obtain⟨b3,p3,q3⟩:=came2 hW
 obtain⟨b4,p4,q4⟩:=secret2 hW ha
 obtain⟨b5,p5,q5⟩:=places2 hW
 simp only[Wd.vs,Wd.rs] at e1 p1 q1 p2 q2 p3 q3 p4 q4 p5 q5
 refine qaa trA ?_
 show o6.go _ _ _=_
 simp only[o6,TT,Nat.reduceEqDiff,↓reduceIte,e0,e1,p1,q1,p2,q2,p3,q3,p4,q4,p5,q5,bv_eqb,beq_self_eq_true,i_agreed0]
theorem i_arenaOk {a:Ar} (ha:AOk a):fin trA 1142 [] [qag a]=some (0,[B true],[]):=by
 refine qaa trA ?_
 show o95.go _ _ _=_
 simp only[o95,TT,Nat.reduceEqDiff,↓reduceIte,qeC ha]
theorem f_law6 {b:Rw} (hb:∀e∈b,∃x:Int,e=[.int .u8 x]):fin trA 74 [] [b]=some (0,[B true],[]):=f_lawW (fun _ ha=>i_arenaOk ha) hb
end Go.Proofs.YtipomcnbjlfekaaGreat.Rs
