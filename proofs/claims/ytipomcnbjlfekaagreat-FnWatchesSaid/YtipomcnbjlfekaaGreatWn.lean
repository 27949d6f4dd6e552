import Derived.Test.YtipomcnbjlfekaaGreatProg
import Derived.WalkKit
import Derived.OwnWalk
import Derived.Maps.Own
import Derived.Maps.OwnOps
import Derived.Maps.Views
import Derived.Maps.OwnSet
import Derived.DeepKeys4
import Derived.WideKeyEntry
import Derived.KernelRfl
import Derived.Test.YtipomcnbjlfekaaGreatWm
/- Parts of the proof, merged by a program. -/
namespace Go.Proofs.YtipomcnbjlfekaaGreat.Rs
set_option maxRecDepth 100000
set_option linter.all false
open Go.RowKit Go.Maps
theorem laidP:laidOutB Tryz.prog=true:=by kernel_rfl
theorem lits3 (n:Nat) (x:Int) (h:(Lit.int .i64 x).wf=true):Tryz.prog.keyLits (n+1) 3 [.int .i64 x]=some [.int .i64 x]:=by
 unfold Program.keyLits
 simp[Tryz.underlying3,h]
theorem key153 {k num a b:Int} (h1:(Lit.int .i64 k).wf=true) (h2:(Lit.int .i64 num).wf=true) (h3:(Lit.int .i64 a).wf=true) (h4:(Lit.int .i64 b).wf=true):∃kl,keyOf Tryz.prog 153 (.agg #[.int .i64 k,.int .i64 num,.int .i64 a,.int .i64 b])=some kl:=by
 have hkt:Tryz.prog.keyType 153=true:=by kernel_rfl
 have hc:Tryz.prog.cellsOf 153=4:=by kernel_rfl
 have hc3:Tryz.prog.cellsOf 3=1:=by kernel_rfl
 obtain⟨m,hm⟩:∃m,Tryz.prog.types.size=m+1:=⟨Tryz.prog.types.size - 1,(Nat.sub_add_cancel (by decide +kernel)).symm⟩
 have hk:Tryz.prog.keyLits (m+1+1) 153 [.int .i64 k,.int .i64 num,.int .i64 a,.int .i64 b]=some [.int .i64 k,.int .i64 num,.int .i64 a,.int .i64 b]:=by
  unfold Program.keyLits
  simp only[Tryz.underlying153]
  rw[if_pos (by rw[hc];exact⟨rfl,by decide +kernel⟩)]
  simp[hc3,lits3 m,h1,h2,h3,h4]
 unfold keyOf
 simp only[Tryz.underlying153]
 rw[if_pos (by rw[hkt,Bool.true_and];simp[Value.formed,Tryz.underlying153,hc]),hm]
 exact⟨_,by rw[show(Value.agg #[.int .i64 k,.int .i64 num,.int .i64 a,.int .i64 b]).cells.toList=[.int .i64 k,.int .i64 num,.int .i64 a,.int .i64 b] from rfl,hk];rfl⟩
open Go.ChangeMaps (setBlock heap_setBlock_same heap_setBlock_other)
structure NdX where
 k:Int
 num:Int
 a:Int
 b:Int
def NdX.v (n:NdX):Value:=.agg #[.int .i64 n.k,.int .i64 n.num,.int .i64 n.a,.int .i64 n.b]
theorem zero3 (w:World):(zeroValue 3).run Tryz.prog w=.ok (.int .i64 0) w:=by kernel_rfl
theorem lawK:WideMaps.KeyLaw Tryz.prog 153:=deep_law_laid laidP (m:=4) (by omega) (by decide +kernel) (by kernel_rfl) (by rw[Tryz.underlying153])
theorem qgT (w:World) (b:Nat) (o o':Obj):setBlock (setBlock w b o) b o'=setBlock w b o':=by
 unfold setBlock
 simp[Array.setIfInBounds_setIfInBounds]
def MapI (w:World) (M k:Nat) (ns:Nat→NdX):Prop:=∃es:Array MapEntry,w.heap[M]?=some (.map es k)∧∀e∈es.toList,e.val=.int .i64 1∧e.born < k∧∃j,j < k∧e.key=(ns j).v
theorem look_none {w:World} {M c:Nat} {es:Array MapEntry} (hb:w.heap[M]?=some (.map es c)) {key:Value} {l:Lit} (hkey:keyOf Tryz.prog 153 key=some l) (hk:∀e∈es.toList,∃l,keyOf Tryz.prog 153 e.key=some l) (hne:∀e∈es.toList,e.key≠key) :
  (Instr.lookup 198 (.map (some M)) key false).run Tryz.prog w=.ok (.int .i64 0) w∧(Instr.mapEntry 198 (.map (some M)) key).run Tryz.prog w=.ok (.tuple #[.int .i64 0,.int .i64 (c:Int)]) (setBlock w M (.map (es.push ⟨key,.int .i64 0,c⟩) (c+1))):=by
 have hf:(Instr.findKey 153 key es.toList).run Tryz.prog w=.ok none w:=by
  rcases lawK.find w hkey es.toList hk with ⟨h1,_⟩ | ⟨j,e,_,h2,h3⟩
  ·exact h1
  ·exact absurd h3 (hne e (List.mem_of_getElem? h2))
 have hc:=fun em=>lawK.check w em hkey
 have hz:=zero3 w
 constructor
 ·simp[Instr.lookup,run_underlying Tryz.underlying198,MapKept.run_getObj_map hb,hc,hf,hz,Result.andThen]
 ·simp[Instr.mapEntry,run_underlying Tryz.underlying198,MapKept.run_getObj_map hb,hc,hf,hz,MapKept.run_setObj_map _ hb,Result.andThen,setBlock,goInt]
theorem look_last {w:World} {M c c':Nat} {es:Array MapEntry} {v:Value} {key:Value} (hb:w.heap[M]?=some (.map (es.push ⟨key,v,c⟩) c')) {l:Lit} (hkey:keyOf Tryz.prog 153 key=some l) (hk:∀e∈es.toList,∃l,keyOf Tryz.prog 153 e.key=some l) (hne:∀e∈es.toList,e.key≠key) :
  (Instr.lookup 198 (.map (some M)) key false).run Tryz.prog w=.ok v w:=by
 have hk':∀e∈(es.push ⟨key,v,c⟩).toList,∃l,keyOf Tryz.prog 153 e.key=some l:=fun e he=>by
  rw[Array.toList_push] at he
  rcases List.mem_append.1 he with he | he
  ·exact hk e he
  ·rw[List.mem_singleton.1 he];exact⟨l,hkey⟩
 obtain⟨j,hf⟩:∃j,(Instr.findKey 153 key (es.push ⟨key,v,c⟩).toList).run Tryz.prog w=.ok (some (j,v)) w:=by
  rcases lawK.find w hkey _ hk' with ⟨_,h1⟩ | ⟨j,e,h1,h2,h3⟩
  ·exact absurd rfl (h1 ⟨key,v,c⟩ (by rw[Array.toList_push];simp))
  ·have he:=List.mem_of_getElem? h2
   rw[Array.toList_push] at he
   rcases List.mem_append.1 he with he | he
   ·exact absurd h3 (hne e he)
   ·rw[List.mem_singleton.1 he] at h1
    exact⟨j,h1⟩
 have hc:=fun em=>lawK.check w em hkey
 rw[Array.toList_push] at hf
 simp[Instr.lookup,run_underlying Tryz.underlying198,MapKept.run_getObj_map hb,hc,hf,Result.andThen]
theorem store_last {w:World} {M c:Nat} {es:Array MapEntry} {v v':Value} {key:Value} (hb:w.heap[M]?=some (.map (es.push ⟨key,v,c⟩) (c+1))) (hbn:∀e∈es.toList,e.born < c) :
  (Instr.entryStore 198 (.map (some M)) (.int .i64 (c:Int)) v').run Tryz.prog w=.ok () (setBlock w M (.map (es.push ⟨key,v',c⟩) (c+1))):=by
 have hidx:(es.push ⟨key,v,c⟩).findIdx? (fun e=>((e.born:Nat):Int)==((c:Nat):Int))=some es.size:=by
  rw[WideElems.findIdx_arr,Array.toList_push,List.findIdx?_append]
  have:es.toList.findIdx? (fun e=>((e.born:Nat):Int)==((c:Nat):Int))=none:=by
   rw[List.findIdx?_eq_none_iff]
   intro e he
   have:=hbn e he
   simp
   omega
  rw[this]
  simp
 have hmod:(es.push ⟨key,v,c⟩).modify es.size (fun e=>{ e with val:=v' })=es.push ⟨key,v',c⟩:=by
  apply Array.toList_inj.1
  rw[Array.toList_modify,Array.toList_push,Array.toList_push,←Array.length_toList,WideElems.modify_last]
 simp[Instr.entryStore,MapKept.run_getObj_map hb,asInt,asIntOf,hidx,hmod,MapKept.run_setObj_map _ hb,Result.andThen,setBlock]
theorem mapI_round {w:World} {M k:Nat} {ns:Nat→NdX} (h:MapI w M k ns) (hkeys:∀j,j≤k→∃l,keyOf Tryz.prog 153 (ns j).v=some l) (hne:∀j,j < k→(ns j).v≠(ns k).v) :
  ∃w1 w2,(Instr.lookup 198 (.map (some M)) (ns k).v false).run Tryz.prog w=.ok (.int .i64 0) w∧(Instr.mapEntry 198 (.map (some M)) (ns k).v).run Tryz.prog w=.ok (.tuple #[.int .i64 0,.int .i64 (k:Int)]) w1 ∧
   (Instr.lookup 198 (.map (some M)) (ns k).v false).run Tryz.prog w1=.ok (.int .i64 0) w1∧(Instr.entryStore 198 (.map (some M)) (.int .i64 (k:Int)) (.int .i64 1)).run Tryz.prog w1=.ok () w2∧MapI w2 M (k+1) ns∧w.grownBy w2 (some M) ∧
   ∀w3:World,w3.heap[M]?=w2.heap[M]?→(Instr.lookup 198 (.map (some M)) (ns k).v false).run Tryz.prog w3=.ok (.int .i64 1) w3:=by
 obtain⟨es,hb,he⟩:=h
 obtain⟨l,hl⟩:=hkeys k (Nat.le_refl _)
 have hk:∀e∈es.toList,∃l,keyOf Tryz.prog 153 e.key=some l:=fun e h=>by
  obtain⟨_,_,j,hj,e1⟩:=he e h
  rw[e1];exact hkeys j (by omega)
 have hn:∀e∈es.toList,e.key≠(ns k).v:=fun e h=>by
  obtain⟨_,_,j,hj,e1⟩:=he e h
  rw[e1];exact hne j hj
 obtain⟨f1,f2⟩:=look_none hb hl hk hn
 have hb1:(setBlock w M (.map (es.push ⟨(ns k).v,.int .i64 0,k⟩) (k+1))).heap[M]?=some (.map (es.push ⟨(ns k).v,.int .i64 0,k⟩) (k+1)):=heap_setBlock_same hb _
 have f3:=look_last hb1 hl hk hn
 have f4:=store_last (v':=.int .i64 1) hb1 (fun e h=>(he e h).2.1)
 rw[qgT] at f4
 have hb2:(setBlock w M (.map (es.push ⟨(ns k).v,.int .i64 1,k⟩) (k+1))).heap[M]?=some (.map (es.push ⟨(ns k).v,.int .i64 1,k⟩) (k+1)):=heap_setBlock_same hb _
 refine⟨_,_,f1,f2,f3,f4,⟨_,hb2,fun e h=>?_⟩,⟨rfl,rfl,rfl,by simp[setBlock],fun i _ hi=>heap_setBlock_other hb _ (fun e=>hi (by rw[e]))⟩,fun w3 h3=>look_last (h3.trans hb2) hl hk hn⟩
 rw[Array.toList_push] at h
 rcases List.mem_append.1 h with h | h
 ·obtain⟨a1,a2,j,a3,a4⟩:=he e h
  exact⟨a1,by omega,j,by omega,a4⟩
 ·rw[List.mem_singleton.1 h]
  exact⟨rfl,by show k < k+1;omega,k,by omega,rfl⟩
theorem MapI.kept {w w':World} {M k:Nat} {ns:Nat→NdX} (h:MapI w M k ns) (e:w'.heap[M]?=w.heap[M]?):MapI w' M k ns:=by
 obtain⟨es,h1,h2⟩:=h
 exact⟨es,e.trans h1,h2⟩
set_option maxHeartbeats 2000000 in
theorem walk95 (g len cap : Nat) (W : World) (ns : Nat → NdX) (hl : len ≤ 3000) (hb : g < W.heap.size)
   (hkeys : ∀ i, i < len → ∃ l, keyOf Tryz.prog 153 (ns i).v = some l) (hne : ∀ i j, j < len → i < j → (ns i).v ≠ (ns j).v)
   (hright : ∀ (i : Nat) w, i < len → Calls Tryz.prog 158 #[(ns i).v, .int .i64 i] w fun e w' => e = .returned (.bool true) ∧ Below w.heap.size w w')
   (h0 : ∀ i, i < len → W.cell? ⟨g, i * 4, none⟩ = some (.int .i64 (ns i).k)) (h1 : ∀ i, i < len → W.cell? ⟨g, i * 4 + 1, none⟩ = some (.int .i64 (ns i).num)) (h2 : ∀ i, i < len → W.cell? ⟨g, i * 4 + 2, none⟩ = some (.int .i64 (ns i).a)) (h3 : ∀ i, i < len → W.cell? ⟨g, i * 4 + 3, none⟩ = some (.int .i64 (ns i).b)) :
  Calls Tryz.prog 95 #[.agg #[.slice (some ⟨g, 0, none⟩) len cap]] W fun e w' => e = .returned (.bool true) ∧ Below W.heap.size W w' := by
  have hmm := @run_makeMap Tryz.prog
  go_enter Tryz.func95, Tryz.ntmps95
  go_wp2
  go_loopw [14] (fun i wr => ∃ k : Nat, k ≤ len ∧ i = .int .i64 k ∧ MapI wr (W.heap.size + 1) k ns ∧ Below W.heap.size W wr)
    (fun i _ => len - (intOf i).toNat)
  case atStart =>
    refine ⟨0, Nat.zero_le _, rfl, ⟨#[], ?_, fun e he => by cases he⟩, ((Below.refl _ _).alloc (Nat.le_refl _) _).alloc (by show _ ≤ (W.heap.push _).size; rw [Array.size_push]; omega) _⟩
    have hs : W.heap.size + 1 = (W.heap.push (Obj.cells #[Value.slice (some ⟨g, 0, none⟩) len cap] 26)).size := by rw [Array.size_push]
    show ((W.heap.push _).push _)[W.heap.size + 1]? = _
    rw [hs, Array.getElem?_push_size]
  case round =>
    obtain ⟨k, hk, rfl, hmap, hnx⟩ := hrel
    have c0 : k < len → wr.cell? ⟨g, k * 4, none⟩ = some (.int .i64 (ns k).k) := fun h => (hnx.cell hb).trans (h0 k h)
    have c1 : k < len → wr.cell? ⟨g, k * 4 + 1, none⟩ = some (.int .i64 (ns k).num) := fun h => (hnx.cell hb).trans (h1 k h)
    have c2 : k < len → wr.cell? ⟨g, k * 4 + 2, none⟩ = some (.int .i64 (ns k).a) := fun h => (hnx.cell hb).trans (h2 k h)
    have c3 : k < len → wr.cell? ⟨g, k * 4 + 3, none⟩ = some (.int .i64 (ns k).b) := fun h => (hnx.cell hb).trans (h3 k h)
    go_wp2
    · have hlt : k < len := by assumption
      have hMlt : W.heap.size + 1 < wr.heap.size := by
        obtain ⟨es, hh, _⟩ := hmap
        exact (Array.getElem?_eq_some_iff.1 hh).1
      obtain ⟨w1, w2, f1, f2, f3, f4, hm2, hg2, f5⟩ := mapI_round (w := (wr.alloc (Obj.cells #[.int .i64 (ns k).k, .int .i64 (ns k).num, .int .i64 (ns k).a, .int .i64 (ns k).b] 153)).drew) (M := W.heap.size + 1) (k := k) (ns := ns)
        (hmap.kept (by show (wr.heap.push _)[_]? = _; rw [Array.getElem?_push_lt hMlt, Array.getElem?_eq_getElem hMlt])) (fun j hj => hkeys j (by omega)) (fun j hj => hne j k hlt hj)
      simp only [NdX.v] at f1 f2 f3 f4 f5
      have hM2 : W.heap.size + 1 < w2.heap.size := by
        obtain ⟨es, hh, _⟩ := hm2
        exact (Array.getElem?_eq_some_iff.1 hh).1
      have hsz : wr.heap.size < (wr.alloc (Obj.cells #[.int .i64 (ns k).k, .int .i64 (ns k).num, .int .i64 (ns k).a, .int .i64 (ns k).b] 153)).drew.heap.size := by
        show _ < (wr.heap.push _).size
        rw [Array.size_push]; omega
      have hn : w2.heap[wr.heap.size]? = some (Obj.cells #[.int .i64 (ns k).k, .int .i64 (ns k).num, .int .i64 (ns k).a, .int .i64 (ns k).b] 153) := by
        rw [hg2.block wr.heap.size hsz (by intro e; injection e with e; omega)]
        show (wr.heap.push _)[_]? = _
        rw [Array.getElem?_push_size]
      have hn2 : wr.heap.size < w2.heap.size := (Array.getElem?_eq_some_iff.1 hn).1
      have d0 : w2.cell? ⟨wr.heap.size, 0, none⟩ = some (.int .i64 (ns k).k) := by unfold World.cell?; rw [hn]; rfl
      have d1 : w2.cell? ⟨wr.heap.size, 1, none⟩ = some (.int .i64 (ns k).num) := by unfold World.cell?; rw [hn]; rfl
      have d2 : w2.cell? ⟨wr.heap.size, 2, none⟩ = some (.int .i64 (ns k).a) := by unfold World.cell?; rw [hn]; rfl
      have d3 : w2.cell? ⟨wr.heap.size, 3, none⟩ = some (.int .i64 (ns k).b) := by unfold World.cell?; rw [hn]; rfl
      simp only [NdX.v] at hright
      have hbel : Below W.heap.size W w2 := ((hnx.alloc hnx.size _).drew).grown hg2 (by have := hnx.size; omega) (fun j hj => by cases hj; omega)
      go_region
      clear f1 f2 f3 f4
      go_wp2_with (first
        | (go_at_call 158; refine (hright k _ hlt).mono ?_; rintro e w3 ⟨rfl, hb3⟩; have e5 := f5 w3 (hb3.block _ hM2); have d0' := (hb3.cell hn2).trans d0; have d1' := (hb3.cell hn2).trans d1; have d2' := (hb3.cell hn2).trans d2; have d3' := (hb3.cell hn2).trans d3)
        | go_in)
      refine ⟨⟨k + 1, by omega, by simp, hm2.kept (hb3.block _ hM2), hbel.trans (hb3.mono hbel.size)⟩, ?_⟩
      simp [intOf]
      omega
    · have : k = len := by omega
      subst this
      go_ret
      exact ⟨rfl, hnx⟩
end Go.Proofs.YtipomcnbjlfekaaGreat.Rs
