/-
  Texts of this claim, joined. No condition.
-/
import Derived.Test.YtfcpdlbkmkhhcaaGreatDoorCh1
import Derived.Test.YtfcpdlbkmkhhcaaGreatDoorCh21
import Derived.Test.YtfcpdlbkmkhhcaaGreatDoorCh22
import Derived.Test.YtfcpdlbkmkhhcaaGreatDoorCh20
import Derived.Test.YtfcpdlbkmkhhcaaGreatDoorCh16
import Derived.Laws.IdiomRangeMap
import Derived.Test.YtfcpdlbkmkhhcaaGreatDoorCh5
import Derived.Test.YtfcpdlbkmkhhcaaGreatDoorCh10
import Derived.Laws.CopyRow
namespace Go.Proofs.YtfcpdlbkmkhhcaaGreatDoor
set_option maxRecDepth 100000
set_option maxHeartbeats 40000000
namespace Cw
open Go Ex Mem
open Go.RowKit
open Go.Maps (Keyed)
open Go.ChangeMaps (setBlock modify_eq_set)
structure VM (es:Array MapEntry)(ck n:Nat)(f:Int→Option Value):Prop where
 size:es.size≤n
 ints:∀ x∈es.toList,∃ k,x.key = .int .i64 k∧(Lit.int .i64 k).wf=true
 apart:∀ (i j:Nat) (x y:MapEntry),es.toList[i]?=some x→es.toList[j]?=some y→x.key=y.key→i=j
 old:∀ x∈es.toList,x.born<ck
 born:(es.toList.map (·.born)).Nodup
 fits:∀ k c,f k=some c↔∃ x∈es.toList,x.key = .int .i64 k∧x.val=c
def vS (f:Int→Option Value)(k:Int)(c:Value):Int→Option Value:=fun j=>if j=k then some c else f j
def Fg (f:Int→Option Value)(k:Int):Int→Option Value:=fun j=>if j=k then none else f j
theorem VM.nil:VM #[] 0 0 (fun _=>none):=⟨by simp,by simp,by simp,by simp,by simp,by simp⟩
abbrev mZ:Tk:={ job:=0,aB:=0,pc:=0 }
theorem Zon (w:World):(zeroValue 59).run Tryz.prog w = .ok (bH mZ) w:=by
 have hi:(Tryz.prog.info? 59).map (fun i=>i.zero)=some (some (bH mZ)):=by kernel_rfl
 cases h:Tryz.prog.info? 59 with
 |none=>rw[h]at hi;cases hi
 |some i =>
  rw[h]at hi;simp only[Option.map_some,ZlP]at hi;simp[zeroValue,typeInfo,h,hi]
section
variable {w:World}{es:Array MapEntry}{ck n b:Nat}{f:Int→Option Value}
theorem VM.GC (h:VM es ck n f):∀ e∈es.toList,∃ l,keyOf Tryz.prog 3 e.key=some l:=fun e he=>by
 obtain⟨k,hk,hw⟩:=h.ints e he;exact⟨_,by rw[hk];exact keyOf_i64 hw⟩
theorem VM.Qj (h:VM es ck n f){k:Int}(hk:∀ e∈es.toList,e.key≠.int .i64 k):f k=none:=by
 cases hf:f k with
 |none=>rfl
 |some c =>
  obtain⟨x,hx,h1,-⟩:=(h.fits k c).1 hf;exact absurd h1 (hk x hx)
theorem Zn5 (h:VM es ck n f)(hb:w.heap[b]?=some (.map es ck)){k:Int}(hk:(Lit.int .i64 k).wf=true) :
 (Instr.lookup 69 (.map (some b)) (.int .i64 k) true).run Tryz.prog w = .ok (.tuple #[(f k).getD (bH mZ),.bool (f k).isSome]) w:=by
 have aV:=keyOf_i64 hk;have K:=int_keyed';rcases K.find w aV es.toList h.GC with⟨h1,h2⟩|⟨j,e0,h1,h2,h3⟩
 ·have hf:=h.Qj h2
  simp[Instr.lookup,run_underlying Tryz.underlying69,MapKept.run_getObj_map hb,K.check w _ aV,h1,Result.andThen,hf];rfl
 ·have hm:=Zxz h2
  have hf:f k=some e0.val:=(h.fits k _).2 ⟨e0,hm,h3,rfl⟩;simp[Instr.lookup,run_underlying Tryz.underlying69,MapKept.run_getObj_map hb,K.check w _ aV,h1,Result.andThen,hf]
theorem Zn6 (h:VM es ck n f)(hb:w.heap[b]?=some (.map es ck)){k:Int}(hk:(Lit.int .i64 k).wf=true)(c:Value) :
 ∃ es' bO,(Instr.mapUpdate 69 (.map (some b)) (.int .i64 k) c).run Tryz.prog w = .ok () (setBlock w b (.map es' bO))∧VM es' bO (n+1) (vS f k c):=by
 have aV:=keyOf_i64 hk;have K:=int_keyed';rcases K.find w aV es.toList h.GC with⟨h1,h2⟩|⟨j,e0,h1,h2,h3⟩
 ·refine⟨es.push ⟨.int .i64 k,c,ck⟩,ck+1,?_,⟨by have:=h.size;simp;omega,?_,?_,?_,?_,?_⟩⟩
  ·simp[Instr.mapUpdate,run_underlying Tryz.underlying69,MapKept.run_getObj_map hb,K.check w false aV,h1,MapKept.run_setObj_map _ hb,Result.andThen,setBlock]
  ·intro x hx
   simp only[Array.toList_push,ZxQ,ZxE]at hx;rcases hx with hx|rfl
   ·exact h.ints x hx
   ·exact⟨k,rfl,hk⟩
  ·intro i j x y hx hy sG
   rw[Array.toList_push,List.getElem?_append]at hx hy;split at hx<;>split at hy
   ·exact h.apart i j x y hx hy sG
   ·have:y=⟨.int .i64 k,c,ck⟩:=by
     rw[List.getElem?_singleton]at hy;split at hy<;>simp_all
    subst this;exact absurd sG (h2 x (Zxz hx))
   ·have:x=⟨.int .i64 k,c,ck⟩:=by
     rw[List.getElem?_singleton]at hx;split at hx<;>simp_all
    subst this;exact absurd sG.symm (h2 y (Zxz hy))
   ·rw[List.getElem?_singleton]at hx hy
    split at hx<;>split at hy<;>first|omega|simp_all
  ·intro x hx
   simp only[Array.toList_push,ZxQ,ZxE]at hx;rcases hx with hx|rfl
   ·have:=h.old x hx;omega
   ·exact Nat.lt_succ_self _
  ·rw[Array.toList_push,List.map_append,ZxK]
   refine⟨h.born,by simp,?_⟩;intro a ha c' rO e;simp only[List.map_cons,List.map_nil,ZxE]at rO;obtain⟨x,hx,rfl⟩:=List.mem_map.1 ha;have:=h.old x hx;omega
  ·intro q d
   simp only[Array.toList_push,ZxQ,ZxE,vS];by_cases hq:q=k
   ·subst hq
    rw[if_pos rfl];constructor
    ·intro hd
     simp only[ZlP]at hd;subst hd;exact⟨_,.inr rfl,rfl,rfl⟩
    ·rintro⟨x,hx|rfl,e1,e2⟩
     ·exact absurd e1 (h2 x hx)
     ·exact congrArg some e2
   ·rw[if_neg hq,h.fits q d]
    constructor
    ·rintro⟨x,hx,e1,e2⟩
     exact⟨x,.inl hx,e1,e2⟩
    ·rintro⟨x,hx|rfl,e1,e2⟩
     ·exact⟨x,hx,e1,e2⟩
     ·simp only[Value.int.injEq,true_and]at e1
      exact absurd e1.symm hq
 ·have hj:es[j]?=some e0:=by simpa using h2
  have Ah:j<es.toList.length:=(List.getElem?_eq_some_iff.1 h2).1;have jI:(es.modify j (fun e'=>{ e' with key:=.int .i64 k,val:=c })).toList=es.toList.set j { e0 with key:=.int .i64 k,val:=c }:=by rw[Array.toList_modify,modify_eq_set _ _ _ _ h2]
  have oO:∀ i,(es.toList.set j { e0 with key:=.int .i64 k,val:=c })[i]?=if i=j then some { e0 with key:=.int .i64 k,val:=c } else es.toList[i]?:=fun i=>by
   rw[List.getElem?_set];by_cases uT:j=i
   ·subst uT;rw[if_pos rfl,if_pos rfl,if_pos Ah]
   ·rw[if_neg uT,if_neg (fun e=>uT e.symm)]
  have bY:∀ x,x∈es.toList.set j { e0 with key:=.int .i64 k,val:=c }↔x={ e0 with key:=.int .i64 k,val:=c }∨(x∈es.toList∧x.key≠.int .i64 k):=fun x=>by
   constructor
   ·intro hx
    obtain⟨i,hi⟩:=List.getElem?_of_mem hx;rw[oO]at hi;split at hi
    ·exact .inl (ZxZ hi).symm
    ·rename_i uT
     exact .inr ⟨Zxz hi,fun e=>uT (h.apart i j x e0 hi h2 (e.trans h3.symm))⟩
   ·rintro(rfl|⟨hx,hne⟩)
    ·exact List.mem_iff_getElem?.2 ⟨j,by rw[oO,if_pos rfl]⟩
    ·obtain⟨i,hi⟩:=List.getElem?_of_mem hx
     refine List.mem_iff_getElem?.2 ⟨i,?_⟩;rw[oO,if_neg,hi];rintro rfl;rw[h2]at hi;cases hi;exact hne h3
  refine⟨es.modify j (fun e'=>{ e' with key:=.int .i64 k,val:=c }),ck,?_,⟨by have:=h.size;simp;omega,?_,?_,?_,?_,?_⟩⟩
  ·simp[Instr.mapUpdate,run_underlying Tryz.underlying69,MapKept.run_getObj_map hb,K.check w false aV,h1,hj,h3,K.stays w aV,MapKept.run_setObj_map _ hb,Result.andThen,setBlock]
  ·intro x hx
   rw[jI]at hx;rcases(bY x).1 hx with rfl|⟨hx,-⟩
   ·exact⟨k,rfl,hk⟩
   ·exact h.ints x hx
  ·intro i i' x y hx hy sG
   rw[jI,oO]at hx hy;split at hx<;>split at hy
   ·omega
   ·cases hx
    rename_i h5 h6;exact absurd (h.apart i' j y e0 hy h2 (sG.symm.trans h3.symm)) h6
   ·cases hy
    rename_i h5 h6;exact absurd (h.apart i j x e0 hx h2 (sG.trans h3.symm)) h5
   ·exact h.apart i i' x y hx hy sG
  ·intro x hx
   rw[jI]at hx;rcases(bY x).1 hx with rfl|⟨hx,-⟩
   ·exact h.old e0 (Zxz h2)
   ·exact h.old x hx
  ·have:(es.modify j (fun e'=>{ e' with key:=.int .i64 k,val:=c })).toList.map (·.born)=es.toList.map (·.born):=by
    apply List.ext_getElem?;intro i;rw[jI,List.getElem?_map,List.getElem?_map,oO];split
    ·rename_i hi
     subst hi;rw[h2];rfl
    ·rfl
   rw[this];exact h.born
  ·intro q d
   rw[jI];simp only[vS];by_cases hq:q=k
   ·subst hq
    rw[if_pos rfl];constructor
    ·intro hd
     simp only[ZlP]at hd;subst hd;exact⟨_,(bY _).2 (.inl rfl),rfl,rfl⟩
    ·rintro⟨x,hx,e1,e2⟩
     rcases(bY x).1 hx with rfl|⟨-,hne⟩
     ·exact congrArg some e2
     ·exact absurd e1 hne
   ·rw[if_neg hq,h.fits q d]
    constructor
    ·rintro⟨x,hx,e1,e2⟩
     exact⟨x,(bY x).2 (.inr ⟨hx,by rw[e1];intro he;simp only[Value.int.injEq,true_and]at he;exact hq he⟩),e1,e2⟩
    ·rintro⟨x,hx,e1,e2⟩
     rcases(bY x).1 hx with rfl|⟨hx,-⟩
     ·simp only[Value.int.injEq,true_and]at e1
      exact absurd e1.symm hq
     ·exact⟨x,hx,e1,e2⟩
theorem Zn4 (h:VM es ck n f)(hb:w.heap[b]?=some (.map es ck)){k:Int}(hk:(Lit.int .i64 k).wf=true)(ty:TypeId) :
 ∃ es',(Builtin.delete_ #[69,3] ty #[.map (some b),.int .i64 k]).run Tryz.prog w = .ok (.tuple #[]) (setBlock w b (.map es' ck))∧VM es' ck n (Fg f k):=by
 have aV:=keyOf_i64 hk;have K:=int_keyed';rcases K.find w aV es.toList h.GC with⟨h1,h2⟩|⟨j,e0,h1,h2,h3⟩
 ·refine⟨es,?_,⟨h.size,h.ints,h.apart,h.old,h.born,?_⟩⟩
  ·simp[Builtin.delete_,run_underlying Tryz.underlying69,MapKept.run_getObj_map hb,K.check w _ aV,h1,MapKept.run_setObj_map _ hb,Result.andThen,setBlock]
  ·intro q d
   simp only[Fg];by_cases hq:q=k
   ·subst hq
    rw[if_pos rfl];constructor
    ·intro hd;cases hd
    ·rintro⟨x,hx,e1,-⟩
     exact absurd e1 (h2 x hx)
   ·rw[if_neg hq];exact h.fits q d
 ·have Ah:j<es.toList.length:=(List.getElem?_eq_some_iff.1 h2).1
  have Rt:j<es.size:=by simpa using Ah
  have sj:(es.eraseIdxIfInBounds j).toList=es.toList.eraseIdx j:=by
   unfold Array.eraseIdxIfInBounds;rw[dif_pos Rt];simp
  have bY:∀ x,x∈es.toList.eraseIdx j↔x∈es.toList∧x.key≠.int .i64 k:=fun x=>by
   rw[List.mem_eraseIdx_iff_getElem?];constructor
   ·rintro⟨i,hne,hi⟩
    exact⟨Zxz hi,fun e=>hne (h.apart i j x e0 hi h2 (e.trans h3.symm))⟩
   ·rintro⟨hx,hne⟩
    obtain⟨i,hi⟩:=List.getElem?_of_mem hx;refine⟨i,?_,hi⟩;rintro rfl;rw[h2]at hi;cases hi;exact hne h3
  refine⟨es.eraseIdxIfInBounds j,?_,⟨ZxL (MapFrom.size_erase es j) h.size,?_,?_,?_,?_,?_⟩⟩
  ·simp[Builtin.delete_,run_underlying Tryz.underlying69,MapKept.run_getObj_map hb,K.check w _ aV,h1,MapKept.run_setObj_map _ hb,Result.andThen,setBlock]
  ·intro x hx
   rw[sj]at hx;exact h.ints x ((bY x).1 hx).1
  ·intro i i' x y hx hy sG
   rw[sj,List.getElem?_eraseIdx]at hx hy;split at hx<;>split at hy<;>have:=h.apart _ _ x y hx hy sG<;>omega
  ·intro x hx
   rw[sj]at hx;exact h.old x ((bY x).1 hx).1
  ·rw[sj]
   exact h.born.sublist ((List.eraseIdx_sublist _ _).map _)
  ·intro q d
   rw[sj];simp only[Fg];by_cases hq:q=k
   ·subst hq
    rw[if_pos rfl];constructor
    ·intro hd;cases hd
    ·rintro⟨x,hx,e1,-⟩
     exact absurd e1 ((bY x).1 hx).2
   ·rw[if_neg hq,h.fits q d]
    constructor
    ·rintro⟨x,hx,e1,e2⟩
     exact⟨x,(bY x).2 ⟨hx,by rw[e1];intro he;simp only[Value.int.injEq,true_and]at he;exact hq he⟩,e1,e2⟩
    ·rintro⟨x,hx,e1,e2⟩
     exact⟨x,((bY x).1 hx).1,e1,e2⟩
end
section
variable {W w:World}{M:List (Nat×Obj)}{es:Array MapEntry}{ck n b:Nat}{f:Int→Option Value}
variable {ops:Array Oper}{rest:List Oper}{o:Oper}{a:Act}{Q:Exit→Act→World→Prop}
theorem Ja (hg:o.guard=none)(m x:Operand)(dX:o.op=Op.lookup 69 m x true){k:Int}(hm:a.eval m = .map (some b))(hx:a.eval x = .int .i64 k)
 (h:VM es ck n f) (hb:w.heap[b]?=some (.map es ck)) (hk:(Lit.int .i64 k).wf=true)
 (hK:wpList Tryz.prog ops Q rest (a.put o.dst (.tuple #[(f k).getD (bH mZ),.bool (f k).isSome])) w):wpList Tryz.prog ops Q (o::rest) a w:=by
 refine wpList_plain hg fun K' hK' => ?_;unfold Oper.wp;simp only[execOp,dX,hm,hx,Zxy,Zn5 h hb hk,Result.andThen];exact hK' _ _ hK
theorem Jb (hg:o.guard=none)(m x v:Operand)(dX:o.op=Op.mapUpdate 69 m x v){k:Int}{c:Value}(hm:a.eval m = .map (some b))(hx:a.eval x = .int .i64 k)(hv:a.eval v=c)
 (h:VM es ck n f) (hO:Own W ((b,.map es ck)::M) w) (hk:(Lit.int .i64 k).wf=true)
 (hK:∀ es' bO w',VM es' bO (n+1) (vS f k c)→Own W ((b,.map es' bO)::M) w'→wpList Tryz.prog ops Q rest (a.put o.dst undef) w'):wpList Tryz.prog ops Q (o::rest) a w:=by
 refine wpList_plain hg fun K' hK' => ?_;obtain⟨es',bO,aO,h1⟩:=Zn6 h (hO.get ZnJ) hk c;unfold Oper.wp;simp[execOp,dX,hm,hx,hv,aO,Result.andThen];exact hK' _ _ (hK es' bO _ h1 (hO.Uz es' bO))
theorem Zkh (hg:o.guard=none)(m x:Operand)(dX:o.op=Op.call { callee:=Callee.builtin Builtin.delete,args:=#[m,x],argTypes:=#[69,3] }){k:Int}(hm:a.eval m = .map (some b))(hx:a.eval x = .int .i64 k)
 (h:VM es ck n f) (hO:Own W ((b,.map es ck)::M) w) (hk:(Lit.int .i64 k).wf=true)
 (hK:∀ es' w',VM es' ck n (Fg f k)→Own W ((b,.map es' ck)::M) w'→wpList Tryz.prog ops Q rest (a.put o.dst (.tuple #[])) w'):wpList Tryz.prog ops Q (o::rest) a w:=by
 refine wpList_plain hg fun K' hK' => ?_;obtain⟨es',aO,h1⟩:=Zn4 h (hO.get ZnJ) hk o.type;unfold Oper.wp;simp[execOp,dX,resolve,invoke,builtin,hm,hx,aO,Result.andThen];exact hK' _ _ (hK es' _ h1 (hO.Uz es' ck))
end
end Cw
namespace Cw
open Go Ex Mem
open Go.RowKit
open Go.ChangeMaps (setBlock)
section
variable {W w:World}{m:List (Nat×Obj)}{b bt bi ck since c0:Nat}{o o':Obj}{es:Array MapEntry}{seen:Array Nat}
theorem ZnO (h:Own W ((b,o)::m) w)(o':Obj):Own W ((b,o')::m) (setBlock w b o'):=by
 have hg:=h.get (ZnJ);have eD:=h.ge (ZnJ);have aK:=yj hg;have nR:∀ k,k≠b→(setBlock w b o').heap[k]?=w.heap[k]?:=fun k hk=>by
  simp only[setBlock];rw[Array.getElem?_setIfInBounds,if_neg (fun e=>hk e.symm)]
 have hb:=h.below;refine⟨⟨hb.os,hb.tape,hb.output,by simpa [setBlock] using hb.size,fun k hk => ?_⟩,fun p hm => ?_,h.nd⟩
 ·rw[nR k (by omega)];exact hb.block k hk
 ·rcases List.mem_cons.1 hm with rfl|hm
  ·exact⟨eD,by simp[setBlock,aK]⟩
  ·exact⟨(h.at_ p (ZnQ _ hm)).1,(nR p.1 (Own.ne h (b':=p.1) (o':=p.2) hm)).trans (h.at_ p (ZnQ _ hm)).2⟩
variable {P:Program}
theorem Zn3 (hO:Own W ((bi,.mapIter (some bt) since seen c0)::m) w)(hb:(bt,.map es ck)∈m)(hold:∀ x∈es.toList,x.born<since)(II:since≤c0)(ty:TypeId) :
 ((leftOf es seen).size=0∧(Instr.next (.pointer (some ⟨bi,0,none⟩)) false ty).run P w = .ok (.tuple #[.bool false]) w) ∨
 ∃ e∈(leftOf es seen).toList,∃ w1:World,Own W ((bi,.mapIter (some bt) since (seen.push e.born) ck)::m) w1∧(Instr.next (.pointer (some ⟨bi,0,none⟩)) false ty).run P w = .ok (.tuple #[.bool true,e.key,e.val]) w1:=by
 have hi:=hO.get ZnJ;have hm:=hO.skip.get hb;simp only[Instr.next,getObj,Zxy,Sem.run,hi,hm,Result.andThen,next_test_false seen es since c0 hold II,Bool.false_eq_true,if_false];unfold leftOf;have bY:∀ x∈(Array.filter (fun e => !seen.contains e.born) es).toList,x.born<since:=fun x hx=>hold x (by simp at hx ⊢;exact hx.1);generalize Array.filter (fun e => !seen.contains e.born) es=L at bY ⊢;have e1:L.filter (fun x=>decide (x.born<since))=L:=Array.filter_eq_self.2 (fun x hx=>by simpa using bY x (by simpa using hx));have e2:L.filter (fun x=>decide (x.born≥since))=#[]:=by
  rw[Array.filter_eq_empty_iff];intro x hx;have:=bY x (by simpa using hx);simp;omega
 simp only[e1,e2,Array.append_empty];by_cases h0:L.size=0
 ·left
  have:L=#[]:=Array.eq_empty_of_size_eq_zero h0;subst this;refine⟨rfl,?_⟩;simp[choose,Sem.run,Question.forced]
 ·right
  have hne:L.isEmpty=false:=by simp[Array.isEmpty,h0]
  simp only[hne,Bool.false_eq_true,if_false,Array.empty_append,Array.size_map];have gM:∃ (j:Nat) (w1:World),j<L.size∧Own W ((bi,.mapIter (some bt) since seen c0)::m) w1∧(choose (Question.mapNext L.size)).run P w = .ok j w1:=by
   by_cases hf:L.size≤1
   ·exact⟨0,w,by omega,hO,by simp[choose,Sem.run,Question.forced,hf]⟩
   ·exact⟨_,w.drew,Nat.mod_lt _ (by omega),hO.drew,by
     simp only[choose,Sem.run,Question.forced,decide_eq_true_eq,hf,if_false,Question.cut];rfl⟩
  obtain⟨j,w1,hj,iB,aO⟩:=gM;refine⟨L[j],by simp,setBlock w1 bi (.mapIter (some bt) since (seen.push L[j].born) ck),ZnO iB _,?_⟩;have mE:∀ o':Obj,(setObj bi o').run P w1 = .ok () (setBlock w1 bi o'):=fun o'=>by
   simp only[setObj,Sem.run,iB.get ZnJ];rfl
  simp only[aO,Array.getElem?_map,ZxH hj,Option.map_some,Zxy,mE,Result.andThen];rfl
theorem Zmz {e:MapEntry}(hO:Own W ((bi,.mapIter (some bt) since (seen.push e.born) ck)::m) w)(hb:(bt,.map es ck)∈m)(he:e∈es.toList)(hn:(es.toList.map (·.born)).Nodup) :
 (Instr.entry (.pointer (some ⟨bi,0,none⟩))).run P w = .ok (.tuple #[e.key,e.val]) w:=by
 have hi:=hO.get ZnJ;have hm:=hO.skip.get hb;have hf:es.find? (·.born==e.born)=some e:=by rw[← Array.find?_toList];exact find_born e es.toList hn he
 simp only[Instr.entry,getObj,Zxy,Sem.run,hi,hm,Result.andThen,Array.back?_push,bne_self_eq_false,Bool.false_eq_true,if_false,hf];rfl
variable {ops:Array Oper}{rest:List Oper}{x:Oper}{a:Act}{Q:Exit→Act→World→Prop}
theorem Zkg (hg:x.guard=none)(t:TypeId)(p:Operand)(dX:x.op=Op.range t p)(hp:a.eval p = .map (some bt)){k e:TypeId}(ht:P.underlying t=some (.map k e))(hO:Own W m w)(hb:(bt,.map es ck)∈m)
 (hK:∀ b w',Own W ((b,.mapIter (some bt) ck #[] ck)::m) w'→wpList P ops Q rest (a.put x.dst (.pointer (some ⟨b,0,none⟩))) w'):wpList P ops Q (x::rest) a w:=by
 refine wpList_plain hg fun K' hK' => ?_;have hr:=run_range_map (P:=P) w t k e bt es ck ht (hO.get hb);unfold Oper.wp;simp only[execOp,dX,hp,Zxy,ZxM,hr,Result.andThen];exact hK' _ _ (hK _ _ (hO.new _))
theorem Yu (hg:x.guard=none)(p:Operand)(dX:x.op=Op.next p false)(hp:a.eval p = .pointer (some ⟨bi,0,none⟩))(hO:Own W ((bi,.mapIter (some bt) since seen c0)::m) w)(hb:(bt,.map es ck)∈m)(hold:∀ x∈es.toList,x.born<since)(II:since≤c0)
 (Ia:(leftOf es seen).size=0→wpList P ops Q rest (a.put x.dst (.tuple #[.bool false])) w)
 (dK:∀ e w',e∈(leftOf es seen).toList→Own W ((bi,.mapIter (some bt) since (seen.push e.born) ck)::m) w'→wpList P ops Q rest (a.put x.dst (.tuple #[.bool true,e.key,e.val])) w'):wpList P ops Q (x::rest) a w:=by
 refine wpList_plain hg fun K' hK' => ?_;unfold Oper.wp;rcases Zn3 (P:=P) hO hb hold II x.type with⟨h0,hr⟩|⟨e,he,w1,iB,hr⟩
 ·simp only[execOp,dX,hp,Zxy,ZxM,hr,Result.andThen]
  exact hK' _ _ (Ia h0)
 ·simp only[execOp,dX,hp,Zxy,ZxM,hr,Result.andThen]
  exact hK' _ _ (dK e w1 he iB)
theorem Zkd {e:MapEntry}(hg:x.guard=none)(p:Operand)(dX:x.op=Op.entry p)(hp:a.eval p = .pointer (some ⟨bi,0,none⟩))(hO:Own W ((bi,.mapIter (some bt) since (seen.push e.born) ck)::m) w)(hb:(bt,.map es ck)∈m)(he:e∈es.toList)(hn:(es.toList.map (·.born)).Nodup)
 (hK:wpList P ops Q rest (a.put x.dst (.tuple #[e.key,e.val])) w):wpList P ops Q (x::rest) a w:=by
 refine wpList_plain hg fun K' hK' => ?_;have hr:=Zmz (P:=P) hO hb he hn;unfold Oper.wp;simp only[execOp,dX,hp,Zxy,ZxM,hr,Result.andThen];exact hK' _ _ hK
end
end Cw
section
open Go.RowKit
section
variable {P:Program}{W w:World}{m:List (Nat×Obj)}{b:Nat}{old new:Array Value}{e t:TypeId}
theorem ZZ (h:Own W ((b,.cells old e)::m) w)(_hl:old.size=new.size):Own W ((b,.cells new e)::m) (w.setRow b new):=by
 have hg:=h.get (ZnJ);have eD:=h.ge (ZnJ);have hot:∀ c,c≠b→(w.setRow b new).heap[c]?=w.heap[c]?:=fun c hc=>setRow_other w b c new hc;refine⟨⟨h.below.os,h.below.tape,h.below.output,?_,fun c hc => ?_⟩,fun p hm => ?_,h.nd⟩
 ·simpa using h.below.size
 ·rw[hot c (by omega)]
  exact h.below.block c hc
 ·rcases List.mem_cons.1 hm with rfl|hm
  ·exact⟨eD,by rw[setRow_heap w b old new e (0,0) hg]⟩
  ·have hne:p.1≠b:=h.ne (b':=p.1) (o':=p.2) hm
   exact⟨(h.at_ p (ZnQ _ hm)).1,(hot p.1 hne).trans (h.at_ p (ZnQ _ hm)).2⟩
theorem XO (h:Own W ((b,.cells old e)::m) w)(hl:old.size=new.size)(h1:∀ u∈new.toList,u.oneCell'=true)(hs:Ex.iA P t=some new.size) :
 (Instr.storeAt t (.pointer (some ⟨b,0,none⟩)) (.agg new)).run P w = .ok () (w.setRow b new):=by
 have dJ:=h.get (ZnJ);have aW:=run_storeCells_at P b 0 e new.toList 0 old w dJ (by simp;omega) h1;simp only[Nat.add_zero,List.take_zero,List.nil_append,Nat.zero_add]at aW;rw[List.drop_eq_nil_of_le (by simp;omega),ZxP,Array.toArray_toList]at aW;simp[Instr.storeAt,Instr.sureAddr,storeVar,Ex.oD hs w,Value.cells,aW]
theorem jm {ops:Array Oper}{rest:List Oper}{o:Oper}{a:Act}{Q:Exit→Act→World→Prop}(jw:o.guard=none)(p x:Operand)
 (ho:o.op = .store t p x) (hp:a.eval p = .pointer (some ⟨b,0,none⟩)) (hx:a.eval x = .agg new) (hs:Ex.iA P t=some new.size)
 (hO:Own W ((b,.cells old e)::m) w) (hl:old.size=new.size) (h1:∀ u∈new.toList,u.oneCell'=true)
 (h:∀ w',Own W ((b,.cells new e)::m) w'→wpList P ops Q rest (a.put o.dst undef) w') :
 wpList P ops Q (o::rest) a w:=by
 refine wpList_plain jw fun K hK => ?_;have hr:=XO (P:=P) (t:=t) hO hl h1 hs;unfold Oper.wp execOp;simp only[ho,hp,hx,Zxy,ZxM,Zxs,hr];exact hK _ _ (h _ (ZZ hO hl))
theorem XZ {fs:Array Field}(h:Own W ((b,.cells old e)::m) w)(hu:P.underlying t=some (.struct fs))(hs:Ex.iA P t=some old.size) :
 (Instr.loadAt t (.pointer (some ⟨b,0,none⟩))).run P w = .ok (.agg old) w:=by
 have dJ:=h.get (ZnJ);have iK:w.rangeAt b 0 old.toList:=fun j z hz=>by
  simp only[Array.getElem?_toList]at hz;simp[World.cell?,dJ,hz]
 have:=run_loadAt_mid (P:=P) w b 0 t old.toList (.struct fs) iK hu rfl (by rw[Ex.K8 hs,Array.length_toList]);simpa using this
theorem qC {fs:Array Field}{ops:Array Oper}{rest:List Oper}{o:Oper}{a:Act}{Q:Exit→Act→World→Prop}(jw:o.guard=none)(p:Operand)
 (ho:o.op = .load t p) (hp:a.eval p = .pointer (some ⟨b,0,none⟩)) (hu:P.underlying t=some (.struct fs))
 (hO:Own W ((b,.cells old e)::m) w) (hs:Ex.iA P t=some old.size) (h:wpList P ops Q rest (a.put o.dst (.agg old)) w) :
 wpList P ops Q (o::rest) a w:=by
 refine wpList_plain jw fun K hK => ?_;have hr:=XZ (P:=P) (t:=t) hO hu hs;unfold Oper.wp execOp;simp only[ho,hp,Zxy,ZxM,Zxs,hr];exact hK _ _ h
theorem Pk {ops:Array Oper}{o:Oper}{a:Act}{K:Act→World→Prop}{Q:Exit→Act→World→Prop}{E:Prop}(jw:o.guard=none)(p x:Operand)
 (ho:o.op = .store t p x) (hp:a.eval p = .pointer (some ⟨b,0,none⟩)) (hx:a.eval x = .agg new)
 (hO:Own W ((b,.cells old e)::m) w) (hs:Ex.iA P t=some new.size) (hl:old.size=new.size) (h1:∀ u∈new.toList,u.oneCell'=true)
 (h:∀ w',Own W ((b,.cells new e)::m) w'→K (a.put o.dst undef) w') :
 if Region.wanted o (yielded ops a.tmps)=true then Oper.wp P o a w K Q else E:=by
 have hw:Region.wanted o (yielded ops a.tmps)=true:=by simp[Region.wanted,jw]
 rw[if_pos hw];have hr:=XO (P:=P) (t:=t) hO hl h1 hs;unfold Oper.wp execOp;simp only[ho,hp,hx,Zxy,ZxM,Zxs,hr];exact h _ (ZZ hO hl)
end
end
namespace Cw
open Go Mem See
open Go.RowKit
attribute [local go_sem ↓] Go.wp_at_zero Go.wp_at_succ
def aY (bc b0 bt:Nat)(c:Ch)(mn cp:Nat):Nat×Obj:=(bc,.cells #[.int .i64 (c.C:Int),.int .i64 (c.S:Int),.int .i64 (c.O:Int),.int .i64 (mn:Int),.int .i64 (cp:Int),.int .u64 (c.key:Int),.pointer (some ⟨b0,0,Option.none⟩),.map (some bt)] 71)
def dm (t:Tk):Array Value:=#[.int .i64 t.job,.int .i64 (t.aB:Int),.int .i64 t.pc,.int .i64 t.fin,.int .i64 t.want,.int .i64 t.aA,.int .i64 t.obj,.int .u64 (t.H:Int),.int .u64 (t.T:Int),.int .u64 (t.F:Int),.int .u64 (t.K:Int),.int .u64 (t.N:Int),.int .i64 t.last,.int .i64 t.many,.int .i64 t.bS,.int .i64 t.back,.int .i64 t.for_]
def tB (b:Nat)(t:Tk):Nat×Obj:=(b,.cells (dm t) 59)
def Zt6 (w:World)(bc b0 bt:Nat)(c:Ch)(mn cp:Nat):Prop :=
 w.cell? ⟨bc,0,Option.none⟩=some (.int .i64 (c.C:Int))∧w.cell? ⟨bc,1,Option.none⟩=some (.int .i64 (c.S:Int))∧w.cell? ⟨bc,2,Option.none⟩=some (.int .i64 (c.O:Int))∧w.cell? ⟨bc,3,Option.none⟩=some (.int .i64 (mn:Int))∧w.cell? ⟨bc,4,Option.none⟩=some (.int .i64 (cp:Int))∧w.cell? ⟨bc,5,Option.none⟩=some (.int .u64 (c.key:Int))∧w.cell? ⟨bc,6,Option.none⟩=some (.pointer (some ⟨b0,0,Option.none⟩))∧w.cell? ⟨bc,7,Option.none⟩=some (.map (some bt))
theorem gQ:Ex.iA Tryz.prog 59=some 17:=by kernel_rfl
section
variable {W w:World}{m:List (Nat×Obj)}{bc b0 bt b:Nat}{c:Ch}{mn cp:Nat}{t:Tk}
theorem mP (h:Own W (aY bc b0 bt c mn cp::m) w):Zt6 w bc b0 bt c mn cp :=
 ⟨h.cell ZnJ 0,h.cell ZnJ 1,h.cell ZnJ 2,h.cell ZnJ 3,h.cell ZnJ 4,h.cell ZnJ 5,h.cell ZnJ 6,h.cell ZnJ 7⟩
theorem PQ (h:Own W (aY bc b0 bt c mn cp::m) w):Calls Tryz.prog 17 #[.pointer (some ⟨bc,0,Option.none⟩)] w fun e w'=>e = .returned (.bool false)∧Own W (aY bc b0 bt c mn cp::m) w':=by
 obtain⟨y0,y1,y2,y3,y4,y5,y6,y7⟩:=mP h;have H:=ZkQ h;clear h
 go_enter Tryz.func17,Tryz.ntmps17
 go_wp2_with fail
 go_ret;exact⟨rfl,H.out⟩
theorem CZ (h:Own W (aY bc b0 bt c mn cp::m) w){i:Nat}(hi:i<c.C):Calls Tryz.prog 28 #[.pointer (some ⟨bc,0,Option.none⟩),.int .i64 (i:Int)] w fun e w'=>e = .returned (.int .i64 0)∧Own W (aY bc b0 bt c mn cp::m) w':=by
 have HN:=ZkQ h;have hc:=PQ h;clear h;have d1:decide ((i:Int)<0)=false:=Zx7 (by omega);have d2:decide ((c.C:Int)≤(i:Int))=false:=Zx7 (by omega);have d3:¬ ((c.C:Int)≤(i:Int)):=by omega
 have d4:¬ ((i:Int)<0):=by omega
 clear hi
 go_enter Tryz.func28,Tryz.ntmps28
 go_wp2_with fail
 refine hc.mono ?_;rintro e w2 ⟨rfl,h2⟩;obtain⟨y0,y1,y2,y3,y4,y5,y6,y7⟩:=mP h2;have H2:=ZkQ h2;clear h2 hc;go_wp2_with fail
 go_ret;exact⟨rfl,H2.out⟩
abbrev z17:Obj:=.cells #[.int .i64 0,.int .i64 0,.int .i64 0,.int .i64 0,.int .i64 0,.int .i64 0,.int .i64 0,.int .u64 0,.int .u64 0,.int .u64 0,.int .u64 0,.int .u64 0,.int .i64 0,.int .i64 0,.int .i64 0,.int .i64 0,.int .i64 0] 59
theorem iV (h:Own W (tB b t::m) w):(w.cell? ⟨b,0,Option.none⟩=some (.int .i64 t.job)∧w.cell? ⟨b,1,Option.none⟩=some (.int .i64 (t.aB:Int))∧w.cell? ⟨b,2,Option.none⟩=some (.int .i64 t.pc)∧w.cell? ⟨b,3,Option.none⟩=some (.int .i64 t.fin)∧w.cell? ⟨b,4,Option.none⟩=some (.int .i64 t.want)∧w.cell? ⟨b,5,Option.none⟩=some (.int .i64 t.aA)∧w.cell? ⟨b,6,Option.none⟩=some (.int .i64 t.obj)∧w.cell? ⟨b,7,Option.none⟩=some (.int .u64 (t.H:Int))∧w.cell? ⟨b,8,Option.none⟩=some (.int .u64 (t.T:Int))∧w.cell? ⟨b,9,Option.none⟩=some (.int .u64 (t.F:Int))∧w.cell? ⟨b,10,Option.none⟩=some (.int .u64 (t.K:Int))∧w.cell? ⟨b,11,Option.none⟩=some (.int .u64 (t.N:Int))∧w.cell? ⟨b,12,Option.none⟩=some (.int .i64 t.last)∧w.cell? ⟨b,13,Option.none⟩=some (.int .i64 t.many)∧w.cell? ⟨b,14,Option.none⟩=some (.int .i64 t.bS)∧w.cell? ⟨b,15,Option.none⟩=some (.int .i64 t.back)∧w.cell? ⟨b,16,Option.none⟩=some (.int .i64 t.for_))∧∀ i,w.frozen? ⟨b,i,Option.none⟩=false:=by
 have hc:=fun i=>h.cell ZnJ i;exact⟨⟨hc 0,hc 1,hc 2,hc 3,hc 4,hc 5,hc 6,hc 7,hc 8,hc 9,hc 10,hc 11,hc 12,hc 13,hc 14,hc 15,hc 16⟩,fun i=>h.frozen ZnJ i⟩
theorem jU (t:Tk):∀ u∈(dm t).toList,u.oneCell'=true:=by
 intro u hu;simp only[dm,ZxF,List.not_mem_nil,or_false]at hu;rcases hu with rfl|rfl|rfl|rfl|rfl|rfl|rfl|rfl|rfl|rfl|rfl|rfl|rfl|rfl|rfl|rfl|rfl<;>rfl
theorem ES {i:Nat}(h:i<9):(Lit.int .i64 (i:Int)).wf=true:=by
 simp[Lit.wf,IntKind.min,IntKind.max,IntKind.signed,IntKind.bits];omega
variable {es:Array MapEntry}{ck n:Nat}{f:Int→Option Value}{i:Nat}
theorem SK (h:Own W (aY bc b0 bt c mn cp::(bt,.map es ck)::m) w)(hC:c.C≤8)(hv:VM es ck n f)(hi:i<c.C)(hf:f i=some (bH t)) :
 Calls Tryz.prog 30 #[.pointer (some ⟨bc,0,Option.none⟩),.int .i64 (i:Int),.int .i64 t.want] w fun e w'=>e = .returned (.tuple #[bH t,.int .i64 0])∧Own W (aY bc b0 bt c mn cp::(bt,.map es ck)::m) w':=by
 have h1:Own W ((w.heap.size,z17)::aY bc b0 bt c mn cp::(bt,.map es ck)::m) (w.alloc z17):=h.new z17;obtain⟨B,hB⟩:=Zx9 (w.heap.size);rw[hB]at h1;have h1:=h1.perm (sw _ _ _);obtain⟨wa,eQ⟩:=Zx9 (w.alloc z17);rw[eQ]at h1;have jh:=ZkQ (ES (show i<9 by omega));have HV:=ZkQ hv;have HF:=ZkQ hf;have HM:=ZkQ (CZ h1 hi);clear h h1 hv hf hi
 go_enter Tryz.func30,Tryz.ntmps30
 go_wp2_with fail
 refine HM.out.mono ?_;rintro e w2 ⟨rfl,h2⟩;obtain⟨y0,y1,y2,y3,y4,y5,y6,y7⟩:=mP h2;have HB:=ZkQ (h2.get (b:=bt) (o:=.map es ck) (by simp));have h3:Own W ((w2.heap.size,z17)::aY bc b0 bt c mn cp::(B,z17)::(bt,.map es ck)::m) (w2.alloc z17):=h2.new z17;obtain⟨B2,hB2⟩:∃ B,w2.heap.size=B:=⟨_,rfl⟩;rw[hB2]at h3;have H2:=ZkQ h3;have HT:=ZkQ (jU t);clear h2 h3 HM eQ hB
 go_wp2_with (first
  |(at_lookup;refine Ja rfl _ _ rfl rfl rfl HV.out HB.out jh.out ?_;rw[HF.out])
  |(refine jm (t:=59) (new:=dm t) rfl _ _ rfl rfl rfl gQ H2.out rfl HT.out ?_;intro w3 hS;have z4:=(iV (t:=t) hS).1.2.2.2.2.1;have HX:=ZkQ hS;have H3:=ZkQ (hS.perm (yU _ _ _ _));clear hS y0 y1 y2 y3 y4 y5 y6 y7 hB2)
  |(refine qC (t:=59) (old:=dm t) rfl _ rfl rfl Tryz.underlying59 HX.out gQ ?_)
  |(refine jm (t:=59) (new:=dm t) rfl _ _ rfl rfl rfl gQ H3.out rfl HT.out ?_;intro w4 hT))
 obtain⟨⟨x0,x1,x2,x3,x4,x5,x6,x7,x8,x9,x10,gz,gB,gD,gG,gH,fT⟩,-⟩:=iV (t:=t) hT;exact bodyPost_ret (v:=.tuple #[bH t,.int .i64 0]) (by simp[results,Tryz.f30,go_sem,x0,x1,x2,x3,x4,x5,x6,x7,x8,x9,x10,gz,gB,gD,gG,gH,fT,bH]) rfl ⟨rfl,hT.skip.skip⟩
end
end Cw
end Go.Proofs.YtfcpdlbkmkhhcaaGreatDoor
