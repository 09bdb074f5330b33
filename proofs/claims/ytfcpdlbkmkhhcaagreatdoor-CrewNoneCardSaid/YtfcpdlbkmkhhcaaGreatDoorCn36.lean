/-
  Texts of this claim, joined. No condition.
-/
import Derived.Test.YtfcpdlbkmkhhcaaGreatDoorCn23
import Derived.Test.YtfcpdlbkmkhhcaaGreatDoorCn24
import Derived.Test.YtfcpdlbkmkhhcaaGreatDoorCn35
import Derived.BigFrame
import Derived.Test.YtfcpdlbkmkhhcaaGreatDoorCn17
namespace Go.Proofs.YtfcpdlbkmkhhcaaGreatDoor.Cw
open Go Ex Mem
open Go.RowKit
open Go.ChangeMaps (setBlock)
section
variable {P:Program}{W w:World}{m:List (Nat×Obj)}{b bt bi ck since c0:Nat}{es:Array MapEntry}{seen:Array Nat}
variable {ops:Array Oper}{rest:List Oper}{x:Oper}{a:Act}{Q:Exit→Act→World→Prop}
theorem Zke (hg:x.guard=none)(p:Operand)(hop:x.op=Op.next p false)(hp:a.eval p = .pointer (some ⟨bi,0,none⟩))(hO:Own W ((bi,.mapIter (some bt) since seen c0)::m) w)(hb:(bt,.map es ck)∈m)(hold:∀ x∈es.toList,x.born<since)(hsc:since≤c0)(h0:(leftOf es seen).size=0)
 (hend:wpList P ops Q rest (a.put x.dst (.tuple #[.bool false])) w):wpList P ops Q (x::rest) a w :=
 Zhf hg p hop hp hO hb hold hsc (fun _=>hend) fun e _ he _=>by
  have:(leftOf es seen).toList.length=0:=by rw [Array.length_toList]; exact h0
  rw [List.eq_nil_of_length_eq_zero this] at he
  cases he
theorem Zkf (hg:x.guard=none)(p:Operand)(hop:x.op=Op.next p false)(hp:a.eval p = .pointer (some ⟨bi,0,none⟩))(hO:Own W ((bi,.mapIter (some bt) since seen c0)::m) w)(hb:(bt,.map es ck)∈m)(hold:∀ x∈es.toList,x.born<since)(hsc:since≤c0)(h0:(leftOf es seen).size≠0)
 (hmore:∀ e w',e∈(leftOf es seen).toList→Own W ((bi,.mapIter (some bt) since (seen.push e.born) ck)::m) w'→wpList P ops Q rest (a.put x.dst (.tuple #[.bool true,e.key,e.val])) w'):wpList P ops Q (x::rest) a w :=
 Zhf hg p hop hp hO hb hold hsc (fun h=>absurd h h0) hmore
end
section
variable {W w:World}{M:List (Nat×Obj)}{es:Array MapEntry}{ck n b:Nat}{f:Int→Option Int}
theorem Zk1 (h:IM es n f)(hb:w.heap[b]?=some (.map es ck)){k:Int}(hk:(Lit.int .i64 k).wf=true) :
 (Instr.lookup 98 (.map (some b)) (.int .i64 k) false).run Tryz.prog w = .ok (.int .i64 ((f k).getD 0)) w:=by
 have hkey:=keyOf_i64 hk
 have K:=int_keyed'
 rcases K.find w hkey es.toList h.ZhB with ⟨h1,h2⟩ | ⟨j,e0,h1,h2,h3⟩
 ·have hf:=h.ZkW h2
  simp [Instr.lookup,run_underlying Tryz.underlying98,MapKept.run_getObj_map hb,K.check w _ hkey,h1,Result.andThen,hf]
 ·have hm:=List.mem_of_getElem? h2
  obtain ⟨k',c,e1,e2,-⟩:=h.ints e0 hm
  have hf:f k=some c:=(h.fits k c).2 ⟨e0,hm,h3,e2⟩
  simp [Instr.lookup,run_underlying Tryz.underlying98,MapKept.run_getObj_map hb,K.check w _ hkey,h1,Result.andThen,hf,e2]
variable {ops:Array Oper}{rest:List Oper}{o:Oper}{a:Act}{Q:Exit→Act→World→Prop}
theorem Zer (hw:Region.wanted o (yielded ops a.tmps)=true)(m x:Operand)(hop:o.op=Op.lookup 98 m x false){k:Int}(hm:a.eval m = .map (some b))(hx:a.eval x = .int .i64 k)
 (h:IM es n f) (hb:w.heap[b]?=some (.map es ck)) (hk:(Lit.int .i64 k).wf=true)
 (hK:wpList Tryz.prog ops Q rest (a.put o.dst (.int .i64 ((f k).getD 0))) w):wpList Tryz.prog ops Q (o::rest) a w:=by
 refine Go.BigFrame.wpList_want hw fun K' hK' => ?_
 unfold Oper.wp
 simp only [execOp,hop,hm,hx,Sem.run_bind,Zk1 h hb hk,Result.andThen]
 exact hK' _ _ hK
end
section
def fOf (tk:Nat→Option Tk)(C:Nat):Int→Option Value:=fun j=>if 0≤j∧j<(C:Int) then (tk j.toNat).map tkV else none
variable {tk:Nat→Option Tk}{C i:Nat}{t t':Tk}
theorem Zei (hi:i<C):fOf tk C (i:Int)=(tk i).map tkV:=by
 unfold fOf
 rw [if_pos ⟨by omega,by omega⟩,Int.toNat_natCast]
theorem Zgu (hi:i<C):ZlZ (fOf tk C) (i:Int) (tkV t)=fOf (Cv.upd tk i (some t)) C:=by
 funext j
 unfold ZlZ fOf
 by_cases e:j=(i:Int)
 ·subst e
  rw [if_pos rfl,if_pos ⟨by omega,by omega⟩,Int.toNat_natCast,Cv.upd_same]
  rfl
 ·rw [if_neg e]
  by_cases h:0≤j∧j<(C:Int)
  ·rw [if_pos h,if_pos h,Cv.upd_ne (by omega)]
  ·rw [if_neg h,if_neg h]
theorem Zqf (hi:i<C):ZpW (fOf tk C) (i:Int)=fOf (Cv.upd tk i none) C:=by
 funext j
 unfold ZpW fOf
 by_cases e:j=(i:Int)
 ·subst e
  rw [if_pos rfl,if_pos ⟨by omega,by omega⟩,Int.toNat_natCast,Cv.upd_same]
  rfl
 ·rw [if_neg e]
  by_cases h:0≤j∧j<(C:Int)
  ·rw [if_pos h,if_pos h,Cv.upd_ne (by omega)]
  ·rw [if_neg h,if_neg h]
theorem Zh4 (hi:i<C)(hc:t.cpu=i):Zlb (fOf tk C) t=fOf (Cv.upd tk i (Cv.stop t)) C:=by
 unfold Zlb Cv.stop
 rw [hc,Zgu hi,Zqf hi]
 split
 ·rfl
 ·congr 1
  funext j
  by_cases e:j=i
  ·rw [e,Cv.upd_same,Cv.upd_same]
  ·rw [Cv.upd_ne e,Cv.upd_ne e,Cv.upd_ne e]
theorem Zla {a b:Tk}(h:tkV a=tkV b):a=b:=by
 cases a
 cases b
 simp only [tkV,Value.agg.injEq,Array.mk.injEq,List.cons.injEq,Value.int.injEq,true_and,and_true] at h
 simp only [Tk.mk.injEq]
 omega
end
end Go.Proofs.YtfcpdlbkmkhhcaaGreatDoor.Cw

namespace Go.Proofs.YtfcpdlbkmkhhcaaGreatDoor.Cv
open See Cw
section
variable {c:Ch}{mn cp:Nat}{st st1 st':St}{g g':List Nat}{k:Nat}{t t':Tk}
def ints (l:List Nat):List Int:=l.map fun n:Nat=>(n:Int)
theorem Cw0.at_ (Z:Cw0 c mn cp st g)(i:Ix)(hi:i.ok c):See.at_ g (i.at_ c)=val c st i:=by
 unfold See.at_
 rw [List.getD_eq_getElem?_getD,Z.E.val i hi]
 rfl
end
end Go.Proofs.YtfcpdlbkmkhhcaaGreatDoor.Cv

namespace Go.Proofs.YtfcpdlbkmkhhcaaGreatDoor.Cv
open See Cw
section
variable {c:Ch}{mn cp:Nat}{st st1 st':St}{g g':List Nat}{k:Nat}{t t':Tk}
theorem ZiD:∀ {l m:List Nat},l.Nodup→(∀ x∈l,x∈m)→l.length≤m.length
 | [],_,_,_=>Nat.zero_le _
 | x::l,m,hn,hs=>by
   have hx:=hs x List.mem_cons_self
   have h:=ZiD (l:=l) (m:=m.erase x) (List.nodup_cons.1 hn).2 fun y hy=>by
    refine (List.mem_erase_of_ne ?_).2 (hs y (List.mem_cons_of_mem _ hy))
    rintro rfl
    exact (List.nodup_cons.1 hn).1 hy
   rw [List.length_erase_of_mem hx] at h
   have:0<m.length:=List.length_pos_of_mem hx
   simp only [List.length_cons]
   omega
theorem ZlB {f:Nat→List Nat}:∀ {n:Nat},((List.range n).flatMap f).length=Zde (fun i=>(f i).length) n
 | 0=>rfl
 | n+1=>by
   rw [List.range_succ,List.flatMap_append,List.length_append,ZlB]
   simp [Zde]
theorem ZlF {f:Nat→List Nat}{n x:Nat}:x∈(List.range n).flatMap f↔∃ i,i<n∧x∈f i:=by
 rw [List.mem_flatMap]
 constructor
 ·rintro ⟨i,hi,h⟩
  exact ⟨i,List.mem_range.1 hi,h⟩
 ·rintro ⟨i,hi,h⟩
  exact ⟨i,List.mem_range.2 hi,h⟩
theorem Zj1 {f f':Nat→Nat}:∀ {n:Nat},(∀ j,j<n→f j≤f' j)→Zde f n≤Zde f' n
 | 0,_=>Nat.le_refl _
 | n+1,h=>Nat.add_le_add (Zj1 fun j hj=>h j (by omega)) (h n (by omega))
theorem Loc.taken (G:Zbc c mn cp st)(h:Loc c mn cp st k t)(hj:t.job=1){s o:Nat}(ho:st.loc s o = .ZaB k):st.own s = .mine k∨st.own s = .shelf:=by
 have hm:=(G.om s (.ZaB k) rfl o).2 ho
 have h0:∀ {ms ch:List Nat} {x:Nat},Has st k ms x [] ch→False:=fun h=>by
  rw [h.ob] at hm
  split at hm <;> cases hm
 have h1:∀ {ms l ch:List Nat} {x:Nat},Has st k ms x l ch→s=x:=fun h=>by
  rw [h.ob] at hm
  split at hm
  ·assumption
  ·cases hm
 have h2:∀ {x:Nat} {l ch:List Nat},Has st k [x] x l ch→st.own s = .mine k∨st.own s = .shelf:=fun h=>by
  have:=h1 h
  subst this
  exact .inl (h.own G)
 have hal:=h.job.1 hj
 have hwant:=h.want
 have h:=h.at_
 unfold At at h
 split at h
 all_goals first
  | exact (h0 h).elim
  | exact (h0 h.1).elim
  | exact h2 h.1
  | exact h.elim
  | (rename_i hpc; rw [hpc] at hal; cases hal; done)
  | skip
 case h_20 =>
  obtain ⟨⟨l,h5,-⟩,-,-,-,-,⟨r,hr⟩,-⟩:=h
  have:=h1 h5
  subst this
  exact .inr (Zbo (p:=[]) G hr)
 case h_21 =>
  obtain ⟨⟨l,h5,-⟩,-,-,-,-,⟨r,hr,-⟩,-⟩:=h
  have:=h1 h5
  subst this
  exact .inr (Zbo (p:=[]) G hr)
 case h_22 =>
  obtain ⟨⟨l,h5,-⟩,-⟩:=h
  exact h2 h5
 case h_23 =>
  obtain ⟨⟨l,h5,-⟩,-⟩:=h
  exact h2 h5
 case h_24 =>
  obtain ⟨⟨l,h5,-⟩,-⟩:=h
  exact h2 h5
 case h_25 =>
  obtain ⟨⟨l,h5,-⟩,-⟩:=h
  exact h2 h5
 case h_26 =>
  obtain ⟨⟨l,h5,-⟩,-⟩:=h
  exact h2 h5
 case h_27 =>
  rename_i hpc
  rcases hwant with hw | hw | hw
  ·exact h2 (h.2 hw).1
  ·exact (h0 (h.1 hw.2).1).elim
  ·rw [hpc] at hw
   cases hw.1
theorem ZoR (I:Inv c mn cp st)(hj:∀ k t,st.tk k=some t→t.job=1){s o:Nat}(hs:st.own s = .full)(ho:o<c.O):st.loc s o = .out:=by
 have G:=I.G
 have hsS:=G.sb s (by rw [hs]; intro e; cases e)
 cases hl:st.loc s o with
 | none =>
   have:=(G.live s o hsS ho).1 hl
   rw [hs] at this
   cases this
 | first =>
   have h4:=(G.om s .first rfl o).2 hl
   rw [(G.full s hs).2.2] at h4
   cases h4
 | head x =>
   have:=G.oh s o x hl
   rw [hs] at this
   cases this
 | ZaB x =>
   exfalso
   cases ht:st.tk x with
   | none =>
     have h1:=(G.om s (.ZaB x) rfl o).2 hl
     rw [(I.idle x ht).ob s] at h1
     split at h1 <;> cases h1
   | some t =>
     rcases (I.loc x t ht).2.taken G (hj x t ht) hl with h | h
     ·rw [hs] at h
      cases h
     ·rw [hs] at h
      cases h
 | out=>rfl
theorem ZhI {f:Nat→List Nat}:∀ {l:List Nat},l.Nodup→(∀ i∈l,(f i).Nodup)→(∀ i∈l,∀ j∈l,i≠j→∀ x∈f i,x∉f j)→(l.flatMap f).Nodup
 | [],_,_,_=>List.nodup_nil
 | a::l,hn,h1,h2=>by
   rw [List.flatMap_cons]
   refine List.nodup_append.2 ⟨h1 a List.mem_cons_self,ZhI (List.nodup_cons.1 hn).2 (fun i hi=>h1 i (List.mem_cons_of_mem _ hi)) (fun i hi j hj=>h2 i (List.mem_cons_of_mem _ hi) j (List.mem_cons_of_mem _ hj)),fun x hx y hy e => ?_⟩
   subst e
   obtain ⟨j,hj,hxj⟩:=List.mem_flatMap.1 hy
   exact h2 a List.mem_cons_self j (List.mem_cons_of_mem _ hj) (fun e=>(List.nodup_cons.1 hn).1 (e ▸ hj)) x hx hxj
theorem Zel {f:Nat→List Nat}{O:Nat}(h:∀ i,(f i).length=O):∀ {l:List Nat},(l.flatMap f).length=l.length * O
 | []=>by simp
 | a::l=>by
   rw [List.flatMap_cons,List.length_append,h,Zel h,List.length_cons,Nat.succ_mul]
   omega
theorem room (I:Inv c mn cp st)(hO:c.O≤16)(hj:∀ k t,st.tk k=some t→t.job=1)(hown:∀ s x,st.own s≠.shelf∧st.own s≠.part x∧st.own s≠.chain x)(hd:∀ s,s<c.S→st.own s≠.dead){pile:List Nat}(hp:∀ s o,o<16→st.loc s o = .out→16 * s+o∈pile)(hlt:pile.length<(c.S - 2 * c.C) * c.O):False:=by
 classical
 have G:=I.G
 obtain ⟨F,hF⟩:∃ F,F=(List.range c.S).filter fun s=>st.own s = .full:=⟨_,rfl⟩
 have hFm:∀ s,s∈F↔s<c.S∧st.own s = .full:=fun s=>by
  rw [hF,List.mem_filter,List.mem_range,decide_eq_true_eq]
 have h1:c.S≤F.length+(c.C+c.C):=by
  have h2:=ZiD (l:=List.range c.S) (m:=F++(List.range c.C).flatMap fun k=>st.sl (.head k)++st.sl (.mine k)) List.nodup_range fun s hs=>by
   have hsS:=List.mem_range.1 hs
   rw [List.mem_append,hFm]
   cases ho:st.own s with
   | dead=>exact absurd ho (hd s hsS)
   | full=>exact .inl ⟨hsS,rfl⟩
   | shelf=>exact absurd ho (hown s 0).1
   | head x=>exact .inr (ZlF.2 ⟨x,G.sk s x (.inl ho),List.mem_append_left _ ((G.sm _ rfl s).2 ho)⟩)
   | part x=>exact absurd ho (hown s x).2.1
   | chain x=>exact absurd ho (hown s x).2.2
   | mine x=>exact .inr (ZlF.2 ⟨x,G.sk s x (.inr (.inr (.inr ho))),List.mem_append_right _ ((G.sm _ rfl s).2 ho)⟩)
  rw [List.length_range,List.length_append,ZlB] at h2
  have h3:Zde (fun k=>(st.sl (.head k)++st.sl (.mine k)).length) c.C≤Zde (fun _=>2) c.C:=Zj1 fun j _=>by
   show (st.sl (.head j)++st.sl (.mine j)).length≤2
   rw [List.length_append]
   have:=G.s1 j
   omega
  have h4:∀ n,Zde (fun _=>2) n=2 * n:=fun n=>by
   induction n with
   | zero=>rfl
   | succ n ih =>
     unfold Zde
     omega
  rw [h4] at h3
  omega
 have h2:F.length * c.O≤pile.length:=by
  have h3:(F.flatMap fun s=>(List.range c.O).map (16 * s+·)).length=F.length * c.O:=Zel fun i=>by simp
  rw [← h3]
  refine ZiD (ZhI ?_ (fun s _ => ?_) (fun s _ s' _ hne x hx hx2 => ?_)) fun x hx => ?_
  ·rw [hF]
   exact List.nodup_range.filter _
  ·unfold List.Nodup
   rw [List.pairwise_map]
   exact List.nodup_range.imp fun h e=>h (by omega)
  ·obtain ⟨a,ha,rfl⟩:=List.mem_map.1 hx
   obtain ⟨b,hb,e⟩:=List.mem_map.1 hx2
   have h5:=List.mem_range.1 ha
   have h6:=List.mem_range.1 hb
   have e2:16 * s'+b=16 * s+a:=e
   omega
  ·obtain ⟨s,hs,hx2⟩:=List.mem_flatMap.1 hx
   obtain ⟨a,ha,rfl⟩:=List.mem_map.1 hx2
   have h5:=List.mem_range.1 ha
   exact hp s a (by omega) (ZoR I hj ((hFm s).1 hs).2 h5)
 have h3:(c.S - 2 * c.C) * c.O≤F.length * c.O:=Nat.mul_le_mul_right _ (by omega)
 omega
end
end Go.Proofs.YtfcpdlbkmkhhcaaGreatDoor.Cv

namespace Go.Proofs.YtfcpdlbkmkhhcaaGreatDoor.Cv
open See Cw
structure Rn where
 g:List Nat
 tk:Nat→Option Tk
 next:Nat
 out:Nat→Bool
 pile:List Nat
 none:Nat
def brg (i:Int)(n:Nat):Nat:=(i % (n:Int)).toNat
theorem ZcQ {i:Int}{n:Nat}(h:1≤n):brg i n<n:=by
 unfold brg
 have h1:=Int.emod_nonneg i (show (n:Int)≠0 by omega)
 have h2:=Int.emod_lt_of_pos i (show (0:Int)<n by omega)
 omega
def Zfj (k:Nat):Tk:={ job:=1,cpu:=k,pc:=0 }
def Zk8 (k x:Nat):Tk:={ job:=2,cpu:=k,pc:=10,slab:=((x / 16:Nat):Int),obj:=((x % 16:Nat):Int) }
def ZhT (k f:Nat):Tk:={ job:=3,cpu:=k,pc:=70,for_:=(f:Int) }
def ZmB (k:Nat):Tk:={ job:=4,cpu:=k,pc:=95 }
def Znt (c:Ch)(r:Rn)(k:Nat)(j:Int):Tk×Option Nat :=
 if brg j 16=15 then (ZmB k,none)
 else if brg j 16=14 then (ZhT k (brg (j.tdiv 16) c.C),none)
 else if 8≤brg j 16∧r.pile≠[] then (Zk8 k (r.pile.getD (brg (j.tdiv 16) r.pile.length) 0),some (brg (j.tdiv 16) r.pile.length))
 else (Zfj k,none)
def ZdL (l:List Nat)(i:Nat):List Nat:=(l.set i (l.getD (l.length - 1) 0)).take (l.length - 1)
def ZaV (c:Ch)(jobs:List Int)(r:Rn)(k:Nat):Rn×Bool :=
 if r.next<jobs.length∧r.next<120 then
  match Znt c r k (jobs.getD r.next 0) with
  | (t,none)=>({ r with next:=r.next+1,tk:=upd r.tk k (some t) },true)
  | (t,some i)=>({ r with next:=r.next+1,tk:=upd r.tk k (some t),pile:=ZdL r.pile i,out:=fun x=>if x=r.pile.getD i 0 then false else r.out x },true)
 else (r,false)
def ZcC (tk:Nat→Option Tk)(C s:Nat):Bool:=(List.range C).any fun j=>match tk j with
 | some t=>makes t&&t.slab==(s:Int)
 | none=>false
theorem Zds {tk:Nat→Option Tk}{C s:Nat}:ZcC tk C s=true↔making tk C s:=by
 unfold ZcC making
 rw [List.any_eq_true]
 constructor
 ·rintro ⟨j,hj,h⟩
  rw [List.mem_range] at hj
  refine ⟨j,hj,?_⟩
  split at h
  ·rename_i t ht
   rw [Bool.and_eq_true,beq_iff_eq] at h
   exact ⟨t,ht,h.1,h.2⟩
  ·cases h
 ·rintro ⟨j,hj,t,ht,h1,h2⟩
  refine ⟨j,List.mem_range.2 hj,?_⟩
  simp only [ht,h1,h2,beq_self_eq_true,Bool.and_self]
def ZbI (c:Ch)(g:List Nat)(tk:Nat→Option Tk):Option Nat:=(List.range c.S).find? fun s=>See.at_ g (ZbU c s+1)==0 && !ZcC tk c.C s
def Zca (r:Rn)(t:Tk):Rn:=if t.job=1∧t.fin=1 then { r with out:=fun x=>if x=16 * t.slab.toNat+t.obj.toNat then true else r.out x,pile:=r.pile++[16 * t.slab.toNat+t.obj.toNat] } else r
def ZfW (c:Ch)(mn cp:Nat)(jobs:List Int)(r:Rn)(k:Nat):Option (Rn×Bool) :=
 match r.tk k with
 | none=>some (ZaV c jobs r k)
 | some t =>
   if t.want=1 then match ZbI c r.g r.tk with
    | some s=>some ({ r with tk:=upd r.tk k (some { t with want:=0,slab:=(s:Int),many:=0,pc:=43 }) },true)
    | none=>some ({ r with none:=r.none+1,tk:=upd r.tk k none },true)
   else if t.want=2 then match Zb2 { t with want:=0 } with
    | some t'=>some ({ r with tk:=upd r.tk k (stop t') },true)
    | none=>none
   else match Zba c mn cp r.g t with
    | some (t',g')=>some (Zca { r with g:=g',tk:=upd r.tk k (stop t') } t',true)
    | none=>none
section
variable {c:Ch}{mn cp:Nat}{st st1 st':St}{g g':List Nat}{k:Nat}{t t':Tk}{jobs:List Int}{r r':Rn}
structure RI (c:Ch)(mn cp:Nat)(r:Rn)(st:St):Prop where
 Z:Cw0 c mn cp st r.g
 tk:st.tk=r.tk
 out:∀ s o,o<16→(r.out (16 * s+o)=true↔st.loc s o = .out)
 nd:r.pile.Nodup
 mem:∀ x,x∈r.pile↔r.out x=true
def left (jobs:List Int)(r:Rn):Nat:=min jobs.length 120 - r.next
def Zkj (c:Ch)(jobs:List Int)(r:Rn)(st:St):Nat:=Phi c st+PJ c * left jobs r
theorem ZnU {l:List Nat}{i:Nat}(hi:i<l.length)(hn:l.Nodup):(ZdL l i).Nodup∧∀ x,x∈ZdL l i↔x∈l∧x≠l.getD i 0:=by
 obtain ⟨p,a,rfl⟩:∃ (p:List Nat) (a:Nat),l=p++[a]:=by
  rcases List.eq_nil_or_concat l with rfl | ⟨p,a,rfl⟩
  ·simp at hi
  ·exact ⟨p,a,by simp⟩
 have hlen:(p++[a]).length=p.length+1:=by simp
 have hlast:(p++[a]).getD ((p++[a]).length - 1) 0=a:=by
  rw [hlen,List.getD_eq_getElem?_getD]
  simp
 have hdrop:ZdL (p++[a]) i=if i<p.length then p.set i a else p:=by
  unfold ZdL
  rw [hlast,hlen,Nat.add_sub_cancel]
  split
  ·rename_i h
   rw [List.set_append_left _ _ h,List.take_append_of_le_length (by simp),List.take_of_length_le (by simp)]
  ·rename_i h
   have:i=p.length:=by omega
   subst this
   rw [List.set_append_right _ _ (Nat.le_refl _)]
   simp
 have hpn:=List.nodup_append.1 hn
 have hap:a∉p:=fun h=>hpn.2.2 a h a (by simp) rfl
 rw [hdrop]
 by_cases h:i<p.length
 ·rw [if_pos h]
  have hgi:(p++[a]).getD i 0=p[i]:=by
   rw [List.getD_eq_getElem?_getD,List.getElem?_append_left h,List.getElem?_eq_getElem h]
   rfl
  rw [hgi]
  obtain ⟨q,z,hq,hlen2⟩:∃ q z,p=q++p[i]::z∧q.length=i:=⟨p.take i,p.drop (i+1),by simp,by simp; omega⟩
  generalize p[i]=b at hq ⊢
  subst hq
  have hset:(q++b::z).set i a=q++a::z:=by
   rw [List.set_append_right _ _ (by omega),hlen2,Nat.sub_self]
   rfl
  rw [hset]
  have h1:=List.nodup_append.1 hpn.1
  have h2:=List.nodup_cons.1 h1.2.1
  simp only [List.mem_append,List.mem_cons,not_or] at hap
  constructor
  ·refine List.nodup_append.2 ⟨h1.1,List.nodup_cons.2 ⟨hap.2.2,h2.2⟩,fun x hx y hy e => ?_⟩
   subst e
   rcases List.mem_cons.1 hy with rfl | hy
   ·exact hap.1 hx
   ·exact h1.2.2 x hx x (List.mem_cons_of_mem _ hy) rfl
  ·intro x
   simp only [List.mem_append,List.mem_cons,List.not_mem_nil,or_false]
   constructor
   ·rintro (hx | rfl | hx)
    ·exact ⟨.inl (.inl hx),fun e=>h1.2.2 x hx b List.mem_cons_self e⟩
    ·exact ⟨.inr rfl,fun e=>hap.2.1 e⟩
    ·exact ⟨.inl (.inr (.inr hx)),fun e=>h2.1 (e ▸ hx)⟩
   ·rintro ⟨(hx | rfl | hx) | rfl,hne⟩
    ·exact .inl hx
    ·exact absurd rfl hne
    ·exact .inr (.inr hx)
    ·exact .inr (.inl rfl)
 ·rw [if_neg h]
  have hi2:i=p.length:=by omega
  subst hi2
  have hgi:(p++[a]).getD p.length 0=a:=by
   rw [List.getD_eq_getElem?_getD]
   simp
  rw [hgi]
  refine ⟨hpn.1,fun x => ?_⟩
  simp only [List.mem_append,List.mem_cons,List.not_mem_nil,or_false]
  constructor
  ·intro hx
   exact ⟨.inl hx,fun e=>hap (e ▸ hx)⟩
  ·rintro ⟨hx | hx,hne⟩
   ·exact hx
   ·exact absurd hx hne
theorem find_range {p:Nat→Bool}{n:Nat}:((List.range n).find? p=none→∀ s,s<n→p s=false)∧∀ s,(List.range n).find? p=some s→s<n∧p s=true:=by
 constructor
 ·intro h s hs
  have:=List.find?_eq_none.1 h s (List.mem_range.2 hs)
  simpa using this
 ·intro s h
  exact ⟨List.mem_range.1 (List.mem_of_find?_eq_some h),List.find?_some h⟩
theorem Zmj (Z:Cw0 c mn cp st g)(htk:st.tk=r.tk){s:Nat}(h:ZbI c g r.tk=some s):s<c.S∧st.own s = .dead:=by
 obtain ⟨h1,h2⟩:=find_range.2 s h
 refine ⟨h1,?_⟩
 rw [Zjk Z.I h1]
 rw [Bool.and_eq_true,beq_iff_eq] at h2
 have e:See.at_ g (ZbU c s+1)=ct c st s:=Z.at_ (.ct s) h1
 refine ⟨e ▸ h2.1,fun e2 => ?_⟩
 rw [htk] at e2
 have:=Zds.2 e2
 rw [this] at h2
 cases h2.2
theorem Zmi (Z:Cw0 c mn cp st g)(htk:st.tk=r.tk)(h:ZbI c g r.tk=none):∀ s,s<c.S→st.own s≠.dead:=by
 intro s hs hd
 have h1:=find_range.1 h s hs
 obtain ⟨h2,h3⟩:=(Zjk Z.I hs).1 hd
 have e:See.at_ g (ZbU c s+1)=ct c st s:=Z.at_ (.ct s) hs
 rw [e,h2] at h1
 have:ZcC r.tk c.C s=false:=by
  cases hm:ZcC r.tk c.C s with
  | false=>rfl
  | true =>
    have:=Zds.1 hm
    rw [← htk] at this
    exact absurd this h3
 rw [this] at h1
 cases h1
def runs (c:Ch)(r:Rn):Nat:=Zde (fun k=>if (r.tk k).isSome then 1 else 0) c.C
structure RA (c:Ch)(jobs:List Int)(r:Rn)(st:St):Prop where
 job:∀ k t,r.tk k=some t→t.job=1
 own:∀ s x,st.own s≠.shelf∧st.own s≠.part x∧st.own s≠.chain x
 none:r.none=0
 cnt:r.pile.length+runs c r=r.next
 nx:r.next≤jobs.length
structure ZmK (c:Ch)(jobs:List Int):Prop where
 all:∀ j∈jobs,brg j 16<8
 len:jobs.length≤(c.S - 2 * c.C) * c.O
theorem Ziw {x:Option Tk}(hk:k<c.C):runs c { r with tk:=upd r.tk k x }+(if (r.tk k).isSome then 1 else 0)=runs c r+(if x.isSome then 1 else 0):=by
 have:=Zgf (f:=fun j=>if (r.tk j).isSome then 1 else 0) (f':=fun j=>if (upd r.tk k x j).isSome then 1 else 0) hk fun j hj=>by
  show (if (upd r.tk k x j).isSome then 1 else 0)=(if (r.tk j).isSome then 1 else 0)
  rw [upd_ne hj]
 simp only [upd_same] at this
 exact this
theorem RA.Ztx {x:Option Tk}(A:RA c jobs r st)(hx:∀ t,x=some t→t.job=1):∀ j t,upd r.tk k x j=some t→t.job=1:=fun j t h=>by
 by_cases e:j=k
 ·rw [e,upd_same] at h
  exact hx t h
 ·rw [upd_ne e] at h
  exact A.job j t h
theorem RA.own' (A:RA c jobs r st)(h:∀ s,st'.own s=st.own s∨st'.own s = .head k∨st'.own s = .mine k∨st'.own s = .full):∀ s x,st'.own s≠.shelf∧st'.own s≠.part x∧st'.own s≠.chain x:=fun s x=>by
 rcases h s with h | h | h | h
 ·rw [h]
  exact A.own s x
 ·rw [h]
  exact ⟨(fun e=>by cases e),(fun e=>by cases e),fun e=>by cases e⟩
 ·rw [h]
  exact ⟨(fun e=>by cases e),(fun e=>by cases e),fun e=>by cases e⟩
 ·rw [h]
  exact ⟨(fun e=>by cases e),(fun e=>by cases e),fun e=>by cases e⟩
inductive ZeQ (c:Ch)(jobs:List Int)(r:Rn)(st:St)(k:Nat):Rn→St→Bool→Prop where
 | on {r':Rn} {st':St} (h:Zkj c jobs r' st'+1≤Zkj c jobs r st):ZeQ c jobs r st k r' st' true
 | idle (h:r.tk k=none) (h2:¬(r.next<jobs.length∧r.next<120)):ZeQ c jobs r st k r st false
 | spin (h:st.hold≠none) (t:Tk) (ht:r.tk k=some t) (hl:Zcj t.pc=false) (hw:t.want=0):ZeQ c jobs r st k r st true
theorem Zrc (I:RI c mn cp r st)(hk:k<c.C)(hn:st.n<1000000000):∃ r' b st',ZfW c mn cp jobs r k=some (r',b)∧RI c mn cp r' st'∧st'.n≤st.n+1∧ZeQ c jobs r st k r' st' b∧(ZmK c jobs→RA c jobs r st→RA c jobs r' st'):=by
 have Z:=I.Z
 have hO:=Z.O
 have G:=Z.I.G
 cases ht:r.tk k with
 | none =>
   have htk:st.tk k=none:=by rw [I.tk]; exact ht
   have hp:ZfW c mn cp jobs r k=some (ZaV c jobs r k):=by
    unfold ZfW
    rw [ht]
   by_cases hmore:r.next<jobs.length∧r.next<120
   ·have hleft:left jobs r=left jobs { r with next:=r.next+1 }+1:=by
     show min jobs.length 120 - r.next=min jobs.length 120 - (r.next+1)+1
     omega
    have hplain:∀ t0,Znt c r k (jobs.getD r.next 0)=(t0,none)→Zry c k t0→∃ r' b st',ZfW c mn cp jobs r k=some (r',b)∧RI c mn cp r' st'∧st'.n≤st.n+1∧ZeQ c jobs r st k r' st' b∧(ZmK c jobs→RA c jobs r st→RA c jobs r' st'):=by
     intro t0 hj hnew
     obtain ⟨st',hx,hphi,hloc,hown,-⟩:=Zow Z hk htk hnew
     refine ⟨{ r with next:=r.next+1,tk:=upd r.tk k (some t0) },true,st',?_,⟨hx.Z,?_,fun s o ho => ?_,I.nd,I.mem⟩,by rw [hx.n]; exact Nat.le_refl _,.on ?_,fun T A=>⟨A.Ztx (fun t e => ?_),A.own' (k:=k) (fun s=>.inl (by rw [hown])),A.none,?_,hmore.1⟩⟩
     ·rw [hp]
      unfold ZaV
      rw [if_pos hmore,hj]
     ·rw [hx.tk,I.tk]
     ·rw [hloc]
      exact I.out s o ho
     ·unfold Zkj
      have e:left jobs { r with next:=r.next+1,tk:=upd r.tk k (some t0) }=left jobs { r with next:=r.next+1 }:=rfl
      rw [e,hleft,Nat.mul_add]
      omega
     ·cases e
      have h7:=T.all (jobs.getD r.next 0) (by rw [List.getD_eq_getElem?_getD,List.getElem?_eq_getElem hmore.1]; exact List.getElem_mem hmore.1)
      unfold Znt at hj
      rw [if_neg (by omega),if_neg (by omega),if_neg (by omega)] at hj
      cases hj
      rfl
     ·have h8:=Ziw (r:=r) (x:=some t0) hk
      rw [ht] at h8
      have h9:=A.cnt
      show r.pile.length+runs c { r with tk:=upd r.tk k (some t0) }=r.next+1
      simp at h8
      omega
    by_cases h15:brg (jobs.getD r.next 0) 16=15
    ·exact hplain (ZmB k) (if_pos h15) .trim
    by_cases h14:brg (jobs.getD r.next 0) 16=14
    ·exact hplain (ZhT k _) ((if_neg h15).trans (if_pos h14)) (.flush _ (ZcQ Z.C.1))
    by_cases h8:8≤brg (jobs.getD r.next 0) 16∧r.pile≠[]
    ·obtain ⟨i,hi⟩:∃ i,i=brg ((jobs.getD r.next 0).tdiv 16) r.pile.length:=⟨_,rfl⟩
     have hpl:1≤r.pile.length:=by
      cases hc:r.pile with
      | nil=>exact absurd hc h8.2
      | cons a l=>simp
     have hil:i<r.pile.length:=hi ▸ ZcQ hpl
     obtain ⟨x,hx⟩:∃ x,x=r.pile.getD i 0:=⟨_,rfl⟩
     have hxm:x∈r.pile:=by
      rw [hx,List.getD_eq_getElem?_getD,List.getElem?_eq_getElem hil]
      exact List.getElem_mem hil
     have hxo:r.out x=true:=(I.mem x).1 hxm
     have hxe:x=16 * (x / 16)+x % 16:=by omega
     have hloc:st.loc (x / 16) (x % 16) = .out:=(I.out _ _ (by omega)).1 (by rw [← hxe]; exact hxo)
     obtain ⟨st',hN,hphi,hlo,-⟩:=Zfs Z hk htk hloc
     have hj:Znt c r k (jobs.getD r.next 0)=(Zk8 k x,some i):=by
      unfold Znt
      rw [if_neg h15,if_neg h14,if_pos h8,← hi,← hx]
     obtain ⟨hd1,hd2⟩:=ZnU hil I.nd
     refine ⟨{ r with next:=r.next+1,tk:=upd r.tk k (some (Zk8 k x)),pile:=ZdL r.pile i,out:=fun y=>if y=r.pile.getD i 0 then false else r.out y },true,st',?_,⟨hN.Z,?_,fun s o ho => ?_,hd1,fun y => ?_⟩,by rw [hN.n]; exact Nat.le_refl _,.on ?_,fun T A => ?_⟩
     ·rw [hp]
      unfold ZaV
      rw [if_pos hmore,hj]
     ·rw [hN.tk,I.tk]
      rfl
     ·rw [hlo s o]
      show (if 16 * s+o=r.pile.getD i 0 then false else r.out (16 * s+o))=true↔_
      rw [← hx]
      by_cases e:16 * s+o=x
      ·rw [if_pos e]
       constructor
       ·intro e2
        cases e2
       ·intro e2
        exact absurd ⟨by omega,by omega⟩ e2.2
      ·rw [if_neg e,I.out s o ho]
       constructor
       ·intro e2
        refine ⟨e2,fun e3=>e ?_⟩
        omega
       ·intro e2
        exact e2.1
     ·show y∈ZdL r.pile i↔(if y=r.pile.getD i 0 then false else r.out y)=true
      rw [hd2 y,I.mem y]
      by_cases e:y=r.pile.getD i 0
      ·rw [if_pos e]
       constructor
       ·intro e2
        exact absurd e e2.2
       ·intro e2
        cases e2
      ·rw [if_neg e]
       exact ⟨fun e2=>e2.1,fun e2=>⟨e2,e⟩⟩
     ·unfold Zkj
      show Phi c st'+PJ c * left jobs { r with next:=r.next+1 }+1≤_
      rw [hleft,Nat.mul_add]
      omega
     ·have h7:=T.all (jobs.getD r.next 0) (by rw [List.getD_eq_getElem?_getD,List.getElem?_eq_getElem hmore.1]; exact List.getElem_mem hmore.1)
      exact absurd h8.1 (by omega)
    ·refine hplain (Zfj k) ?_ .alloc
     unfold Znt
     rw [if_neg h15,if_neg h14,if_neg h8]
   ·refine ⟨r,false,st,?_,I,Nat.le_succ _,.idle ht hmore,fun _ A=>A⟩
    rw [hp]
    unfold ZaV
    rw [if_neg hmore]
 | some t =>
   have htk:st.tk k=some t:=by rw [I.tk]; exact ht
   by_cases hw1:t.want=1
   ·cases hf:ZbI c r.g r.tk with
    | some s =>
      obtain ⟨hs,hd⟩:=Zmj Z I.tk hf
      obtain ⟨st',hN,hphi,hlo,hown⟩:=Zl4 Z htk hw1 hs hd
      refine ⟨{ r with tk:=upd r.tk k (some { t with want:=0,slab:=(s:Int),many:=0,pc:=43 }) },true,st',?_,⟨hN.Z,?_,fun s o ho => ?_,I.nd,I.mem⟩,by rw [hN.n]; exact Nat.le_refl _,.on ?_,fun T A=>⟨A.Ztx (fun t2 e=>by cases e; exact A.job k t ht),A.own' (fun x=>(hown x).elim .inl fun h=>.inr (.inr (.inl h))),A.none,?_,A.nx⟩⟩
      ·unfold ZfW
       rw [ht]
       dsimp only
       rw [if_pos hw1,hf]
      ·rw [hN.tk,I.tk]
      ·rw [hlo]
       exact I.out s o ho
      ·show Phi c st'+PJ c * left jobs r+1≤Phi c st+PJ c * left jobs r
       omega
      ·have h8:=Ziw (r:=r) (x:=some { t with want:=0,slab:=(s:Int),many:=0,pc:=43 }) hk
       rw [ht] at h8
       have h9:=A.cnt
       show r.pile.length+runs c { r with tk:=upd r.tk k (some { t with want:=0,slab:=(s:Int),many:=0,pc:=43 }) }=r.next
       simp at h8
       omega
    | none =>
      obtain ⟨st',hN,hphi,hlo,-⟩:=ZmO Z htk hw1
      refine ⟨{ r with none:=r.none+1,tk:=upd r.tk k none },true,st',?_,⟨hN.Z,?_,fun s o ho => ?_,I.nd,I.mem⟩,by rw [hN.n]; exact Nat.le_refl _,.on ?_,fun T A => ?_⟩
      ·unfold ZfW
       rw [ht]
       dsimp only
       rw [if_pos hw1,hf]
      ·rw [hN.tk,I.tk]
      ·rw [hlo]
       exact I.out s o ho
      ·show Phi c st'+PJ c * left jobs r+1≤Phi c st+PJ c * left jobs r
       omega
      ·exfalso
       refine room (pile:=r.pile) Z.I hO.2 (fun j t e=>A.job j t (by rw [← I.tk]; exact e)) A.own (Zmi Z I.tk hf) (fun s o ho hl=>(I.mem _).2 ((I.out s o ho).2 hl)) ?_
       have h8:=Ziw (r:=r) (x:=none) hk
       rw [ht] at h8
       have h9:=A.cnt
       have h10:=A.nx
       have h11:=T.len
       simp at h8
       omega
   ·by_cases hw2:t.want=2
    ·obtain ⟨t',hg,st',hN,hfin,hjob,hj1,hphi,hlo⟩:=Zlu Z htk hw2
     refine ⟨{ r with tk:=upd r.tk k (stop t') },true,st',?_,⟨hN.Z,?_,fun s o ho => ?_,I.nd,I.mem⟩,by rw [hN.n]; exact Nat.le_refl _,.on ?_,fun T A=>absurd (A.job k t ht) hj1⟩
     ·unfold ZfW
      rw [ht]
      dsimp only
      rw [if_neg hw1,if_pos hw2,hg]
     ·rw [hN.tk,I.tk]
     ·rw [hlo]
      exact I.out s o ho
     ·show Phi c st'+PJ c * left jobs r+1≤Phi c st+PJ c * left jobs r
      omega
    ·have hw0:t.want=0:=by
      rcases (Z.I.loc k t htk).2.want with h | h | h
      ·exact h
      ·exact absurd h.2 hw1
      ·exact absurd h.2 hw2
     have X:=Z.cx htk hn
     obtain ⟨t',g',st',hR⟩:=step_ok X hw0
     have Z':Cw0 c mn cp st' g':=⟨hR.I,hR.E,hR.W,Z.C,Z.S,Z.O,Z.cp,Z.mn⟩
     have hpick:ZfW c mn cp jobs r k=some (Zca { r with g:=g',tk:=upd r.tk k (stop t') } t',true):=by
      unfold ZfW
      rw [ht]
      dsimp only
      rw [if_neg hw1,if_neg hw2,hR.step]
     rcases hR.phi with hphi | ⟨h1,h2,h3,h4,h5⟩
     ·refine ⟨_,true,st',hpick,?_,hR.n,?_,fun T A => ?_⟩
      ·by_cases he:t'.job=1∧t'.fin=1
       ·have hout:=hR.out
        rw [if_pos ⟨hR.job ▸ he.1,he.2⟩] at hout
        obtain ⟨s0,o0,e1,e2,hs0,ho0,hno,hlo⟩:=hout
        have hx:16 * t'.slab.toNat+t'.obj.toNat=16 * s0+o0:=by omega
        have hen:Zca { r with g:=g',tk:=upd r.tk k (stop t') } t'={ g:=g',tk:=upd r.tk k (stop t'),next:=r.next,out:=fun x=>if x=16 * s0+o0 then true else r.out x,pile:=r.pile++[16 * s0+o0],none:=r.none }:=by
              unfold Zca
              rw [if_pos he,hx]
        rw [hen]
        have hfalse:16 * s0+o0∉r.pile:=fun e=>hno ((I.out s0 o0 (by omega)).1 ((I.mem _).1 e))
        refine ⟨Z',?_,fun s o ho => ?_,?_,fun x => ?_⟩
        ·show st'.tk=upd r.tk k (stop t')
         rw [hR.tk,I.tk]
        ·show (if 16 * s+o=16 * s0+o0 then true else r.out (16 * s+o))=true↔_
         rw [hlo s o]
         by_cases e:16 * s+o=16 * s0+o0
         ·rw [if_pos e]
          exact ⟨fun _=>.inr ⟨by omega,by omega⟩,fun _=>rfl⟩
         ·rw [if_neg e,I.out s o ho]
          exact ⟨fun h=>.inl h,fun h=>h.elim id fun h=>absurd (by omega) e⟩
        ·refine List.nodup_append.2 ⟨I.nd,by simp,fun a ha b hb e => ?_⟩
         rw [List.mem_singleton] at hb
         subst hb
         subst e
         exact hfalse ha
        ·show x∈r.pile++[16 * s0+o0]↔(if x=16 * s0+o0 then true else r.out x)=true
         rw [List.mem_append,List.mem_singleton,I.mem x]
         by_cases e:x=16 * s0+o0
         ·rw [if_pos e]
          exact ⟨fun _=>rfl,fun _=>.inr e⟩
         ·rw [if_neg e]
          exact ⟨fun h=>h.elim id fun h=>absurd h e,fun h=>.inl h⟩
       ·have hen:Zca { r with g:=g',tk:=upd r.tk k (stop t') } t'={ r with g:=g',tk:=upd r.tk k (stop t') }:=if_neg he
        rw [hen]
        have hout:=hR.out
        rw [if_neg (fun e=>he ⟨hR.job.trans e.1,e.2⟩)] at hout
        refine ⟨Z',?_,fun s o ho => ?_,I.nd,I.mem⟩
        ·show st'.tk=upd r.tk k (stop t')
         rw [hR.tk,I.tk]
        ·rw [hout]
         exact I.out s o ho
      ·refine .on ?_
       have e:left jobs (Zca { r with g:=g',tk:=upd r.tk k (stop t') } t')=left jobs r:=by
              unfold Zca
              split <;> rfl
       unfold Zkj
       rw [e]
       omega
      ·have hj:=A.job k t ht
       have h9:=A.cnt
       have h8:=Ziw (r:=r) (x:=stop t') hk
       rw [ht] at h8
       have hown:=A.own' (st':=st') (k:=k) fun s=>by
              rcases hR.ao hj s with h | h | h | h
              ·exact .inl h
              ·exact .inr (.inl h)
              ·exact .inr (.inr (.inl h))
              ·exact .inr (.inr (.inr h.1))
       have hjob:∀ j t2,upd r.tk k (stop t') j=some t2→t2.job=1:=A.Ztx fun t2 e=>by
              unfold stop at e
              split at e
              ·cases e
               exact hR.job.trans hj
              ·cases e
       rcases hR.fin with hf | hf
       ·have hen:Zca { r with g:=g',tk:=upd r.tk k (stop t') } t'={ r with g:=g',tk:=upd r.tk k (stop t') }:=if_neg (fun e=>by rw [hf] at e; cases e.2)
        have hst:stop t'=some t':=if_pos hf
        rw [hen]
        refine ⟨hjob,hown,A.none,?_,A.nx⟩
        show r.pile.length+runs c { r with tk:=upd r.tk k (stop t') }=r.next
        rw [hst] at h8 ⊢
        simp at h8
        omega
       ·have hen:Zca { r with g:=g',tk:=upd r.tk k (stop t') } t'={ g:=g',tk:=upd r.tk k (stop t'),next:=r.next,out:=fun x=>if x=16 * t'.slab.toNat+t'.obj.toNat then true else r.out x,pile:=r.pile++[16 * t'.slab.toNat+t'.obj.toNat],none:=r.none }:=if_pos ⟨hR.job.trans hj,hf⟩
        have hst:stop t'=none:=if_neg (by rw [hf]; decide)
        rw [hen]
        refine ⟨hjob,hown,A.none,?_,A.nx⟩
        show (r.pile++[_]).length+runs c { r with tk:=upd r.tk k (stop t') }=r.next
        rw [hst] at h8 ⊢
        simp at h8 ⊢
        omega
     ·subst h1 h2 h3
      have hf:t'.fin=0:=(Z.I.loc k _ htk).2.fin
      have hst:stop t'=some t':=if_pos hf
      have hupd:upd r.tk k (stop t')=r.tk:=by
       rw [hst]
       funext j
       by_cases e:j=k
       ·rw [e,upd_same,ht]
       ·rw [upd_ne e]
      have hen:Zca { r with g:=r.g,tk:=upd r.tk k (stop t') } t'=r:=by
       rw [hupd]
       exact if_neg (fun e=>by rw [hf] at e; cases e.2)
      rw [hen] at hpick
      exact ⟨r,true,_,hpick,I,Nat.le_succ _,.spin h4 t' ht h5 hw0,fun _ A=>A⟩
end
end Go.Proofs.YtfcpdlbkmkhhcaaGreatDoor.Cv
