/-
  Texts of this claim, joined. No condition.
-/
import Derived.Test.YtfcpdlbkmkhhcaaGreatDoorCh1
import Derived.Test.YtfcpdlbkmkhhcaaGreatDoorCh9
import Derived.Test.YtfcpdlbkmkhhcaaGreatDoorRows
import Derived.WalkKit
import Derived.WalkSpells
import Derived.WalkLawsBesides
import Derived.Deep.Draws
import Derived.Deep.QuietTactic
import Derived.BigQuiet
import Derived.Lib.Hide
import Derived.ProofKit
import Derived.Sort.AtCall
import Derived.Deep.RegionHeld3
import Derived.Deep.RegionWith
import Derived.Deep.DrawnRows
import Derived.OpenShut
import Derived.Test.YtfcpdlbkmkhhcaaGreatDoorTie
import Derived.LaidMore
import Derived.Stop.Joined
import Derived.Test.YtfcpdlbkmkhhcaaGreatDoorCh2
namespace Go.Proofs.YtfcpdlbkmkhhcaaGreatDoor
set_option maxRecDepth 100000
set_option maxHeartbeats 40000000
namespace Ex
open Go
section
variable {P:Program}{gs:List (Nat×List Int)}{σ:Nat→Int}
theorem Zv {w:World}:jR [] w:=fun g l h=>by cases h
theorem Qp:zL P gs σ []:=fun f xs v hf=>by cases hf
def Cc (σ:Nat→Int):DT→Prop
 | .leaf | .is _=>False
 | .bad=>True
 | .node c t e=>(c.ev σ=true∧Cc σ t)∨(c.ev σ=false∧Cc σ e)
def Ends (σ:Nat→Int):DT→Value→Prop
 | .leaf,x=>x = .bool true
 | .is v,x=>x=valOf σ v
 | .bad,_=>False
 | .node c t e,x=>(c.ev σ=true∧Ends σ t x)∨(c.ev σ=false∧Ends σ e x)
theorem Jk (hm:P.follows .mixedOrders=true){ov:Ov}(qw:zL P gs σ ov){n:Nat}{f:FuncId}{args:List AV}(ha:AV.shuts args=true):∀ (d:DT) (fs:List (dB×Bool)),(∀ f∈fs,f.1.ev σ=f.2)→tree P gs ov n f args d fs=true→¬ Cc σ d →
 ∀ w,jR gs w→Calls P f (eU σ args).toArray w fun e w'=>(∃ x,e = .returned x∧Ends σ d x)∧RowKit.Below w.heap.size w w'
 | .leaf,fs,tJ,h,_,w,hg=>(@Yo { facts:=fs,fU:=gs,σ:=σ,ok:=tJ } P hm ov qw n f args (.bool true) h ha rfl w hg (@ZV { facts:=fs,fU:=gs,σ:=σ,ok:=tJ } w rfl)).mono fun _ _ h=>⟨⟨_,h.1,rfl⟩,h.2⟩
 | .is v,fs,tJ,h,_,w,hg=>by
   unfold tree at h;split at h<;>try(cases h;done)
   rename_i hv;exact(@Yo { facts:=fs,fU:=gs,σ:=σ,ok:=tJ } P hm ov qw n f args v h ha hv w hg (@ZV { facts:=fs,fU:=gs,σ:=σ,ok:=tJ } w rfl)).mono fun _ _ h=>⟨⟨_,h.1,rfl⟩,h.2⟩
 | .bad,_,_,_,hb,_,_=>absurd trivial hb
 | .node c t e,fs,tJ,h,hb,w,hg=>by
   unfold tree at h;split at h<;>try(cases h;done)
   rename_i ht;cases hc:c.ev σ with
   |true =>
    refine(Jk hm qw ha t ((c,true)::fs) (fun f hf=>by rcases List.mem_cons.1 hf with rfl|hf;exact hc;exact tJ f hf) ht (fun hx=>hb (.inl ⟨hc,hx⟩)) w hg).mono ?_;rintro _ _ ⟨⟨x,rfl,hx⟩,h2⟩;exact⟨⟨x,rfl,.inl ⟨hc,hx⟩⟩,h2⟩
   |false =>
    refine(Jk hm qw ha e ((c,false)::fs) (fun f hf=>by rcases List.mem_cons.1 hf with rfl|hf;exact hc;exact tJ f hf) h (fun hx=>hb (.inr ⟨hc,hx⟩)) w hg).mono ?_;rintro _ _ ⟨⟨x,rfl,hx⟩,h2⟩;exact⟨⟨x,rfl,.inr ⟨hc,hx⟩⟩,h2⟩
def DT.plain:DT→Bool
 | .leaf | .bad=>true
 | .is _=>false
 | .node _ t e=>t.plain&&e.plain
theorem SQ:∀ {d:DT} {x:Value},d.plain=true→Ends σ d x→x = .bool true
 | .leaf,_,_,h=>h
 | .bad,_,_,h=>h.elim
 | .is _,_,hp,_=>by cases hp
 | .node c t e,x,hp,h=>by
   unfold DT.plain at hp;rw[Zxu]at hp;rcases h with⟨_,h⟩|⟨_,h⟩
   ·exact SQ hp.1 h
   ·exact SQ hp.2 h
theorem ZmC (hm:P.follows .mixedOrders=true){ov:Ov}(qw:zL P gs σ ov){n:Nat}{f:FuncId}{args:List AV}(ha:AV.shuts args=true)(d:DT)(hp:d.plain=true)(h:tree P gs ov n f args d []=true)(hb:¬ Cc σ d)(w:World)(hg:jR gs w) :
 Calls P f (eU σ args).toArray w fun e w'=>e = .returned (.bool true)∧RowKit.Below w.heap.size w w':=by
 refine(Jk hm qw ha d [] (by simp) h hb w hg).mono ?_;rintro _ _ ⟨⟨x,rfl,hx⟩,h2⟩;rw[SQ hp hx];exact⟨rfl,h2⟩
theorem Zmn (hm:P.follows .mixedOrders=true){ov:Ov}(qw:zL P gs σ ov){n:Nat}{f:FuncId}(h:tree P gs ov n f [] .leaf []=true)(w:World)(hg:jR gs w):Calls P f #[] w fun e w'=>e = .returned (.bool true)∧RowKit.Below w.heap.size w w' :=
 ZmC hm qw rfl .leaf rfl h (fun h=>h) w hg
theorem Zq6 {ov:Ov}{f:FuncId}{xs:List AV}{v:AV}(qw:zL P gs σ ov)(ha:AV.shuts xs=true)(hv:v.shut=true)(hf:rz P f)(hc:∀ w,jR gs w→Calls P f (eU σ xs).toArray w fun e w'=>e = .returned (valOf σ v)∧RowKit.Below w.heap.size w w'):zL P gs σ ((f,xs,v)::ov):=by
 intro g xs' v' hm;rcases List.mem_cons.1 hm with he|he
 ·simp only[ZxA]at he
  obtain⟨rfl,rfl,rfl⟩:=he;exact⟨ha,hv,hf,hc⟩
 ·exact qw g xs' v' he
end
end Ex
section
open Go.RowKit
structure Own (W:World)(m:List (Nat×Obj))(w:World):Prop where
 below:Below W.heap.size W w
 at_:∀ p∈m,W.heap.size≤p.1∧w.heap[p.1]?=some p.2
 nd:(m.map (·.1)).Nodup
theorem yj {w:World}{g:Nat}{o:Obj}(h:w.heap[g]?=some o):g<w.heap.size:=by
 rcases Nat.lt_or_ge g w.heap.size with aK|eD
 ·exact aK
 ·rw[Zx1 eD]at h;cases h
theorem vU {α:Type}(A B C:List α):(A++(B++C)).Perm (B++(A++C)):=by
 rw[← ZxG,← ZxG];exact List.Perm.append_right _ List.perm_append_comm
namespace Own
variable {W w w':World}{m m':List (Nat×Obj)}{b i:Nat}{cs:Array Value}{t:TypeId}{o:Obj}
theorem init (W:World):Own W [] W:=⟨Below.refl _ _,by simp,by simp⟩
theorem self (w:World):Own w [] w:=init w
theorem get (h:Own W m w)(hm:(b,o)∈m):w.heap[b]?=some o:=(h.at_ _ hm).2
theorem lt (h:Own W m w)(hm:(b,o)∈m):b<w.heap.size:=yj (h.get hm)
theorem ge (h:Own W m w)(hm:(b,o)∈m):W.heap.size≤b:=(h.at_ _ hm).1
theorem cell (h:Own W m w)(hm:(b,.cells cs t)∈m)(i:Nat):w.cell? ⟨b,i,none⟩=cs[i]?:=by
 simp[World.cell?,h.get hm]
theorem frozen (h:Own W m w)(hm:(b,.cells cs t)∈m)(i:Nat):w.frozen? ⟨b,i,none⟩=false:=by
 simp[World.frozen?,h.get hm]
theorem old (h:Own W m w){a:Addr}(ha:a.block<W.heap.size):w.cell? a=W.cell? a:=h.below.cell ha
theorem size_le (h:Own W m w):W.heap.size≤w.heap.size:=h.below.size
theorem drew (h:Own W m w):Own W m w.drew:=⟨h.below.drew,h.at_,h.nd⟩
theorem drewN (h:Own W m w)(n:Nat):Own W m (w.drewN n):=⟨⟨h.below.os,h.below.tape,h.below.output,h.below.size,h.below.block⟩,h.at_,h.nd⟩
theorem perm (h:Own W m w)(hp:m.Perm m'):Own W m' w :=
 ⟨h.below,fun p hm=>h.at_ p (hp.mem_iff.2 hm),(hp.map (·.1)).nodup_iff.1 h.nd⟩
theorem sub (h:Own W m w)(hs:m'.Sublist m):Own W m' w :=
 ⟨h.below,fun p hm=>h.at_ p (hs.subset hm),h.nd.sublist (hs.map _)⟩
theorem skip {x:Nat×Obj}(h:Own W (x::m) w):Own W m w:=h.sub (ZxC _ _)
theorem bD (h:Own W (m'++m) w):Own W m w:=h.sub (List.sublist_append_right _ _)
theorem swap {m1 m2 m3:List (Nat×Obj)}(h:Own W (m1++(m2++m3)) w):Own W (m2++(m1++m3)) w :=
 h.perm (by rw[← ZxG,← ZxG];exact List.Perm.append_right _ List.perm_append_comm)
theorem O9 (h:Own W m w)(hb:Below w.heap.size w w'):Own W m w' :=
 ⟨h.below.trans (hb.mono h.size_le),fun p hm=>⟨(h.at_ p hm).1,(hb.block p.1 (yj (h.at_ p hm).2)).trans (h.at_ p hm).2⟩,h.nd⟩
theorem alloc (h:Own W m w)(o:Obj):Own W m (w.alloc o):=h.O9 ((Below.refl _ _).alloc (Zxt _) _)
theorem new (h:Own W m w)(o:Obj):Own W ((w.heap.size,o)::m) (w.alloc o) :=
 ⟨(h.alloc o).below,fun p hm=>by
   rcases List.mem_cons.1 hm with rfl|hm
   ·exact⟨h.size_le,heap_alloc_new w o⟩
   ·exact(h.alloc o).at_ p hm,by
   simp only[List.map_cons,ZxS];refine⟨fun ja => ?_,h.nd⟩;obtain⟨p,hp,he⟩:=List.mem_map.1 ja;have:=yj (h.at_ p hp).2;omega⟩
theorem set (h:Own W ((b,.cells cs t)::m) w)(i:Nat)(v:Value):Own W ((b,.cells (cs.setIfInBounds i v) t)::m) (w.setCell ⟨b,i,none⟩ v):=by
 have hg:=h.get (ZnJ);have eD:=h.ge (ZnJ);refine⟨h.below.setCell eD v,fun p hm => ?_,h.nd⟩;rcases List.mem_cons.1 hm with rfl|hm
 ·exact⟨eD,by simp[World.setCell,Array.getElem?_modify,hg]⟩
 ·have hne:p.1≠b:=fun he=>by
   have:=h.nd;simp only[List.map_cons,ZxS]at this;exact this.1 (he ▸ List.mem_map_of_mem (f:=(·.1)) hm)
  exact⟨(h.at_ p (ZnQ _ hm)).1,(Below.heap_setCell w _ v p.1 hne).trans (h.at_ p (ZnQ _ hm)).2⟩
theorem EQ {m1 m2:List (Nat×Obj)}(h:Own W (m1++(b,.cells cs t)::m2) w)(i:Nat)(v:Value) :
 Own W (m1++(b,.cells (cs.setIfInBounds i v) t)::m2) (w.setCell ⟨b,i,none⟩ v) :=
 ((h.perm ZxT).set i v).perm List.perm_middle.symm
theorem Zq4 (h:Own W m w)(h':Own w [] w'):Own W m w':=h.O9 h'.below
theorem ne {b':Nat}{o':Obj}(h:Own W ((b,o)::m) w)(hm:(b',o')∈m):b'≠b:=fun he=>by
 have:=h.nd;simp only[List.map_cons,ZxS]at this;exact this.1 (he ▸ List.mem_map_of_mem (f:=(·.1)) hm)
theorem drop1 {x:Nat×Obj}{m1:List (Nat×Obj)}(h:Own W (m1++x::m) w):Own W (m1++m) w :=
 h.sub ((List.Sublist.refl _).append (ZxC _ _))
end Own
theorem Ziv {P:Program}(t e:TypeId)(i:TypeInfo)(z:Value)(ht:P.underlying t=some (.slice e))(hi:P.info? e=some i)(hz:i.zero=some z)
 (kl kc:IntKind) (n c:Nat) (hnc:n≤c) (lF:i.bytes * c≤281474976710656) (uN:c≤9223372036854775807) (w:World) :
 (Instr.makeSlice t (.int kl (n:Int)) (.int kc (c:Int))).run P w = .ok (.slice (some ⟨w.heap.size,0,none⟩) n c) (w.alloc (.cells (madeCells z.cells (c * i.size)) e)):=by
 have hb:(i.bytes:Int) * (c:Int)≤281474976710656:=by
  have h:((i.bytes * c:Nat):Int)≤281474976710656:=by omega
  rwa [Int.natCast_mul]at h
 have hr:=run_make (P:=P) w t e i z ht hi hz kl kc n c (by omega) (by omega) hb (by omega);simp only[Zx2]at hr;exact hr
theorem ZgQ (z:Array Value)(x:Value)(n:Nat)(h0:0<z.size)(h:∀ i,i<z.size→z[i]! = x):madeCells z n=Array.replicate n x:=by
 apply Array.ext
 ·simp[madeCells]
 ·intro i h1 h2
  simp[madeCells,h (i % z.size) (Nat.mod_lt _ h0)]
theorem Gs {P:Program}{t n b:Nat}{z:Value}(h:(P.info? t).map (fun i=>(i.zero,i.size,i.bytes))=some (some z,n,b)):∃ i,P.info? t=some i∧i.zero=some z∧i.size=n∧i.bytes=b:=by
 cases hi:P.info? t with
 |none=>rw[hi]at h;cases h
 |some i=>rw[hi]at h;simp at h;exact⟨i,rfl,h⟩
end
section
open Go.ChangeShapes Go.WideShapes Go.ChangeAt Go.RowKit
theorem Tryz.own:ownKnob Tryz.prog.godebug=none:=by kernel_rfl
theorem Tryz.laidOut:laidOutB Tryz.prog=true:=by kernel_rfl
section
variable {H:Type}{enc:TypeId×Value→H}{P:Program}
theorem XV (hl:laidOutB P=true){W W':World}(hb:Below W.heap.size W W'){sp:Nat→Bool} :
 ∀ (ts:List TypeId) (vs:List Value) (ds:List (DataW H)) (ps:List MemPlace),(∀ t∈ts,P.readableRec t=true∧t<P.types.size) →
 DataW.TrodAll enc P W 0 (fun _=>true) true ts vs ds ps→(∀ x∈ps,x.block<W.heap.size)→(∀ x∈ps,sp x.block=true) →
 DataW.TrodAll enc P W' 0 sp true ts vs ds ps
 |[],vs,ds,ps,_,h,_,_=>by
  obtain⟨rfl,rfl,rfl⟩:=trodAll_nil h;exact trodAll_mk0
 |t::ts,vs,ds,ps,hr,h,aK,hs=>by
  obtain⟨v,vs',d,ds',p,q,rfl,rfl,rfl,h1,h2⟩:=trodAll_cons h;obtain⟨jL,dO⟩:=hr t ZnJ
  exact trodAll_cons_mk (WideElems.Trod_stays hl jL dO h1 (fun x hx=>hb.same (aK x (List.mem_append_left _ hx))) (fun x hx=>hs x (List.mem_append_left _ hx)))
   (XV hl hb ts vs' ds' q (fun t' u7=>hr t' (ZnQ _ u7)) h2 (fun x hx=>aK x (ZxU _ hx)) (fun x hx=>hs x (ZxU _ hx)))
theorem ZoZ {f:Func}{s:ChangeSpec}{T:TypeId}{apart fresh handsOn again:Bool}{W W':World}{args:Array Value}{ds gs:List (DataW H)}{before:List MemPlace}(hl:laidOutB P=true)
 (hT:P.underlying T=some .bool) (xK:f.resultTypes=#[T]) (AQ:s.vars=[]) (hr:∀ t∈f.params.toList,P.readableRec t=true∧t<P.types.size)
 (hW:DataW.Whole enc P f.params.toList s.vars apart W args.toList ds gs before)
 (Nr:s.fn H ds={ results:=[.lit (.bool true)],args:=ds }) (hb:Below W.heap.size W W') :
 s.post enc P f apart fresh handsOn again W args (.bool true) W':=by
 have hW':=hW;obtain⟨p,q,hA,hV,rfl,hz,hn⟩:=hW;rw[AQ]at hV;obtain⟨rfl,rfl⟩:=trodVars_none hV;simp only[ZxP]at hW';have aK:∀ x∈p,x.block<W.heap.size:=fun x hx=>hW'.lt x hx;have hA':∀ sp:Nat→Bool,(∀ x∈p,sp x.block=true)→DataW.TrodAll enc P W' 0 sp true f.params.toList args.toList ds p :=
  fun sp hs=>XV hl hb _ _ _ _ hr hA aK hs
 have hR:∀ (b:Nat) (sp:Nat→Bool) (hd:Bool),DataW.TrodAll enc P W' b sp hd f.resultTypes.toList ((Value.bool true).resultList f.resultTypes.size) [.lit (.bool true)] []:=fun b sp hd=>by
  rw[xK];exact trodAll_mk1 (shut_bool hT _)
 have hold:∀ x∈p,(fun b=>decide (b<W.heap.size)) x.block=true:=fun x hx=>by simpa using aK x hx
 have V5:s.fn H (ds++[])={ results:=[.lit (.bool true)],args:=ds }:=by rw[ZxP];exact Nr
 refine⟨ds,[],p,[],p,[],hW',?_,?_,?_,World.keptBut_mono (fun x hx=>⟨hx,.inr (.inl hx)⟩) (hb.frame (· ∈ p)),fun _ => ?_⟩
 ·rw[V5];exact hR _ _ _
 ·rw[V5];exact hA' _ hold
 ·rw[AQ,V5];rfl
 ·refine⟨ok_one xK rfl (okWide_bool_mk hT _),_,[],[]++p,⟨[]++p,[],trodAll_append (hA' _ (fun _ _=>rfl)) (hR 0 (fun _=>true) true),by rw[AQ];rfl,by simp,?_,?_⟩,?_⟩
  ·intro b off hp
   have ja:MemPlace.cell b off∈p:=(by simpa using hp);rw[hb.frozen (aK _ ja)];exact hz b off (by simpa using ja)
  ·intro ha
   simpa using hn ha
  ·intro x hx _
   simpa using hx
end
end
namespace Ex
open Go
theorem mixed:Tryz.prog.follows .mixedOrders=true:=by kernel_rfl
theorem Zpx {gs:List (Nat×List Int)}{σ:Nat→Int}{ov:Ov}(qw:zL Tryz.prog gs σ ov){n:Nat}{f:FuncId}(h:tree Tryz.prog gs ov n f [] .leaf []=true)(w:World)(hg:jR gs w):Calls Tryz.prog f #[] w fun e w'=>e = .returned (.bool true)∧Own w [] w' :=
 (Zmn mixed qw h w hg).mono fun _ _ h=>⟨h.1,⟨h.2,by simp,by simp⟩⟩
end Ex
namespace aJ
open Go Go.ChangeShapes Go.WideShapes Go.ChangeAt Go.WideElems Go.RowKit
def L:List Int:=[0,0,0,0,0,0,0,0,0,0,0,0,0,0,0,0,0,0,0,0,0,22,0,0,0,0,0,0,0,0,31,0,0,0,0,0,43,38,0,0,41,42,0,0,0,0,47,48,49,40]
def gs:List (Nat×List Int):=[(0,L)]
theorem gNo : Tryz.prog.globalNamed "wainscot/fill.goesOn" = some 0 := by kernel_rfl
theorem tNo:(Tryz.prog.globals[0]?).map (·.type)=some 166:=by kernel_rfl
theorem ZoC (os : Os) (args : Array Value) : laidMetH Tryz.prog [("wainscot/fill.goesOn", Rows.laid_wainscot_fill_goesOn)] ((World.doorLaid Tryz.prog 400 os).forCall (fun _ _ => 0) ⟨#[], args, []⟩).memory :=
 laidMetH_of_parts3 (fuel:=8) (laidMet_of_run' 8 (by kernel_rfl) (by kernel_rfl)) (by kernel_rfl) (by kernel_rfl)
theorem Zq3 {W : World} (h : laidMetH Tryz.prog [("wainscot/fill.goesOn", Rows.laid_wainscot_fill_goesOn)] W) : Ex.jR gs W := by
 rw[MakeChecks.laidMetH_plain _ _ _ (by kernel_rfl)]at h;obtain⟨ps,⟨g0,t0,cs0,f0,p0,q0,J5,Ot,CG,hd0,_⟩,_,_⟩:=h;obtain rfl:=ZxZ (gNo.symm.trans J5);obtain rfl:=ZxZ (tNo.symm.trans Ot);obtain⟨xs,m1,rfl,qQ,hlen,hn,hel⟩:=DataW.trod_array Tryz.underlying166 hd0;have c1:Tryz.prog.cellsOf 3=1:=by kernel_rfl
 have c50:Tryz.prog.cellsOf 166=50:=by kernel_rfl
 have hL:L.length=50:=rfl;simp only[ZxA]at qQ;have OC:xs.map (·.1)=L.map fun n=>DataW.lit (.int .i64 n):=by
  have e:(Rows.laid_wainscot_fill_goesOn:DataW Unit) = .agg (L.map fun n=>.lit (.int .i64 n)):=rfl;have h1:=qQ.1;rw[e]at h1;exact(DataW.agg.inj h1).symm
 have hcs:cs0.toList=L.map (Value.int .i64):=by
  refine List.ext_getElem? fun i => ?_;rw[c50]at hlen;by_cases hi:i<50
  ·have h1:=hel i hi
   rw[c1,Nat.mul_one]at h1;obtain⟨x,hx⟩:∃ x,xs[i]?=some x:=⟨xs[i]'(by omega),Zxp _⟩;rw[hx]at h1;obtain⟨k,e1,e2,_⟩:=DataW.trod_int Tryz.underlying3 h1;have e3:(cs0.toList)[i]?=some (.int .i64 k):=by
    have:=congrArg (fun l:List Value=>l[0]?) e1;simpa [List.getElem?_take,List.getElem?_drop] using this
   have e4:(L.map fun n=>(DataW.lit (.int .i64 n):DataW Unit))[i]?=some (.lit (.int .i64 k)):=by
    rw[← OC,List.getElem?_map,hx,e2];rfl
   rw[List.getElem?_map]at e4;rw[e3,List.getElem?_map];cases hLi:L[i]? with
   |none=>rw[hLi]at e4;cases e4
   |some n =>
    rw[hLi]at e4;simp at e4;simp[e4]
  ·rw[List.getElem?_eq_none (by omega),List.getElem?_eq_none (by simp[hL];omega)]
 have Nv:∃ e q,W.heap[(0:Nat)]?=some (.cells cs0 e q):=by
  simp only[World.var?,gNo,Option.bind_some]at CG;split at CG<;>simp_all
 intro g l hf;unfold gs Ex.sP at hf;split at hf
 ·rename_i hg
  have hg:=Zxq hg;subst hg;simp only[ZlP]at hf;subst hf;obtain⟨e,q,hw⟩:=Nv;refine⟨e,q,?_⟩;rw[hw,← hcs]
 ·cases hf
end aJ
namespace pz
open Go Ex
theorem yes:tree Tryz.prog aJ.gs [] 30 8 [] .leaf []=true:=by kernel_rfl
end pz
namespace Ex
open Go
noncomputable section
structure Sub where
 v:List (Nat×SE):=[]
 l:List (Nat×SE):=[]
 n:List (Nat×Nat):=[]
 o:List (Nat×Nat):=[]
def U0 (i:Nat):List (Nat×SE)→Option SE
 |[]=>none
 |(j,e)::r=>match Nat.beq j i with
  |true=>some e
  |false=>U0 i r
def rq (i:Nat):List (Nat×Nat)→Nat
 |[]=>i
 |(j,e)::r=>match Nat.beq j i with
  |true=>e
  |false=>rq i r
def Sub.vAt (θ:Sub)(i:Nat):SE:=match U0 i θ.v with
 |some e=>e
 |none=>.var i
def Sub.Xd (θ:Sub)(i:Nat):SE:=match U0 i θ.l with
 |some e=>e
 |none=>.dA i
def Sub.qA (θ:Sub)(i:Nat):Nat:=rq i θ.n
def Sub.oAt (θ:Sub)(i:Nat):Nat:=rq i θ.o
def SE.sub (θ:Sub):SE→SE
 | .var i=>θ.vAt i
 | .lit n=>.lit n
 | .iH o a b=>.iH o (a.sub θ) (b.sub θ)
 | .fH o a b=>.fH o (a.sub θ) (b.sub θ)
 | .cv k a=>.cv k (a.sub θ)
 | .dA i=>θ.Xd i
 | .jY l e j v=>.jY (l.sub θ) (e.sub θ) j (v.sub θ)
 | .dW l r=>.dW (l.sub θ) (r.sub θ)
 | .jf=>.jf
 | .kG n=>.kG (n.sub θ)
 | .fV v r=>.fV (v.sub θ) (r.sub θ)
 | .at l e j=>.at (l.sub θ) (e.sub θ) j
 | .len l=>.len (l.sub θ)
def dB.sub (θ:Sub):dB→dB
 | .lt a b=>.lt (a.sub θ) (b.sub θ)
 | .eq a b=>.eq (a.sub θ) (b.sub θ)
mutual
def AV.sub (θ:Sub):AV→AV
 | .sym k e=>.sym k (e.sub θ)
 | .jD c p=>.jD (c.sub θ) p
 | .ptr n off=>.ptr (θ.qA n) off
 | .iE n e s j=>.iE (θ.qA n) (e.sub θ) s j
 | .lC n e s=>.lC (θ.qA n) (e.sub θ) s
 | .kH i e=>.kH i (e.sub θ)
 | .qB n e l s=>.qB (θ.qA n) (e.sub θ) l s
 | .sl n off len sz r=>.sl (θ.qA n) off len sz r
 | .map n=>.map (θ.qA n)
 | .fn f a b=>.fn f (AV.subs θ a) (AV.subs θ b)
 | .xP t v=>.xP t (AV.sub θ v)
 | .agg l=>.agg (AV.subs θ l)
 | .gV l=>.gV (AV.subs θ l)
 | .bool b=>.bool b
 | .int k n=>.int k n
 | .str s=>.str s
 | .iL=>.iL
 | .je g off=>.je g off
 | .bR=>.bR
 | .mo n=>.mo n
 | .tY=>.tY
 | .tT e=>.tT (e.sub θ)
 | .vz i=>.vz i
 | .bX=>.bX
 | .fo=>.fo
 | .fG=>.fG
def AV.subs (θ:Sub):List AV→List AV
 |[]=>[]
 |v::l=>AV.sub θ v::AV.subs θ l
end
inductive TB where
 |cells (l:List AV) (e:TypeId)
 |recs (l:SE) (ks:List CK) (e:TypeId)
 |mG (i n m:Nat)
def TB.sub (θ:Sub):TB→TB
 | .cells l e=>.cells (AV.subs θ l) e
 | .recs l ks e=>.recs (l.sub θ) ks e
 | .mG i n m=>.mG (θ.oAt i) (θ.qA n) (θ.qA m)
def TB.ao:TB→AO
 | .cells l e=>.cells (ZX l) l.length e
 | .recs l ks e=>.recs l ks e
 | .mG i n m=>.mG i n m
structure Bd where
 k:Nat
 kl:Nat
 ko:Nat
 kn:Nat
mutual
def SE.bd (B:Bd):SE→Bool
 | .var i=>Nat.blt i B.k
 | .lit _=>true
 | .iH _ a b=>SE.bd B a&&SE.bd B b
 | .fH _ a b=>SE.bd B a&&SE.bd B b
 | .cv _ a=>SE.bd B a
 | .at l e j=>SE.MP B l&&(SE.bd B e&&Nat.blt j 64)
 | .len l=>SE.MP B l
 | .dA _=>false
 | .jY _ _ _ _=>false
 | .dW _ _=>false
 | .jf=>false
 | .kG _=>false
 | .fV _ _=>false
def SE.MP (B:Bd):SE→Bool
 | .dA i=>Nat.blt i B.kl
 | .jY l e j v=>(SE.MP B l&&SE.bd B e)&&(Nat.blt j 64&&SE.bd B v)
 | .dW l r=>SE.MP B l&&SE.bdR B r
 | .jf=>true
 | .kG n=>SE.bd B n
 | .fV _ _=>false
 | .var _=>false
 | .lit _=>false
 | .iH _ _ _=>false
 | .fH _ _ _=>false
 | .cv _ _=>false
 | .at _ _ _=>false
 | .len _=>false
def SE.bdR (B:Bd):SE→Bool
 | .jf=>true
 | .kG _=>false
 | .fV v r=>SE.bd B v&&SE.bdR B r
 | .dA _=>false
 | .jY _ _ _ _=>false
 | .dW _ _=>false
 | .var _=>false
 | .lit _=>false
 | .iH _ _ _=>false
 | .fH _ _ _=>false
 | .cv _ _=>false
 | .at _ _ _=>false
 | .len _=>false
end
def dB.bd (B:Bd):dB→Bool
 | .lt a b=>SE.bd B a&&SE.bd B b
 | .eq a b=>SE.bd B a&&SE.bd B b
mutual
def AV.bd (B:Bd):AV→Bool
 | .sym _ e=>SE.bd B e
 | .jD c _=>dB.bd B c
 | .ptr n _=>Nat.blt n B.kn
 | .iE n e _ _=>Nat.blt n B.kn&&SE.bd B e
 | .lC n e _=>Nat.blt n B.kn&&SE.bd B e
 | .qB n e _ _=>Nat.blt n B.kn&&SE.bd B e
 | .kH _ e=>SE.bd B e
 | .sl n _ _ _ _=>Nat.blt n B.kn
 | .map n=>Nat.blt n B.kn
 | .fn _ a b=>AV.JV B a&&AV.JV B b
 | .xP _ v=>AV.bd B v
 | .agg l=>AV.JV B l
 | .gV l=>AV.JV B l
 | .bool _=>true
 | .int _ _=>true
 | .str _=>true
 | .iL=>true
 | .je _ _=>true
 | .bR=>true
 | .mo _=>true
 | .tY=>true
 | .tT e=>SE.bd B e
 | .vz _=>true
 | .bX=>true
 | .fo=>true
 | .fG=>true
def AV.JV (B:Bd):List AV→Bool
 |[]=>true
 |v::l=>AV.bd B v&&AV.JV B l
end
def Ztz (n:Nat):List CK→Bool
 |l=>Nat.ble l.length n
def TB.bd (B:Bd):TB→Bool
 | .cells l _=>AV.JV B l&&kz l
 | .recs l ks _=>SE.MP B l&&Ztz 64 ks
 | .mG i n m=>Nat.blt i B.ko&&(Nat.blt n B.kn&&Nat.blt m B.kn)
section
variable [Fc]
def DL (a b:SE):Bool:=match yB a b with
 |some true=>true
 |_=>false
mutual
def AV.fits:AV→AV→Bool
 | .agg a,.agg b=>AV.uz a b
 | .gV a,.gV b=>AV.uz a b
 | .int k n,.sym k' e=>decide (k=k')&&DL (.lit n) e
 | .sym k e,.sym k' e'=>decide (k=k')&&DL e e'
 | .sym k e,.int k' n=>decide (k=k')&&DL e (.lit n)
 | .bool b,.jD c p=>match zM c with
   |some q=>b==(q==p)
   |none=>false
 | .jD c p,.bool b=>match zM c with
   |some q=>b==(q==p)
   |none=>false
 | .jD c p,.jD c' p'=>(dB.beq c c'&&p==p')||(match zM c with
   |some q=>(match zM c' with
    |some q'=>(q==p)==(q'==p')
    |none=>false)
   |none=>false)
 | .lC n e s,.lC n' e' s'=>Nat.beq n n'&&(Nat.beq s s'&&DL e e')
 | .sl n off len s r,.lC n' e' s'=>(Nat.beq n n'&&Nat.beq s s')&&((Nat.beq off 0&&(match r with | .whole=>true|_=>false))&&DL (.lit (Int.ofNat len)) e')
 | .bR,.tY=>true
 | .mo _,.tY=>false
 | .tT e,.tT e'=>DL e e'
 |a,b=>AV.beq a b
def AV.uz:List AV→List AV→Bool
 |[],[]=>true
 |a::l,b::m=>AV.fits a b&&AV.uz l m
 |_,_=>false
end
def Qd (cs:T AV):Nat→List CK→SE→Bool
 |_,[],.jf=>true
 |off,k::ks,.fV v r=>match cs.get off with
  |some a=>match Mw k a with
   |some x=>DL x v&&Qd cs (Nat.add off 1) ks r
   |none=>false
  |none=>false
 |_,_,_=>false
def ug (cs:T AV)(ks:List CK):SE→Option Nat
 | .jf=>some 0
 | .dW l r=>match ug cs ks l with
   |some n=>match Qd cs (Nat.mul n ks.length) ks r with
    |true=>some (Nat.add n 1)
    |false=>none
   |none=>none
 |_=>none
def CK.qH:List CK→List CK→Bool
 |[],[]=>true
 |a::l,b::m=>CK.beq a b&&CK.qH l m
 |_,_=>false
def TB.fits (o:AO)(t:TB):Bool:=match o,t with
 | .cells cs k e,.cells l e'=>Nat.beq e e'&&(Nat.ble l.length k&&(match nZ cs 0 l.length with
   |some l'=>AV.uz l' l
   |none=>false))
 | .cells cs k e,.recs l ks e'=>Nat.beq e e'&&(match ug cs ks l with
   |some n=>Nat.ble (Nat.mul n ks.length) k
   |none=>false)
 | .recs l ks e,.recs l' ks' e'=>Nat.beq e e'&&(SE.beq l l'&&CK.qH ks ks')
 | .mG i n m,.mG i' n' m'=>Nat.beq i i'&&(Nat.beq n n'&&Nat.beq m m')
 |_,_=>false
end
structure Tm where
 env:List (Nat×AV)
 heap:List (Nat×TB)
 b:Bd
def ZtV:List (Nat×AV)→T AV
 |[]=>.e
 |(t,v)::l=>(ZtV l).put t (some v)
def heapT:List (Nat×TB)→T AO
 |[]=>.e
 |(n,o)::l=>(heapT l).put n (some o.ao)
def Tm.h (t:Tm):AH:=.mk (heapT t.heap) t.b.kn
def bdE (B:Bd):List (Nat×AV)→Bool
 |[]=>true
 |(_,v)::l=>AV.bd B v&&bdE B l
def bdH (B:Bd):List (Nat×TB)→Bool
 |[]=>true
 |(n,o)::l=>(Nat.blt n B.kn&&TB.bd B o)&&bdH B l
def Tm.ok (t:Tm):Bool:=bdE t.b t.env&&(bdH t.b t.heap&&Nat.ble t.b.kn 1000000)
section
variable [Fc]
def ZtW (θ:Sub)(env:T AV):List (Nat×AV)→Bool
 |[]=>true
 |(t,v)::l=>match env.get t with
  |some u=>AV.fits u (v.sub θ)&&ZtW θ env l
  |none=>false
def QB (θ:Sub)(n:Nat):List (Nat×TB)→Bool
 |[]=>true
 |(m,_)::l=>match Nat.beq (θ.qA m) n with
  |true=>false
  |false=>QB θ n l
def Dx (θ:Sub)(h:AH):List (Nat×TB)→Bool
 |[]=>true
 |(n,o)::l=>match h.get (θ.qA n) with
  |some a=>TB.fits a (o.sub θ)&&(QB θ (θ.qA n) l&&Dx θ h l)
  |none=>false
def Tm.fits (t:Tm)(θ:Sub)(env:T AV)(h:AH):Bool:=t.ok&&(ZtW θ env t.env&&Dx θ h t.heap)
end
structure Kc where
 f:Nat
 args:List AV
 conds:List (dB×Bool):=[]
 pre:List (Nat×TB):=[]
 post:List (Nat×TB):=[]
 news:List TB:=[]
 res:AV
def rel:Nat:=600000
def Dl (nx:Nat):Nat→List TB→List (Nat×Nat)
 |_,[]=>[]
 |i,_::l=>(Nat.add rel i,Nat.add nx i)::Dl nx (Nat.add i 1) l
def zF (θ:Sub):List (Nat×TB)→AH→AH
 |[],h=>h
 |(n,o)::l,h=>(zF θ l h).put n (some (o.sub θ).ao)
def zB:List (Nat×TB)→AH→AH
 |[],h=>h
 |(n,_)::l,h=>(zB l h).put n none
def zD (θ:Sub):List TB→AH→AH
 |[],h=>h
 |o::l,h=>zD θ l ((h.put h.next (some (o.sub θ).ao)).skip 1)
section
variable [Fc]
def Kc.at (k:Kc)(h:AH):Option (AV×AH) :=
 match Dx {} h k.pre with
 |false=>none
 |true=>match Nat.blt (Nat.add h.next k.news.length) 600000 with
  |false=>none
  |true =>
   let θ:Sub:={ n:=Dl h.next 0 k.news }
   some (k.res.sub θ,zD θ k.news (zF θ k.post (zB k.pre h)))
def E8 (f:FuncId)(args:List AV)(h:AH):List Kc→Option (AV×AH)
 |[]=>none
 |k::l=>match Nat.beq k.f f with
  |false=>E8 f args h l
  |true=>match AV.uz args k.args with
   |false=>E8 f args h l
   |true=>match Gq k.conds with
    |false=>E8 f args h l
    |true=>match k.at h with
     |some r=>some r
     |none=>E8 f args h l
abbrev Kg:=List AV→List Kc
def Mf (P:Program)(kx:AH→Kg):Nat→FuncId→List AV→AH→Option (AV×AH)
 |0,_,_,_=>none
 |n+1,f,args,h=>match E8 f args h (kx h args) with
  |some r=>some r
  |none=>match P.funcs[f]? with
  |none=>none
  | some fn => match fn.name == "runtime.NumGoroutine" with
    |true=>none
    |false=>match fn.body with
     |none=>none
     |some c=>match Nat.ble args.length fn.ntmps&&Nat.ble fn.ntmps 1000000 with
      |false=>none
      |true=>match exec P (Mf P kx n) fn.ntmps c (Dp 0 args .e) h with
       |some (.exit _,_,_)=>none
       |some (_,aG,h')=>match Cg P h' aG fn.results.toList with
        |some vs=>some (JG vs,h')
        |none=>none
       |none=>none
mutual
def AV.nm (p:Nat→Bool):AV→Bool
 | .ptr n _=>p n
 | .iE n _ _ _=>p n
 | .lC n _ _=>p n
 | .qB n _ _ _=>p n
 | .sl n _ _ _ _=>p n
 | .map n=>p n
 | .fn _ a b=>AV.Km p a&&AV.Km p b
 | .xP _ v=>AV.nm p v
 | .agg l=>AV.Km p l
 | .gV l=>AV.Km p l
 | .sym _ _=>true
 | .jD _ _=>true
 | .kH _ _=>true
 | .bool _=>true
 | .int _ _=>true
 | .str _=>true
 | .iL=>true
 | .je _ _=>true
 | .bR=>true
 | .mo _=>true
 | .tY=>true
 | .tT _=>true
 | .vz _=>true
 | .bX=>true
 | .fo=>true
 | .fG=>true
def AV.Km (p:Nat→Bool):List AV→Bool
 |[]=>true
 |v::l=>AV.nm p v&&AV.Km p l
end
def TB.nm (p:Nat→Bool):TB→Bool
 | .cells l _=>AV.Km p l
 | .recs _ _ _=>true
 | .mG _ n m=>p n&&p m
def nmE (p:Nat→Bool):List (Nat×AV)→Bool
 |[]=>true
 |(_,v)::l=>AV.nm p v&&nmE p l
def nmH (p:Nat→Bool):List (Nat×TB)→Bool
 |[]=>true
 |(_,o)::l=>TB.nm p o&&nmH p l
def ZtX (n:Nat):List (Nat×TB)→Bool
 |[]=>false
 |(m,_)::l=>match Nat.beq m n with
  |true=>true
  |false=>ZtX n l
def okN (l:List (Nat×TB))(nx n:Nat):Bool:=match Nat.ble nx n with
 |true=>true
 |false=>ZtX n l
def BL:Code→Option Nat
 | .region id _ _=>some id
 | .seq a b=>match BL a with
   |some n=>some n
   |none=>BL b
 | .cond _ a b=>match BL a with
   |some n=>some n
   |none=>BL b
 | .block _ c=>BL c
 | .loop c=>BL c
 | .scope c=>BL c
 |_=>none
structure Ln where
 key:Nat
 nx:Nat
 t:Tm
 th:Sub:={}
 x:AX
 post:Tm
def YU (nx:Nat)(h:AH):List (Nat×TB)→Bool
 |[]=>true
 |(n,_)::l=>(match Nat.blt n nx with
  |true=>(h.get n).isSome
  |false=>Nat.ble h.next n)&&YU nx h l
def Ln.at (l:Ln)(env:T AV)(h:AH):Option (AX×T AV×AH) :=
 match l.t.fits l.th env h with
 |false=>none
 |true=>match (l.post.ok&&Nat.ble l.nx h.next)&&((Nat.ble h.next l.post.b.kn&&YU l.nx h l.post.heap)&&(nmE (okN l.post.heap h.next) l.post.env&&nmH (okN l.post.heap h.next) l.post.heap)) with
  |false=>none
  |true=>some (l.x,ZtV l.post.env,l.post.h)
def MC (i:Nat)(env:T AV)(h:AH):List Ln→Option (AX×T AV×AH)
 |[]=>none
 |l::r=>match Nat.beq l.key i with
  |true=>match l.at env h with
   |some x=>some x
   |none=>MC i env h r
  |false=>MC i env h r
def ZsJ (i:Nat):List Ln→Bool
 |[]=>false
 |l::r=>match Nat.beq l.key i with
  |true=>true
  |false=>ZsJ i r
def ZtZ (c:Code)(env:T AV)(h:AH)(tO:List Ln)(body:T AV→AH→Option (AX×T AV×AH)):Option (AX×T AV×AH):=match BL c with
 |some i=>match MC i env h tO with
  |some r=>some r
  |none=>match ZsJ i tO with
   |true=>iter body 3 env h
   |false=>iter body 100000 env h
 |none=>iter body 100000 env h
variable (P:Program)(call:FuncId→List AV→AH→Option (AV×AH))(nt:Nat)(tO:List Ln)
def l7:Code→T AV→AH→Option (AX×T AV×AH)
 | .skip,env,h=>some (.normal,env,h)
 | .label _,env,h=>some (.normal,env,h)
 | .region _ ops false,env,h=>match GX P call nt ops ops.toList env h with
   |some (aG,h')=>some (.normal,aG,h')
   |none=>none
 | .region _ ops true,env,h=>match QG P call nt ops env h with
   |some (aG,h')=>some (.normal,aG,h')
   |none=>none
 | .seq x y,env,h=>match l7 x env h with
   |some (.normal,aG,h')=>l7 y aG h'
   |r=>r
 | .cond c x y,env,h=>match ev env c with
   |some (.bool true)=>l7 x env h
   |some (.bool false)=>l7 y env h
   |some (.jD q p)=>match zM q with
    |some r=>match r==p with
     |true=>l7 x env h
     |false=>l7 y env h
    |none=>none
   |_=>none
 | .block id c,env,h=>match l7 c env h with
   |some (.exit j,aG,h')=>match Nat.beq j id with
    |true=>some (.normal,aG,h')
    |false=>some (.exit j,aG,h')
   |r=>r
 | .loop c,env,h=>ZtZ c env h tO (l7 c)
 | .scope c,env,h=>l7 c env h
 | .exit id,env,h=>some (.exit id,env,h)
 | .ret,env,h=>some (.ret,env,h)
 |_,_,_=>none
end
def l6:Code→List Code
 | .seq a b=>l6 a++l6 b
 | .cond _ a b=>l6 a++l6 b
 | .block _ c=>l6 c
 | .loop c=>c::l6 c
 | .scope c=>l6 c
 |_=>[]
def Uy (P:Program)(f:FuncId):Code:=match P.funcs[f]? with
 |some fn=>match fn.body with
  |some c=>c
  |none=>.skip
 |none=>.skip
def U4 (P:Program)(f:FuncId):Nat:=match P.funcs[f]? with
 |some fn=>fn.ntmps
 |none=>0
inductive CT where
 |is (v:AV) (post:List (Nat×TB))
 |bad
 |node (c:dB) (t e:CT)
def BX (P:Program)(gs:List (Nat×List Int))(dY:List (Nat×CK))(pU:Kg)(tO:List Ln)(n:Nat)(f:FuncId)(args:List AV)(t:Tm):CT→List (dB×Bool)→Bool
 | .is v post,fs=>match P.funcs[f]? with
   |none=>false
   | some fn => match fn.name == "runtime.NumGoroutine" with
     |true=>false
     |false=>match fn.body with
      |none=>false
      |some c=>match Nat.ble args.length fn.ntmps&&Nat.ble fn.ntmps 1000000 with
       |false=>false
       |true=>match @l7 ⟨fs,gs,dY⟩ P (@Mf ⟨fs,gs,dY⟩ P (fun _=>pU) n) fn.ntmps tO c (Dp 0 args .e) t.h with
        |some (.exit _,_,_)=>false
        |some (_,aG,h')=>match @Cg ⟨fs,gs,dY⟩ P h' aG fn.results.toList with
         |some vs=>@AV.fits ⟨fs,gs,dY⟩ (JG vs) v&&@Dx ⟨fs,gs,dY⟩ {} h' post
         |none=>false
        |none=>false
 | .bad,_=>true
 | .node q a b,fs=>match BX P gs dY pU tO n f args t a ((q,true)::fs) with
   |true=>BX P gs dY pU tO n f args t b ((q,false)::fs)
   |false=>false
end
end Ex
end Go.Proofs.YtfcpdlbkmkhhcaaGreatDoor
