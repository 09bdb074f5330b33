/-
  Texts of this claim, joined. No condition.
-/
import Derived.Test.YtfcpdlbkmkhhcaaGreatDoorCn10
import Derived.Test.YtfcpdlbkmkhhcaaGreatDoorRows
import Derived.WalkKit
import Derived.WalkSpells
import Derived.WalkLawsBesides
import Derived.Deep.Draws
import Derived.Deep.QuietTactic
import Derived.BigQuiet
import Derived.Lib.Hide
import Derived.ProofKit
import Derived.Sort.AtCall
import Derived.Deep.RegionHeld3
import Derived.Deep.RegionWith
import Derived.Deep.DrawnRows
import Derived.OpenShut
import Derived.Test.YtfcpdlbkmkhhcaaGreatDoorTie
import Derived.LaidMore
import Derived.Stop.Joined
import Derived.Test.YtfcpdlbkmkhhcaaGreatDoorCn2
namespace Go.Proofs.YtfcpdlbkmkhhcaaGreatDoor.Ex
open Go
section
variable {P:Program}{gs:List (Nat×List Int)}{σ:Nat→Int}
theorem ZlX {w:World}:ZdY [] w:=fun g l h=>by cases h
theorem ZlO:ZmH P gs σ []:=fun f xs v hf=>by cases hf
def Zoo (σ:Nat→Int):DT→Prop
 | .leaf | .is _=>False
 | .bad=>True
 | .node c t e=>(c.ev σ=true∧Zoo σ t)∨(c.ev σ=false∧Zoo σ e)
def Ends (σ:Nat→Int):DT→Value→Prop
 | .leaf,x=>x = .bool true
 | .is v,x=>x=valOf σ v
 | .bad,_=>False
 | .node c t e,x=>(c.ev σ=true∧Ends σ t x)∨(c.ev σ=false∧Ends σ e x)
theorem Zdh (hm:P.follows .mixedOrders=true){ov:Ov}(hov:ZmH P gs σ ov){n:Nat}{f:FuncId}{args:List AV}(ha:AV.shuts args=true):∀ (d:DT) (fs:List (Cnd×Bool)),(∀ f∈fs,f.1.ev σ=f.2)→tree P gs ov n f args d fs=true→¬ Zoo σ d →
 ∀ w,ZdY gs w→Calls P f (Zar σ args).toArray w fun e w'=>(∃ x,e = .returned x∧Ends σ d x)∧RowKit.Below w.heap.size w w'
 | .leaf,fs,hfs,h,_,w,hg=>(@ZhQ { facts:=fs,globs:=gs,σ:=σ,ok:=hfs } P hm ov hov n f args (.bool true) h ha rfl w hg (@Zn1 { facts:=fs,globs:=gs,σ:=σ,ok:=hfs } w rfl)).mono fun _ _ h=>⟨⟨_,h.1,rfl⟩,h.2⟩
 | .is v,fs,hfs,h,_,w,hg=>by
   unfold tree at h
   split at h <;> first | (cases h; done) | skip
   rename_i hv
   exact (@ZhQ { facts:=fs,globs:=gs,σ:=σ,ok:=hfs } P hm ov hov n f args v h ha hv w hg (@Zn1 { facts:=fs,globs:=gs,σ:=σ,ok:=hfs } w rfl)).mono fun _ _ h=>⟨⟨_,h.1,rfl⟩,h.2⟩
 | .bad,_,_,_,hb,_,_=>absurd trivial hb
 | .node c t e,fs,hfs,h,hb,w,hg=>by
   unfold tree at h
   split at h <;> first | (cases h; done) | skip
   rename_i ht
   cases hc:c.ev σ with
   | true =>
     refine (Zdh hm hov ha t ((c,true)::fs) (fun f hf=>by rcases List.mem_cons.1 hf with rfl | hf; exact hc; exact hfs f hf) ht (fun hx=>hb (.inl ⟨hc,hx⟩)) w hg).mono ?_
     rintro _ _ ⟨⟨x,rfl,hx⟩,h2⟩
     exact ⟨⟨x,rfl,.inl ⟨hc,hx⟩⟩,h2⟩
   | false =>
     refine (Zdh hm hov ha e ((c,false)::fs) (fun f hf=>by rcases List.mem_cons.1 hf with rfl | hf; exact hc; exact hfs f hf) h (fun hx=>hb (.inr ⟨hc,hx⟩)) w hg).mono ?_
     rintro _ _ ⟨⟨x,rfl,hx⟩,h2⟩
     exact ⟨⟨x,rfl,.inr ⟨hc,hx⟩⟩,h2⟩
def DT.plain:DT→Bool
 | .leaf | .bad=>true
 | .is _=>false
 | .node _ t e=>t.plain&&e.plain
theorem Zfv:∀ {d:DT} {x:Value},d.plain=true→Ends σ d x→x = .bool true
 | .leaf,_,_,h=>h
 | .bad,_,_,h=>h.elim
 | .is _,_,hp,_=>by cases hp
 | .node c t e,x,hp,h=>by
   unfold DT.plain at hp
   rw [Bool.and_eq_true] at hp
   rcases h with ⟨_,h⟩ | ⟨_,h⟩
   ·exact Zfv hp.1 h
   ·exact Zfv hp.2 h
theorem ZmC (hm:P.follows .mixedOrders=true){ov:Ov}(hov:ZmH P gs σ ov){n:Nat}{f:FuncId}{args:List AV}(ha:AV.shuts args=true)(d:DT)(hp:d.plain=true)(h:tree P gs ov n f args d []=true)(hb:¬ Zoo σ d)(w:World)(hg:ZdY gs w) :
 Calls P f (Zar σ args).toArray w fun e w'=>e = .returned (.bool true)∧RowKit.Below w.heap.size w w':=by
 refine (Zdh hm hov ha d [] (by simp) h hb w hg).mono ?_
 rintro _ _ ⟨⟨x,rfl,hx⟩,h2⟩
 rw [Zfv hp hx]
 exact ⟨rfl,h2⟩
theorem Zmn (hm:P.follows .mixedOrders=true){ov:Ov}(hov:ZmH P gs σ ov){n:Nat}{f:FuncId}(h:tree P gs ov n f [] .leaf []=true)(w:World)(hg:ZdY gs w):Calls P f #[] w fun e w'=>e = .returned (.bool true)∧RowKit.Below w.heap.size w w' :=
 ZmC hm hov rfl .leaf rfl h (fun h=>h) w hg
theorem Zq6 {ov:Ov}{f:FuncId}{xs:List AV}{v:AV}(hov:ZmH P gs σ ov)(ha:AV.shuts xs=true)(hv:v.shut=true)(hf:ZiQ P f)(hc:∀ w,ZdY gs w→Calls P f (Zar σ xs).toArray w fun e w'=>e = .returned (valOf σ v)∧RowKit.Below w.heap.size w w'):ZmH P gs σ ((f,xs,v)::ov):=by
 intro g xs' v' hm
 rcases List.mem_cons.1 hm with he | he
 ·simp only [Prod.mk.injEq] at he
  obtain ⟨rfl,rfl,rfl⟩:=he
  exact ⟨ha,hv,hf,hc⟩
 ·exact hov g xs' v' he
end
end Go.Proofs.YtfcpdlbkmkhhcaaGreatDoor.Ex

namespace Go.Proofs.YtfcpdlbkmkhhcaaGreatDoor
open Go.RowKit
structure Own (W:World)(m:List (Nat×Obj))(w:World):Prop where
 below:Below W.heap.size W w
 at_:∀ p∈m,W.heap.size≤p.1∧w.heap[p.1]?=some p.2
 nd:(m.map (·.1)).Nodup
theorem Zcg {w:World}{g:Nat}{o:Obj}(h:w.heap[g]?=some o):g<w.heap.size:=by
 rcases Nat.lt_or_ge g w.heap.size with hlt | hge
 ·exact hlt
 ·rw [Array.getElem?_eq_none hge] at h; cases h
namespace Own
variable {W w w':World}{m m':List (Nat×Obj)}{b i:Nat}{cs:Array Value}{t:TypeId}{o:Obj}
theorem init (W:World):Own W [] W:=⟨Below.refl _ _,by simp,by simp⟩
theorem self (w:World):Own w [] w:=init w
theorem get (h:Own W m w)(hm:(b,o)∈m):w.heap[b]?=some o:=(h.at_ _ hm).2
theorem ge (h:Own W m w)(hm:(b,o)∈m):W.heap.size≤b:=(h.at_ _ hm).1
theorem cell (h:Own W m w)(hm:(b,.cells cs t)∈m)(i:Nat):w.cell? ⟨b,i,none⟩=cs[i]?:=by
 simp [World.cell?,h.get hm]
theorem frozen (h:Own W m w)(hm:(b,.cells cs t)∈m)(i:Nat):w.frozen? ⟨b,i,none⟩=false:=by
 simp [World.frozen?,h.get hm]
theorem old (h:Own W m w){a:Addr}(ha:a.block<W.heap.size):w.cell? a=W.cell? a:=h.below.cell ha
theorem size_le (h:Own W m w):W.heap.size≤w.heap.size:=h.below.size
theorem drew (h:Own W m w):Own W m w.drew:=⟨h.below.drew,h.at_,h.nd⟩
theorem drewN (h:Own W m w)(n:Nat):Own W m (w.drewN n):=⟨⟨h.below.os,h.below.tape,h.below.output,h.below.size,h.below.block⟩,h.at_,h.nd⟩
theorem perm (h:Own W m w)(hp:m.Perm m'):Own W m' w :=
 ⟨h.below,fun p hm=>h.at_ p (hp.mem_iff.2 hm),(hp.map (·.1)).nodup_iff.1 h.nd⟩
theorem sub (h:Own W m w)(hs:m'.Sublist m):Own W m' w :=
 ⟨h.below,fun p hm=>h.at_ p (hs.subset hm),h.nd.sublist (hs.map _)⟩
theorem skip {x:Nat×Obj}(h:Own W (x::m) w):Own W m w:=h.sub (List.sublist_cons_self _ _)
theorem Zfu (h:Own W (m'++m) w):Own W m w:=h.sub (List.sublist_append_right _ _)
theorem Zdg (h:Own W m w)(hb:Below w.heap.size w w'):Own W m w' :=
 ⟨h.below.trans (hb.mono h.size_le),fun p hm=>⟨(h.at_ p hm).1,(hb.block p.1 (Zcg (h.at_ p hm).2)).trans (h.at_ p hm).2⟩,h.nd⟩
theorem alloc (h:Own W m w)(o:Obj):Own W m (w.alloc o):=h.Zdg ((Below.refl _ _).alloc (Nat.le_refl _) _)
theorem new (h:Own W m w)(o:Obj):Own W ((w.heap.size,o)::m) (w.alloc o) :=
 ⟨(h.alloc o).below,fun p hm=>by
   rcases List.mem_cons.1 hm with rfl | hm
   ·exact ⟨h.size_le,heap_alloc_new w o⟩
   ·exact (h.alloc o).at_ p hm,by
   simp only [List.map_cons,List.nodup_cons]
   refine ⟨fun hin => ?_,h.nd⟩
   obtain ⟨p,hp,he⟩:=List.mem_map.1 hin
   have:=Zcg (h.at_ p hp).2
   omega⟩
theorem set (h:Own W ((b,.cells cs t)::m) w)(i:Nat)(v:Value):Own W ((b,.cells (cs.setIfInBounds i v) t)::m) (w.setCell ⟨b,i,none⟩ v):=by
 have hg:=h.get (List.mem_cons_self)
 have hge:=h.ge (List.mem_cons_self)
 refine ⟨h.below.setCell hge v,fun p hm => ?_,h.nd⟩
 rcases List.mem_cons.1 hm with rfl | hm
 ·exact ⟨hge,by simp [World.setCell,Array.getElem?_modify,hg]⟩
 ·have hne:p.1≠b:=fun he=>by
   have:=h.nd
   simp only [List.map_cons,List.nodup_cons] at this
   exact this.1 (he ▸ List.mem_map_of_mem (f:=(·.1)) hm)
  exact ⟨(h.at_ p (List.mem_cons_of_mem _ hm)).1,(Below.heap_setCell w _ v p.1 hne).trans (h.at_ p (List.mem_cons_of_mem _ hm)).2⟩
theorem ZjU {m1 m2:List (Nat×Obj)}(h:Own W (m1++(b,.cells cs t)::m2) w)(i:Nat)(v:Value) :
 Own W (m1++(b,.cells (cs.setIfInBounds i v) t)::m2) (w.setCell ⟨b,i,none⟩ v) :=
 ((h.perm List.perm_middle).set i v).perm List.perm_middle.symm
theorem Zq4 (h:Own W m w)(h':Own w [] w'):Own W m w':=h.Zdg h'.below
theorem join (h:Own W m w)(h':Own w m' w'):Own W (m'++m) w':=by
 have hk:=h.Zdg h'.below
 refine ⟨hk.below,fun p hp => ?_,?_⟩
 ·rcases List.mem_append.1 hp with hp | hp
  ·exact ⟨Nat.le_trans h.size_le (h'.at_ p hp).1,(h'.at_ p hp).2⟩
  ·exact hk.at_ p hp
 ·rw [List.map_append,List.nodup_append]
  refine ⟨h'.nd,h.nd,fun a ha b hb => ?_⟩
  obtain ⟨p,hp,rfl⟩:=List.mem_map.1 ha
  obtain ⟨q,hq,rfl⟩:=List.mem_map.1 hb
  have h1:=(h'.at_ p hp).1
  have h2:=Zcg (h.at_ q hq).2
  omega
theorem ne {b':Nat}{o':Obj}(h:Own W ((b,o)::m) w)(hm:(b',o')∈m):b'≠b:=fun he=>by
 have:=h.nd
 simp only [List.map_cons,List.nodup_cons] at this
 exact this.1 (he ▸ List.mem_map_of_mem (f:=(·.1)) hm)
theorem drop1 {x:Nat×Obj}{m1:List (Nat×Obj)}(h:Own W (m1++x::m) w):Own W (m1++m) w :=
 h.sub ((List.Sublist.refl _).append (List.sublist_cons_self _ _))
end Own
theorem Ziv {P:Program}(t e:TypeId)(i:TypeInfo)(z:Value)(ht:P.underlying t=some (.slice e))(hi:P.info? e=some i)(hz:i.zero=some z)
 (kl kc:IntKind) (n c:Nat) (hnc:n≤c) (hbytes:i.bytes * c≤281474976710656) (h63:c≤9223372036854775807) (w:World) :
 (Instr.makeSlice t (.int kl (n:Int)) (.int kc (c:Int))).run P w = .ok (.slice (some ⟨w.heap.size,0,none⟩) n c) (w.alloc (.cells (madeCells z.cells (c * i.size)) e)):=by
 have hb:(i.bytes:Int) * (c:Int)≤281474976710656:=by
  have h:((i.bytes * c:Nat):Int)≤281474976710656:=by omega
  rwa [Int.natCast_mul] at h
 have hr:=run_make (P:=P) w t e i z ht hi hz kl kc n c (by omega) (by omega) hb (by omega)
 simp only [Int.toNat_natCast] at hr
 exact hr
theorem ZgQ (z:Array Value)(x:Value)(n:Nat)(h0:0<z.size)(h:∀ i,i<z.size→z[i]! = x):madeCells z n=Array.replicate n x:=by
 apply Array.ext
 ·simp [madeCells]
 ·intro i h1 h2
  simp [madeCells,h (i % z.size) (Nat.mod_lt _ h0)]
theorem Zf8 {P:Program}{t n b:Nat}{z:Value}(h:(P.info? t).map (fun i=>(i.zero,i.size,i.bytes))=some (some z,n,b)):∃ i,P.info? t=some i∧i.zero=some z∧i.size=n∧i.bytes=b:=by
 cases hi:P.info? t with
 | none=>rw [hi] at h; cases h
 | some i=>rw [hi] at h; simp at h; exact ⟨i,rfl,h⟩
end Go.Proofs.YtfcpdlbkmkhhcaaGreatDoor

namespace Go.Proofs.YtfcpdlbkmkhhcaaGreatDoor
open Go.ChangeShapes Go.WideShapes Go.ChangeAt Go.RowKit
theorem Tryz.own:ownKnob Tryz.prog.godebug=none:=by kernel_rfl
theorem Tryz.laidOut:laidOutB Tryz.prog=true:=by kernel_rfl
section
variable {H:Type}{enc:TypeId×Value→H}{P:Program}
theorem Zfm (hl:laidOutB P=true){W W':World}(hb:Below W.heap.size W W'){sp:Nat→Bool} :
 ∀ (ts:List TypeId) (vs:List Value) (ds:List (DataW H)) (ps:List MemPlace),(∀ t∈ts,P.readableRec t=true∧t<P.types.size) →
 DataW.TrodAll enc P W 0 (fun _=>true) true ts vs ds ps→(∀ x∈ps,x.block<W.heap.size)→(∀ x∈ps,sp x.block=true) →
 DataW.TrodAll enc P W' 0 sp true ts vs ds ps
 | [],vs,ds,ps,_,h,_,_=>by
   obtain ⟨rfl,rfl,rfl⟩:=trodAll_nil h
   exact trodAll_mk0
 | t::ts,vs,ds,ps,hr,h,hlt,hs=>by
   obtain ⟨v,vs',d,ds',p,q,rfl,rfl,rfl,h1,h2⟩:=trodAll_cons h
   obtain ⟨hr1,hr2⟩:=hr t List.mem_cons_self
   exact trodAll_cons_mk (WideElems.Trod_stays hl hr1 hr2 h1 (fun x hx=>hb.same (hlt x (List.mem_append_left _ hx))) (fun x hx=>hs x (List.mem_append_left _ hx)))
    (Zfm hl hb ts vs' ds' q (fun t' ht'=>hr t' (List.mem_cons_of_mem _ ht')) h2 (fun x hx=>hlt x (List.mem_append_right _ hx)) (fun x hx=>hs x (List.mem_append_right _ hx)))
theorem ZoZ {f:Func}{s:ChangeSpec}{T:TypeId}{apart fresh handsOn again:Bool}{W W':World}{args:Array Value}{ds gs:List (DataW H)}{before:List MemPlace}(hl:laidOutB P=true)
 (hT:P.underlying T=some .bool) (hres:f.resultTypes=#[T]) (hvars:s.vars=[]) (hr:∀ t∈f.params.toList,P.readableRec t=true∧t<P.types.size)
 (hW:DataW.Whole enc P f.params.toList s.vars apart W args.toList ds gs before)
 (hfn:s.fn H ds={ results:=[.lit (.bool true)],args:=ds }) (hb:Below W.heap.size W W') :
 s.post enc P f apart fresh handsOn again W args (.bool true) W':=by
 have hW':=hW
 obtain ⟨p,q,hA,hV,rfl,hz,hn⟩:=hW
 rw [hvars] at hV
 obtain ⟨rfl,rfl⟩:=trodVars_none hV
 simp only [List.append_nil] at hW'
 have hlt:∀ x∈p,x.block<W.heap.size:=fun x hx=>hW'.lt x hx
 have hA':∀ sp:Nat→Bool,(∀ x∈p,sp x.block=true)→DataW.TrodAll enc P W' 0 sp true f.params.toList args.toList ds p :=
  fun sp hs=>Zfm hl hb _ _ _ _ hr hA hlt hs
 have hR:∀ (b:Nat) (sp:Nat→Bool) (hd:Bool),DataW.TrodAll enc P W' b sp hd f.resultTypes.toList ((Value.bool true).resultList f.resultTypes.size) [.lit (.bool true)] []:=fun b sp hd=>by
  rw [hres]; exact trodAll_mk1 (shut_bool hT _)
 have hold:∀ x∈p,(fun b=>decide (b<W.heap.size)) x.block=true:=fun x hx=>by simpa using hlt x hx
 have hds:s.fn H (ds++[])={ results:=[.lit (.bool true)],args:=ds }:=by rw [List.append_nil]; exact hfn
 refine ⟨ds,[],p,[],p,[],hW',?_,?_,?_,World.keptBut_mono (fun x hx=>⟨hx,.inr (.inl hx)⟩) (hb.frame (· ∈ p)),fun _ => ?_⟩
 ·rw [hds]; exact hR _ _ _
 ·rw [hds]; exact hA' _ hold
 ·rw [hvars,hds]; rfl
 ·refine ⟨ok_one hres rfl (okWide_bool_mk hT _),_,[],[]++p,⟨[]++p,[],trodAll_append (hA' _ (fun _ _=>rfl)) (hR 0 (fun _=>true) true),by rw [hvars]; rfl,by simp,?_,?_⟩,?_⟩
  ·intro b off hp
   have hin:MemPlace.cell b off∈p:=by simpa using hp
   rw [hb.frozen (hlt _ hin)]
   exact hz b off (by simpa using hin)
  ·intro ha
   simpa using hn ha
  ·intro x hx _
   simpa using hx
end
end Go.Proofs.YtfcpdlbkmkhhcaaGreatDoor

namespace Go.Proofs.YtfcpdlbkmkhhcaaGreatDoor.Ex
open Go
theorem mixed:Tryz.prog.follows .mixedOrders=true:=by kernel_rfl
theorem Zpx {gs:List (Nat×List Int)}{σ:Nat→Int}{ov:Ov}(hov:ZmH Tryz.prog gs σ ov){n:Nat}{f:FuncId}(h:tree Tryz.prog gs ov n f [] .leaf []=true)(w:World)(hg:ZdY gs w):Calls Tryz.prog f #[] w fun e w'=>e = .returned (.bool true)∧Own w [] w' :=
 (Zmn mixed hov h w hg).mono fun _ _ h=>⟨h.1,⟨h.2,by simp,by simp⟩⟩
end Go.Proofs.YtfcpdlbkmkhhcaaGreatDoor.Ex

namespace Go.Proofs.YtfcpdlbkmkhhcaaGreatDoor.FillTab
open Go Go.ChangeShapes Go.WideShapes Go.ChangeAt Go.WideElems Go.RowKit
def L:List Int:=[0,0,0,0,0,0,0,0,0,0,0,0,0,0,0,0,0,0,0,0,0,22,0,0,0,0,0,0,0,0,31,0,0,0,0,0,43,38,0,0,41,42,0,0,0,0,47,48,49,40]
def gs:List (Nat×List Int):=[(0,L)]
theorem gNo : Tryz.prog.globalNamed "wainscot/fill.goesOn" = some 0 := by kernel_rfl
theorem tNo:(Tryz.prog.globals[0]?).map (·.type)=some 166:=by kernel_rfl
theorem ZoC (os : Os) (args : Array Value) : laidMetH Tryz.prog [("wainscot/fill.goesOn", Rows.laid_wainscot_fill_goesOn)] ((World.doorLaid Tryz.prog 400 os).forCall (fun _ _ => 0) ⟨#[], args, []⟩).memory :=
 laidMetH_of_parts3 (fuel:=8) (laidMet_of_run' 8 (by kernel_rfl) (by kernel_rfl)) (by kernel_rfl) (by kernel_rfl)
theorem Zq3 {W : World} (h : laidMetH Tryz.prog [("wainscot/fill.goesOn", Rows.laid_wainscot_fill_goesOn)] W) : Ex.ZdY gs W := by
 rw [MakeChecks.laidMetH_plain _ _ _ (by kernel_rfl)] at h
 obtain ⟨ps,⟨g0,t0,cs0,f0,p0,q0,hg0,ht0,hv0,hd0,_⟩,_,_⟩:=h
 obtain rfl:=Option.some.inj (gNo.symm.trans hg0)
 obtain rfl:=Option.some.inj (tNo.symm.trans ht0)
 obtain ⟨xs,m1,rfl,hx1,hlen,hn,hel⟩:=DataW.trod_array Tryz.underlying166 hd0
 have c1:Tryz.prog.cellsOf 3=1:=by kernel_rfl
 have c50:Tryz.prog.cellsOf 166=50:=by kernel_rfl
 have hL:L.length=50:=rfl
 simp only [Prod.mk.injEq] at hx1
 have hxs:xs.map (·.1)=L.map fun n=>DataW.lit (.int .i64 n):=by
  have e:(Rows.laid_wainscot_fill_goesOn:DataW Unit) = .agg (L.map fun n=>.lit (.int .i64 n)):=rfl
  have h1:=hx1.1
  rw [e] at h1
  exact (DataW.agg.inj h1).symm
 have hcs:cs0.toList=L.map (Value.int .i64):=by
  refine List.ext_getElem? fun i => ?_
  rw [c50] at hlen
  by_cases hi:i<50
  ·have h1:=hel i hi
   rw [c1,Nat.mul_one] at h1
   obtain ⟨x,hx⟩:∃ x,xs[i]?=some x:=⟨xs[i]'(by omega),List.getElem?_eq_getElem _⟩
   rw [hx] at h1
   obtain ⟨k,e1,e2,_⟩:=DataW.trod_int Tryz.underlying3 h1
   have e3:(cs0.toList)[i]?=some (.int .i64 k):=by
    have:=congrArg (fun l:List Value=>l[0]?) e1
    simpa [List.getElem?_take,List.getElem?_drop] using this
   have e4:(L.map fun n=>(DataW.lit (.int .i64 n):DataW Unit))[i]?=some (.lit (.int .i64 k)):=by
    rw [← hxs,List.getElem?_map,hx,e2]
    rfl
   rw [List.getElem?_map] at e4
   rw [e3,List.getElem?_map]
   cases hLi:L[i]? with
   | none=>rw [hLi] at e4; cases e4
   | some n =>
     rw [hLi] at e4
     simp at e4
     simp [e4]
  ·rw [List.getElem?_eq_none (by omega),List.getElem?_eq_none (by simp [hL]; omega)]
 have hheap:∃ e q,W.heap[(0:Nat)]?=some (.cells cs0 e q):=by
  simp only [World.var?,gNo,Option.bind_some] at hv0
  split at hv0 <;> simp_all
 intro g l hf
 unfold gs Ex.Zec at hf
 split at hf
 ·rename_i hg
  have hg:=Nat.eq_of_beq_eq_true hg
  subst hg
  simp only [Option.some.injEq] at hf
  subst hf
  obtain ⟨e,q,hw⟩:=hheap
  refine ⟨e,q,?_⟩
  rw [hw,← hcs]
 ·cases hf
end Go.Proofs.YtfcpdlbkmkhhcaaGreatDoor.FillTab

namespace Go.Proofs.YtfcpdlbkmkhhcaaGreatDoor.crewWorks
open Go Ex
theorem yes:tree Tryz.prog FillTab.gs [] 30 8 [] .leaf []=true:=by kernel_rfl
end Go.Proofs.YtfcpdlbkmkhhcaaGreatDoor.crewWorks

namespace Go.Proofs.YtfcpdlbkmkhhcaaGreatDoor.Ex
open Go
noncomputable section
structure Sub where
 v:List (Nat×SE):=[]
 l:List (Nat×SE):=[]
 n:List (Nat×Nat):=[]
 o:List (Nat×Nat):=[]
def ZqX (i:Nat):List (Nat×SE)→Option SE
 | []=>none
 | (j,e)::r=>match Nat.beq j i with
   | true=>some e
   | false=>ZqX i r
def ZdP (i:Nat):List (Nat×Nat)→Nat
 | []=>i
 | (j,e)::r=>match Nat.beq j i with
   | true=>e
   | false=>ZdP i r
def Sub.vAt (θ:Sub)(i:Nat):SE:=match ZqX i θ.v with
 | some e=>e
 | none=>.var i
def Sub.lAt (θ:Sub)(i:Nat):SE:=match ZqX i θ.l with
 | some e=>e
 | none=>.lvar i
def Sub.nAt (θ:Sub)(i:Nat):Nat:=ZdP i θ.n
def Sub.oAt (θ:Sub)(i:Nat):Nat:=ZdP i θ.o
def SE.sub (θ:Sub):SE→SE
 | .var i=>θ.vAt i
 | .lit n=>.lit n
 | .bin o a b=>.bin o (a.sub θ) (b.sub θ)
 | .ubin o a b=>.ubin o (a.sub θ) (b.sub θ)
 | .cv k a=>.cv k (a.sub θ)
 | .lvar i=>θ.lAt i
 | .lset l e j v=>.lset (l.sub θ) (e.sub θ) j (v.sub θ)
 | .lsnoc l r=>.lsnoc (l.sub θ) (r.sub θ)
 | .rnil=>.rnil
 | .rep n=>.rep (n.sub θ)
 | .rcons v r=>.rcons (v.sub θ) (r.sub θ)
 | .at l e j=>.at (l.sub θ) (e.sub θ) j
 | .len l=>.len (l.sub θ)
def Cnd.sub (θ:Sub):Cnd→Cnd
 | .lt a b=>.lt (a.sub θ) (b.sub θ)
 | .eq a b=>.eq (a.sub θ) (b.sub θ)
mutual
def AV.sub (θ:Sub):AV→AV
 | .sym k e=>.sym k (e.sub θ)
 | .ZdH c p=>.ZdH (c.sub θ) p
 | .ptr n off=>.ptr (θ.nAt n) off
 | .eptr n e s j=>.eptr (θ.nAt n) (e.sub θ) s j
 | .dsl n e s=>.dsl (θ.nAt n) (e.sub θ) s
 | .rptr i e=>.rptr i (e.sub θ)
 | .ssl n e l s=>.ssl (θ.nAt n) (e.sub θ) l s
 | .sl n off len sz r=>.sl (θ.nAt n) off len sz r
 | .map n=>.map (θ.nAt n)
 | .fn f a b=>.fn f (AV.subs θ a) (AV.subs θ b)
 | .ifc t v=>.ifc t (AV.sub θ v)
 | .agg l=>.agg (AV.subs θ l)
 | .tup l=>.tup (AV.subs θ l)
 | .bool b=>.bool b
 | .int k n=>.int k n
 | .str s=>.str s
 | .nilp=>.nilp
 | .gptr g off=>.gptr g off
 | .nilsl=>.nilsl
 | .esl n=>.esl n
 | .zsl=>.zsl
 | .osl e=>.osl (e.sub θ)
 | .rsl i=>.rsl i
 | .nilmap=>.nilmap
 | .nilfn=>.nilfn
 | .nilif=>.nilif
def AV.subs (θ:Sub):List AV→List AV
 | []=>[]
 | v::l=>AV.sub θ v::AV.subs θ l
end
inductive TB where
 | cells (l:List AV) (e:TypeId)
 | recs (l:SE) (ks:List CK) (e:TypeId)
 | opb (i n m:Nat)
def TB.sub (θ:Sub):TB→TB
 | .cells l e=>.cells (AV.subs θ l) e
 | .recs l ks e=>.recs (l.sub θ) ks e
 | .opb i n m=>.opb (θ.oAt i) (θ.nAt n) (θ.nAt m)
def TB.ao:TB→AO
 | .cells l e=>.cells (ZnH l) l.length e
 | .recs l ks e=>.recs l ks e
 | .opb i n m=>.opb i n m
structure Bd where
 k:Nat
 kl:Nat
 ko:Nat
 kn:Nat
mutual
def SE.bd (B:Bd):SE→Bool
 | .var i=>Nat.blt i B.k
 | .lit _=>true
 | .bin _ a b=>SE.bd B a&&SE.bd B b
 | .ubin _ a b=>SE.bd B a&&SE.bd B b
 | .cv _ a=>SE.bd B a
 | .at l e j=>SE.bdL B l&&(SE.bd B e&&Nat.blt j 64)
 | .len l=>SE.bdL B l
 | .lvar _=>false
 | .lset _ _ _ _=>false
 | .lsnoc _ _=>false
 | .rnil=>false
 | .rep _=>false
 | .rcons _ _=>false
def SE.bdL (B:Bd):SE→Bool
 | .lvar i=>Nat.blt i B.kl
 | .lset l e j v=>(SE.bdL B l&&SE.bd B e)&&(Nat.blt j 64&&SE.bd B v)
 | .lsnoc l r=>SE.bdL B l&&SE.bdR B r
 | .rnil=>true
 | .rep n=>SE.bd B n
 | .rcons _ _=>false
 | .var _=>false
 | .lit _=>false
 | .bin _ _ _=>false
 | .ubin _ _ _=>false
 | .cv _ _=>false
 | .at _ _ _=>false
 | .len _=>false
def SE.bdR (B:Bd):SE→Bool
 | .rnil=>true
 | .rep _=>false
 | .rcons v r=>SE.bd B v&&SE.bdR B r
 | .lvar _=>false
 | .lset _ _ _ _=>false
 | .lsnoc _ _=>false
 | .var _=>false
 | .lit _=>false
 | .bin _ _ _=>false
 | .ubin _ _ _=>false
 | .cv _ _=>false
 | .at _ _ _=>false
 | .len _=>false
end
def Cnd.bd (B:Bd):Cnd→Bool
 | .lt a b=>SE.bd B a&&SE.bd B b
 | .eq a b=>SE.bd B a&&SE.bd B b
mutual
def AV.bd (B:Bd):AV→Bool
 | .sym _ e=>SE.bd B e
 | .ZdH c _=>Cnd.bd B c
 | .ptr n _=>Nat.blt n B.kn
 | .eptr n e _ _=>Nat.blt n B.kn&&SE.bd B e
 | .dsl n e _=>Nat.blt n B.kn&&SE.bd B e
 | .ssl n e _ _=>Nat.blt n B.kn&&SE.bd B e
 | .rptr _ e=>SE.bd B e
 | .sl n _ _ _ _=>Nat.blt n B.kn
 | .map n=>Nat.blt n B.kn
 | .fn _ a b=>AV.bds B a&&AV.bds B b
 | .ifc _ v=>AV.bd B v
 | .agg l=>AV.bds B l
 | .tup l=>AV.bds B l
 | .bool _=>true
 | .int _ _=>true
 | .str _=>true
 | .nilp=>true
 | .gptr _ _=>true
 | .nilsl=>true
 | .esl _=>true
 | .zsl=>true
 | .osl e=>SE.bd B e
 | .rsl _=>true
 | .nilmap=>true
 | .nilfn=>true
 | .nilif=>true
def AV.bds (B:Bd):List AV→Bool
 | []=>true
 | v::l=>AV.bd B v&&AV.bds B l
end
def Ztz (n:Nat):List CK→Bool
 | l=>Nat.ble l.length n
def TB.bd (B:Bd):TB→Bool
 | .cells l _=>AV.bds B l&&ZaY l
 | .recs l ks _=>SE.bdL B l&&Ztz 64 ks
 | .opb i n m=>Nat.blt i B.ko&&(Nat.blt n B.kn&&Nat.blt m B.kn)
section
variable [Fc]
def eqB (a b:SE):Bool:=match ZfU a b with
 | some true=>true
 | _=>false
mutual
def AV.fits:AV→AV→Bool
 | .agg a,.agg b=>AV.Zex a b
 | .tup a,.tup b=>AV.Zex a b
 | .int k n,.sym k' e=>decide (k=k')&&eqB (.lit n) e
 | .sym k e,.sym k' e'=>decide (k=k')&&eqB e e'
 | .sym k e,.int k' n=>decide (k=k')&&eqB e (.lit n)
 | .bool b,.ZdH c p=>match ZmQ c with
   | some q=>b==(q==p)
   | none=>false
 | .ZdH c p,.bool b=>match ZmQ c with
   | some q=>b==(q==p)
   | none=>false
 | .ZdH c p,.ZdH c' p'=>(Cnd.beq c c'&&p==p')||(match ZmQ c with
   | some q=>(match ZmQ c' with
     | some q'=>(q==p)==(q'==p')
     | none=>false)
   | none=>false)
 | .dsl n e s,.dsl n' e' s'=>Nat.beq n n'&&(Nat.beq s s'&&eqB e e')
 | .sl n off len s r,.dsl n' e' s'=>(Nat.beq n n'&&Nat.beq s s')&&((Nat.beq off 0&&(match r with | .whole=>true | _=>false))&&eqB (.lit (Int.ofNat len)) e')
 | .nilsl,.zsl=>true
 | .esl _,.zsl=>false
 | .osl e,.osl e'=>eqB e e'
 | a,b=>AV.beq a b
def AV.Zex:List AV→List AV→Bool
 | [],[]=>true
 | a::l,b::m=>AV.fits a b&&AV.Zex l m
 | _,_=>false
end
def Zis (cs:T AV):Nat→List CK→SE→Bool
 | _,[],.rnil=>true
 | off,k::ks,.rcons v r=>match cs.get off with
   | some a=>match Zs0 k a with
     | some x=>eqB x v&&Zis cs (Nat.add off 1) ks r
     | none=>false
   | none=>false
 | _,_,_=>false
def ZaZ (cs:T AV)(ks:List CK):SE→Option Nat
 | .rnil=>some 0
 | .lsnoc l r=>match ZaZ cs ks l with
   | some n=>match Zis cs (Nat.mul n ks.length) ks r with
     | true=>some (Nat.add n 1)
     | false=>none
   | none=>none
 | _=>none
def CK.ZiM:List CK→List CK→Bool
 | [],[]=>true
 | a::l,b::m=>CK.beq a b&&CK.ZiM l m
 | _,_=>false
def TB.fits (o:AO)(t:TB):Bool:=match o,t with
 | .cells cs k e,.cells l e'=>Nat.beq e e'&&(Nat.ble l.length k&&(match Zhg cs 0 l.length with
   | some l'=>AV.Zex l' l
   | none=>false))
 | .cells cs k e,.recs l ks e'=>Nat.beq e e'&&(match ZaZ cs ks l with
   | some n=>Nat.ble (Nat.mul n ks.length) k
   | none=>false)
 | .recs l ks e,.recs l' ks' e'=>Nat.beq e e'&&(SE.beq l l'&&CK.ZiM ks ks')
 | .opb i n m,.opb i' n' m'=>Nat.beq i i'&&(Nat.beq n n'&&Nat.beq m m')
 | _,_=>false
end
structure Tm where
 env:List (Nat×AV)
 heap:List (Nat×TB)
 b:Bd
def ZtV:List (Nat×AV)→T AV
 | []=>.e
 | (t,v)::l=>(ZtV l).put t (some v)
def heapT:List (Nat×TB)→T AO
 | []=>.e
 | (n,o)::l=>(heapT l).put n (some o.ao)
def Tm.h (t:Tm):AH:=.mk (heapT t.heap) t.b.kn
def bdE (B:Bd):List (Nat×AV)→Bool
 | []=>true
 | (_,v)::l=>AV.bd B v&&bdE B l
def bdH (B:Bd):List (Nat×TB)→Bool
 | []=>true
 | (n,o)::l=>(Nat.blt n B.kn&&TB.bd B o)&&bdH B l
def Tm.ok (t:Tm):Bool:=bdE t.b t.env&&(bdH t.b t.heap&&Nat.ble t.b.kn 1000000)
section
variable [Fc]
def ZtW (θ:Sub)(env:T AV):List (Nat×AV)→Bool
 | []=>true
 | (t,v)::l=>match env.get t with
   | some u=>AV.fits u (v.sub θ)&&ZtW θ env l
   | none=>false
def Zo6 (θ:Sub)(n:Nat):List (Nat×TB)→Bool
 | []=>true
 | (m,_)::l=>match Nat.beq (θ.nAt m) n with
   | true=>false
   | false=>Zo6 θ n l
def ZoH (θ:Sub)(h:AH):List (Nat×TB)→Bool
 | []=>true
 | (n,o)::l=>match h.get (θ.nAt n) with
   | some a=>TB.fits a (o.sub θ)&&(Zo6 θ (θ.nAt n) l&&ZoH θ h l)
   | none=>false
def Tm.fits (t:Tm)(θ:Sub)(env:T AV)(h:AH):Bool:=t.ok&&(ZtW θ env t.env&&ZoH θ h t.heap)
end
structure Kc where
 f:Nat
 args:List AV
 conds:List (Cnd×Bool):=[]
 pre:List (Nat×TB):=[]
 post:List (Nat×TB):=[]
 news:List TB:=[]
 res:AV
def rel:Nat:=600000
def Zfe (nx:Nat):Nat→List TB→List (Nat×Nat)
 | _,[]=>[]
 | i,_::l=>(Nat.add rel i,Nat.add nx i)::Zfe nx (Nat.add i 1) l
def ZdT (θ:Sub):List (Nat×TB)→AH→AH
 | [],h=>h
 | (n,o)::l,h=>(ZdT θ l h).put n (some (o.sub θ).ao)
def Zcy:List (Nat×TB)→AH→AH
 | [],h=>h
 | (n,_)::l,h=>(Zcy l h).put n none
def ZdR (θ:Sub):List TB→AH→AH
 | [],h=>h
 | o::l,h=>ZdR θ l ((h.put h.next (some (o.sub θ).ao)).skip 1)
section
variable [Fc]
def Kc.at (k:Kc)(h:AH):Option (AV×AH) :=
 match ZoH {} h k.pre with
 | false=>none
 | true=>match Nat.blt (Nat.add h.next k.news.length) 600000 with
   | false=>none
   | true =>
     let θ:Sub:={ n:=Zfe h.next 0 k.news }
     some (k.res.sub θ,ZdR θ k.news (ZdT θ k.post (Zcy k.pre h)))
def ZpJ (f:FuncId)(args:List AV)(h:AH):List Kc→Option (AV×AH)
 | []=>none
 | k::l=>match Nat.beq k.f f with
   | false=>ZpJ f args h l
   | true=>match AV.Zex args k.args with
     | false=>ZpJ f args h l
     | true=>match Zew k.conds with
       | false=>ZpJ f args h l
       | true=>match k.at h with
         | some r=>some r
         | none=>ZpJ f args h l
abbrev Kg:=List AV→List Kc
def ZmX (P:Program)(kx:AH→Kg):Nat→FuncId→List AV→AH→Option (AV×AH)
 | 0,_,_,_=>none
 | n+1,f,args,h=>match ZpJ f args h (kx h args) with
   | some r=>some r
   | none=>match P.funcs[f]? with
   | none=>none
   | some fn => match fn.name == "runtime.NumGoroutine" with
     | true=>none
     | false=>match fn.body with
       | none=>none
       | some c=>match Nat.ble args.length fn.ntmps&&Nat.ble fn.ntmps 1000000 with
         | false=>none
         | true=>match exec P (ZmX P kx n) fn.ntmps c (Zh3 0 args .e) h with
           | some (.exit _,_,_)=>none
           | some (_,env',h')=>match Zos P h' env' fn.results.toList with
             | some vs=>some (Zmv vs,h')
             | none=>none
           | none=>none
mutual
def AV.nm (p:Nat→Bool):AV→Bool
 | .ptr n _=>p n
 | .eptr n _ _ _=>p n
 | .dsl n _ _=>p n
 | .ssl n _ _ _=>p n
 | .sl n _ _ _ _=>p n
 | .map n=>p n
 | .fn _ a b=>AV.nms p a&&AV.nms p b
 | .ifc _ v=>AV.nm p v
 | .agg l=>AV.nms p l
 | .tup l=>AV.nms p l
 | .sym _ _=>true
 | .ZdH _ _=>true
 | .rptr _ _=>true
 | .bool _=>true
 | .int _ _=>true
 | .str _=>true
 | .nilp=>true
 | .gptr _ _=>true
 | .nilsl=>true
 | .esl _=>true
 | .zsl=>true
 | .osl _=>true
 | .rsl _=>true
 | .nilmap=>true
 | .nilfn=>true
 | .nilif=>true
def AV.nms (p:Nat→Bool):List AV→Bool
 | []=>true
 | v::l=>AV.nm p v&&AV.nms p l
end
def TB.nm (p:Nat→Bool):TB→Bool
 | .cells l _=>AV.nms p l
 | .recs _ _ _=>true
 | .opb _ n m=>p n&&p m
def nmE (p:Nat→Bool):List (Nat×AV)→Bool
 | []=>true
 | (_,v)::l=>AV.nm p v&&nmE p l
def nmH (p:Nat→Bool):List (Nat×TB)→Bool
 | []=>true
 | (_,o)::l=>TB.nm p o&&nmH p l
def ZtX (n:Nat):List (Nat×TB)→Bool
 | []=>false
 | (m,_)::l=>match Nat.beq m n with
   | true=>true
   | false=>ZtX n l
def okN (l:List (Nat×TB))(nx n:Nat):Bool:=match Nat.ble nx n with
 | true=>true
 | false=>ZtX n l
def Zem:Code→Option Nat
 | .region id _ _=>some id
 | .seq a b=>match Zem a with
   | some n=>some n
   | none=>Zem b
 | .cond _ a b=>match Zem a with
   | some n=>some n
   | none=>Zem b
 | .block _ c=>Zem c
 | .loop c=>Zem c
 | .scope c=>Zem c
 | _=>none
structure Ln where
 key:Nat
 nx:Nat
 t:Tm
 th:Sub:={}
 x:AX
 post:Tm
def ZjM (nx:Nat)(h:AH):List (Nat×TB)→Bool
 | []=>true
 | (n,_)::l=>(match Nat.blt n nx with
   | true=>(h.get n).isSome
   | false=>Nat.ble h.next n)&&ZjM nx h l
def Ln.at (l:Ln)(env:T AV)(h:AH):Option (AX×T AV×AH) :=
 match l.t.fits l.th env h with
 | false=>none
 | true=>match (l.post.ok&&Nat.ble l.nx h.next)&&((Nat.ble h.next l.post.b.kn&&ZjM l.nx h l.post.heap)&&(nmE (okN l.post.heap h.next) l.post.env&&nmH (okN l.post.heap h.next) l.post.heap)) with
   | false=>none
   | true=>some (l.x,ZtV l.post.env,l.post.h)
def ZsI (i:Nat)(env:T AV)(h:AH):List Ln→Option (AX×T AV×AH)
 | []=>none
 | l::r=>match Nat.beq l.key i with
   | true=>match l.at env h with
     | some x=>some x
     | none=>ZsI i env h r
   | false=>ZsI i env h r
def ZsJ (i:Nat):List Ln→Bool
 | []=>false
 | l::r=>match Nat.beq l.key i with
   | true=>true
   | false=>ZsJ i r
def ZtZ (c:Code)(env:T AV)(h:AH)(lns:List Ln)(body:T AV→AH→Option (AX×T AV×AH)):Option (AX×T AV×AH):=match Zem c with
 | some i=>match ZsI i env h lns with
   | some r=>some r
   | none=>match ZsJ i lns with
     | true=>iter body 3 env h
     | false=>iter body 100000 env h
 | none=>iter body 100000 env h
variable (P:Program)(call:FuncId→List AV→AH→Option (AV×AH))(nt:Nat)(lns:List Ln)
def Zcf:Code→T AV→AH→Option (AX×T AV×AH)
 | .skip,env,h=>some (.normal,env,h)
 | .label _,env,h=>some (.normal,env,h)
 | .region _ ops false,env,h=>match Zri P call nt ops ops.toList env h with
   | some (env',h')=>some (.normal,env',h')
   | none=>none
 | .region _ ops true,env,h=>match Zpe P call nt ops env h with
   | some (env',h')=>some (.normal,env',h')
   | none=>none
 | .seq x y,env,h=>match Zcf x env h with
   | some (.normal,env',h')=>Zcf y env' h'
   | r=>r
 | .cond c x y,env,h=>match ev env c with
   | some (.bool true)=>Zcf x env h
   | some (.bool false)=>Zcf y env h
   | some (.ZdH q p)=>match ZmQ q with
     | some r=>match r==p with
       | true=>Zcf x env h
       | false=>Zcf y env h
     | none=>none
   | _=>none
 | .block id c,env,h=>match Zcf c env h with
   | some (.exit j,env',h')=>match Nat.beq j id with
     | true=>some (.normal,env',h')
     | false=>some (.exit j,env',h')
   | r=>r
 | .loop c,env,h=>ZtZ c env h lns (Zcf c)
 | .scope c,env,h=>Zcf c env h
 | .exit id,env,h=>some (.exit id,env,h)
 | .ret,env,h=>some (.ret,env,h)
 | _,_,_=>none
end
def ZaW:Code→List Code
 | .seq a b=>ZaW a++ZaW b
 | .cond _ a b=>ZaW a++ZaW b
 | .block _ c=>ZaW c
 | .loop c=>c::ZaW c
 | .scope c=>ZaW c
 | _=>[]
def ZmW (P:Program)(f:FuncId):Code:=match P.funcs[f]? with
 | some fn=>match fn.body with
   | some c=>c
   | none=>.skip
 | none=>.skip
def ZtB (P:Program)(f:FuncId):Nat:=match P.funcs[f]? with
 | some fn=>fn.ntmps
 | none=>0
inductive CT where
 | is (v:AV) (post:List (Nat×TB))
 | bad
 | node (c:Cnd) (t e:CT)
def Zho (P:Program)(gs:List (Nat×List Int))(rks:List (Nat×CK))(kcs:Kg)(lns:List Ln)(n:Nat)(f:FuncId)(args:List AV)(t:Tm):CT→List (Cnd×Bool)→Bool
 | .is v post,fs=>match P.funcs[f]? with
   | none=>false
   | some fn => match fn.name == "runtime.NumGoroutine" with
     | true=>false
     | false=>match fn.body with
       | none=>false
       | some c=>match Nat.ble args.length fn.ntmps&&Nat.ble fn.ntmps 1000000 with
         | false=>false
         | true=>match @Zcf ⟨fs,gs,rks⟩ P (@ZmX ⟨fs,gs,rks⟩ P (fun _=>kcs) n) fn.ntmps lns c (Zh3 0 args .e) t.h with
           | some (.exit _,_,_)=>false
           | some (_,env',h')=>match @Zos ⟨fs,gs,rks⟩ P h' env' fn.results.toList with
             | some vs=>@AV.fits ⟨fs,gs,rks⟩ (Zmv vs) v&&@ZoH ⟨fs,gs,rks⟩ {} h' post
             | none=>false
           | none=>false
 | .bad,_=>true
 | .node q a b,fs=>match Zho P gs rks kcs lns n f args t a ((q,true)::fs) with
   | true=>Zho P gs rks kcs lns n f args t b ((q,false)::fs)
   | false=>false
end
end Go.Proofs.YtfcpdlbkmkhhcaaGreatDoor.Ex
