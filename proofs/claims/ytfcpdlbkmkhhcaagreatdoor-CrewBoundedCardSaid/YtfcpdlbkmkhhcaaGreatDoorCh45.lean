/-
  Texts of this claim, joined. No condition.
-/
import Derived.Test.YtfcpdlbkmkhhcaaGreatDoorCh1
import Derived.Test.YtfcpdlbkmkhhcaaGreatDoorCh10
import Derived.Test.YtfcpdlbkmkhhcaaGreatDoorCh44
import Derived.Test.YtfcpdlbkmkhhcaaGreatDoorCh37
import Derived.Test.YtfcpdlbkmkhhcaaGreatDoorCh18
import Derived.Test.YtfcpdlbkmkhhcaaGreatDoorCh40
namespace Go.Proofs.YtfcpdlbkmkhhcaaGreatDoor
set_option maxRecDepth 100000
set_option maxHeartbeats 40000000
namespace Cw
open Go Mem See
open Go.RowKit
section
variable {W w:World}{m:List (Nat×Obj)}
theorem Zh (h:Own W m w)(hT:Ex.jR aJ.gs W):Calls Tryz.prog 8 #[] w fun e w'=>e = .returned (.bool true)∧Own W m w' :=
 (Ex.Zpx (σ:=fun _=>0) Ex.Qp pz.yes w (Pz hT h)).mono fun _ _ ⟨h1,h2⟩=>⟨h1,h.Zq4 h2⟩
end
end Cw
namespace Cw
open Go Mem See
open Go.RowKit
attribute [local go_sem ↓] Go.wp_at_zero Go.wp_at_succ
section
variable {W w:World}{m:List (Nat×Obj)}{a0 a1 a2 a3 a4:Int}{key:Nat}{jv qv:Value}{aj picks:List Int}
def QM (a0 a1 a2 a3 a4:Int)(key:Nat)(jv qv:Value):Value:=.agg #[.int .i64 a0,.int .i64 a1,.int .i64 a2,.int .i64 a3,.int .i64 a4,.int .u64 (key:Int),jv,qv]
theorem Znz:Ex.iA Tryz.prog 27=some 8:=by kernel_rfl
theorem ZdC {P:Program}{ops:Array Oper}{rest:List Oper}{o:Oper}{a:Act}{Q:Exit→Act→World→Prop}{ad v:Value}{t:TypeId}(jw:o.guard=Option.none)(p:Operand)(ho:o.op = .load t p)(hp:a.eval p=ad)(hr:(Instr.loadAt t ad).run P w = .ok v w)(h:wpList P ops Q rest (a.put o.dst v) w):wpList P ops Q (o::rest) a w:=by
 refine wpList_plain jw fun K hK => ?_;unfold Oper.wp execOp;simp only[ho,hp,Zxy,ZxM,Zxs,hr];exact hK _ _ h
theorem UK.open {br:Nat}{c:Ch}{mn cp:Nat}(h:UK W m c mn cp jv aj br w):∃ (bc:Nat) (pv:Value) (r:Cv.Rn) (M:List (Nat×Obj)),Own W (m++gJ br bc c mn cp jv r.next r.out pv r.none true::M) w:=by
 obtain⟨bc,b0,b1,bt,cnt,n,N,pv,pb,r,st,-,-,-,hR⟩:=h.ex;obtain⟨M,hM⟩:=C8 hR.o;exact⟨bc,pv,r,pb++M,hM.perm (fO fun _ q=>by simp only[List.cons_append,Zxv,ZxO];omega)⟩
end
end Cw
namespace See
open Go.RowKit
theorem flat_get {α:Type}(f:α→List Value)(n:Nat)(hf:∀ x,(f x).length=n):∀ {L:List α} {i j:Nat} {x:α},L[i]?=some x→j<n→(L.flatMap f)[i * n+j]?=(f x)[j]?
 |[],i,j,x,h,_=>by simp at h
 |y::L,0,j,x,h,hj=>by
  simp at h;subst h;rw[List.flatMap_cons,Nat.zero_mul,Nat.zero_add,Zx0 (by rw[hf];exact hj)]
 |y::L,i+1,j,x,h,hj=>by
  rw[List.flatMap_cons,ZxY (by rw[hf,Nat.succ_mul];omega),hf,show(i+1) * n+j - n=i * n+j by rw[Nat.succ_mul];omega];exact flat_get f n hf (by simpa using h) hj
theorem Vm {α:Type}(f:α→List (Nat×Obj)):∀ {L:List α} {x:α},x∈L→∃ r,(L.flatMap f).Perm (f x++r)
 |y::L,x,h=>by
  rcases List.mem_cons.1 h with rfl|h
  ·exact⟨L.flatMap f,by rw[List.flatMap_cons]⟩
  ·obtain⟨r,hr⟩:=Vm f h
   refine⟨f y++r,?_⟩;rw[List.flatMap_cons];exact(ZxI (f y) hr).trans (vU _ _ _)
section
variable {W w:World}{M m bs:List (Nat×Obj)}{b:Nat}
theorem Zwr {L:List qb}{A:Option Addr}{n cap:Nat}{b0:List (Nat×Obj)}(h:gI true 52 4 (.slice A n cap) n (G7 L) b0)(hO:Own W (b0++M) w){i:Nat}{s:qb}(hs:L[i]?=some s)(hi:i<n) :
 ∃ g,A=some ⟨g,0,none⟩∧w.cell? ⟨g,i * 4,none⟩=some (.int .i64 s.x.aA)∧w.cell? ⟨g,i * 4+1,none⟩=some s.lv∧w.cell? ⟨g,i * 4+2,none⟩=some (.int .u64 s.x.turn)∧w.cell? ⟨g,i * 4+3,none⟩=some s.pv∧g<w.heap.size:=by
 obtain⟨g,cap',cur,hv,-⟩:=h.form (by omega);simp only[Value.slice.injEq,true_and]at hv;obtain⟨rfl,rfl⟩:=hv;have hg:=fun j (hj:j<4)=>flat_get qb.cells 4 (fun _=>rfl) hs hj;exact⟨g,rfl,h.cell hO rfl (hg 0 (by omega)),h.cell hO rfl (hg 1 (by omega)),h.cell hO rfl (hg 2 (by omega)),h.cell hO rfl (hg 3 (by omega)),h.lt hO rfl⟩
theorem Zwp {L:List pg}{A:Option Addr}{n cap:Nat}{b0:List (Nat×Obj)}(h:gI true 49 5 (.slice A n cap) n (G6 L) b0)(hO:Own W (b0++M) w){i:Nat}{s:pg}(hs:L[i]?=some s)(hi:i<n) :
 ∃ g,A=some ⟨g,0,none⟩∧w.cell? ⟨g,i * 5,none⟩=some (.int .i64 s.x.counts.ay)∧w.cell? ⟨g,i * 5+1,none⟩=some (.int .i64 s.x.counts.objects)∧w.cell? ⟨g,i * 5+2,none⟩=some (.bool s.x.counts.frozen)∧w.cell? ⟨g,i * 5+3,none⟩=some (.bool s.x.counts.live)∧w.cell? ⟨g,i * 5+4,none⟩=some s.v∧g<w.heap.size:=by
 obtain⟨g,cap',cur,hv,-⟩:=h.form (by omega);simp only[Value.slice.injEq,true_and]at hv;obtain⟨rfl,rfl⟩:=hv;have hg:=fun j (hj:j<5)=>flat_get pg.cells 5 (fun _=>rfl) hs hj;exact⟨g,rfl,h.cell hO rfl (hg 0 (by omega)),h.cell hO rfl (hg 1 (by omega)),h.cell hO rfl (hg 2 (by omega)),h.cell hO rfl (hg 3 (by omega)),h.cell hO rfl (hg 4 (by omega)),h.lt hO rfl⟩
theorem ZvX {L:List qb}(hk:QT L)(hO:Own W (lU L++M) w){s:qb}(hs:s∈L):jP w s.lv s.x.list∧jP w s.pv s.x.parts:=by
 obtain⟨r,hr⟩:=Vm (fun s:qb=>s.lb++s.pb) hs;obtain⟨h1,h2⟩:=hk s hs;have h3:Own W (s.lb++(s.pb++(r++M))) w:=by
  have:=hO.perm (List.Perm.append_right M hr);simpa [ZxG] using this
 exact⟨h1.src h3,h2.src h3.swap⟩
theorem ZvV {L:List pg}(hk:QS L)(hO:Own W (pq L++M) w){s:pg}(hs:s∈L):jP w s.v s.x.first:=by
 obtain⟨r,hr⟩:=Vm pg.b hs;have h3:Own W (s.b++(r++M)) w:=by
  have:=hO.perm (List.Perm.append_right M hr);simpa [ZxG] using this
 exact gI.src (hk s hs) h3
structure Parts (K:Fh)(A0 A1 A2:Option Addr)(c0 c1 c2:Nat)(bs:List (Nat×Obj))(Ls:List qb)(Ll:List pg):Prop where
 es:Ls.map (·.x)=K.slots
 el:Ll.map (·.x)=K.mQ
 slots:∀ {W w M},Own W (bs++M) w→∀ {i s},Ls[i]?=some s→i<K.slots.length→(∃ g,A0=some ⟨g,0,none⟩∧w.cell? ⟨g,i * 4,none⟩=some (.int .i64 s.x.aA)∧w.cell? ⟨g,i * 4+1,none⟩=some s.lv∧w.cell? ⟨g,i * 4+2,none⟩=some (.int .u64 s.x.turn)∧w.cell? ⟨g,i * 4+3,none⟩=some s.pv∧g<w.heap.size)∧jP w s.lv s.x.list∧jP w s.pv s.x.parts
 mQ:∀ {W w M},Own W (bs++M) w→∀ {i s},Ll[i]?=some s→i<K.mQ.length→(∃ g,A2=some ⟨g,0,none⟩∧w.cell? ⟨g,i * 5,none⟩=some (.int .i64 s.x.counts.ay)∧w.cell? ⟨g,i * 5+1,none⟩=some (.int .i64 s.x.counts.objects)∧w.cell? ⟨g,i * 5+2,none⟩=some (.bool s.x.counts.frozen)∧w.cell? ⟨g,i * 5+3,none⟩=some (.bool s.x.counts.live)∧w.cell? ⟨g,i * 5+4,none⟩=some s.v∧g<w.heap.size)∧jP w s.v s.x.first
 shelf:∀ {W w M},Own W (bs++M) w→jP w (.slice A1 K.shelf.length c1) K.shelf
theorem Zvs {v:Value}{K:Fh}(h:Vy v K bs):∃ A0 A1 A2 c0 c1 c2 Ls Ll,v = .agg #[.slice A0 K.slots.length c0,.slice A1 K.shelf.length c1,.bool K.nE,.slice A2 K.mQ.length c2]∧Parts K A0 A1 A2 c0 c1 c2 bs Ls Ll:=by
 obtain⟨Ls,sv,b0,hv,b1,Ll,lv,b2,rfl,es,so,s1,h1,el,lo,l1,rfl⟩:=h;have ns:Ls.length=K.slots.length:=by rw[← es,List.length_map]
 have nl:Ll.length=K.mQ.length:=by rw[← el,List.length_map]
 unfold JP at s1;unfold JO at l1;rw[ns]at s1;rw[nl]at l1;obtain⟨A0,c0,rfl,-,-⟩:=s1.slice;obtain⟨A1,c1,rfl,-,-⟩:=gI.slice h1;obtain⟨A2,c2,rfl,-,-⟩:=l1.slice;refine⟨A0,A1,A2,c0,c1,c2,Ls,Ll,rfl,⟨es,el,fun hO i s hs hi => ?_,fun hO i s hs hi => ?_,fun hO => ?_⟩⟩
 ·simp only[ZxG]at hO
  exact⟨Zwr s1 hO hs hi,ZvX so hO.bD (Zxz hs)⟩
 ·simp only[ZxG]at hO
  have h3:=hO.bD.bD.bD;exact⟨Zwp l1 h3 hs hi,ZvV lo h3.bD (Zxz hs)⟩
 ·simp only[ZxG]at hO
  exact gI.src h1 hO.bD.bD
end
end See
namespace Cw
open Go Mem See
open Go.RowKit
section
def zQ (P:List Nat):List Value:=(List.range 512).map fun x=>.int .i64 ((P.count x:Nat):Int)
theorem Vk (P:List Nat):(zQ P).length=512:=by simp[zQ]
theorem Vj {P:List Nat}{x:Nat}(h:x<512):(zQ P)[x]?=some (.int .i64 ((P.count x:Nat):Int)):=by simp[zQ,h]
theorem Zwc {P:List Nat}{x:Nat}(h:x<512):(zQ P).set x (.int .i64 ((P.count x+1:Nat):Int))=zQ (P++[x]):=by
 apply List.ext_getElem?;intro i;rw[List.getElem?_set];by_cases hi:i<512
 ·rw[Vj hi,Vj hi,Vk,ZxO,List.count_singleton]
  by_cases e:x=i
  ·subst e
   simp[h]
  ·rw[if_neg e,if_neg (by simpa using e),Nat.add_zero]
 ·rw[if_neg (by omega),List.getElem?_eq_none (by rw[Vk];omega),List.getElem?_eq_none (by rw[Vk];omega)]
def hadB (b:Nat)(P:List Nat):Nat×Obj:=(b,.cells (zQ P).toArray 45)
theorem Zwd:(Tryz.prog.info? 45).map (fun i=>(i.zero,i.size,i.bytes))=some (some (.agg (Array.replicate 512 (.int .i64 0))),512,4096):=by kernel_rfl
theorem Zwb:Array.replicate 512 (Value.int .i64 0)=(zQ []).toArray:=by
 apply Array.ext
 ·simp[zQ]
 ·intro i h1 h2
  simp[zQ]
variable {W w:World}{m:List (Nat×Obj)}{b:Nat}{P:List Nat}
theorem QU (h:Own W (hadB b P::m) w):(∀ x,x<512→w.cell? ⟨b,x,Option.none⟩=some (.int .i64 ((P.count x:Nat):Int)))∧∀ i,w.frozen? ⟨b,i,Option.none⟩=false :=
 ⟨fun x hx=>by rw[h.cell (b:=b) ZnJ x,Zx3];exact Vj hx,fun i=>h.frozen ZnJ i⟩
theorem ZvD (h:Own W (hadB b P::m) w){x:Nat}(hx:x<512):Own W (hadB b (P++[x])::m) (w.setCell ⟨b,x,Option.none⟩ (.int .i64 ((P.count x+1:Nat):Int))):=by
 have:=h.set x (.int .i64 ((P.count x+1:Nat):Int));rw[ZnK,Zwc hx]at this;exact this
variable {c:Ch}{st:Cv.St}
def og (st:Cv.St)(s i:Nat):List Nat:=(List.range s).flatMap (Cv.uF st)++(Cv.uF st s).take i
def oI (c:Ch)(st:Cv.St)(k j:Nat):List Nat:=(List.range c.S).flatMap (Cv.uF st)++((List.range k).flatMap (Cv.qJ st)++(Cv.qJ st k).take j)
theorem Zv6 {s i x:Nat}(h:(st.ol s .first)[i]?=some x):og st s (i+1)=og st s i++[16 * s+x]:=by
 unfold og;rw[List.take_add_one,ZxG]
 congr 2
 unfold Cv.uF;rw[List.getElem?_map,h];rfl
theorem Zvh {s:Nat}:og st s (st.ol s .first).length=og st (s+1) 0:=by
 unfold og;rw[List.range_succ,List.flatMap_append,List.take_zero,ZxP,List.take_of_length_le (by simp[Cv.uF])];simp
theorem Zv5:og st c.S 0=oI c st 0 0:=by
 unfold og oI;simp
theorem Zv9 {k j y:Nat}(h:(Cv.qJ st k)[j]?=some y):oI c st k (j+1)=oI c st k j++[y]:=by
 unfold oI;rw[List.take_add_one,h];simp[]
theorem Zvi {k:Nat}:oI c st k (Cv.qJ st k).length=oI c st (k+1) 0:=by
 unfold oI;rw[List.range_succ,List.flatMap_append,List.take_zero,ZxP,List.take_length];simp
theorem Zv8:oI c st c.C 0=Cv.Cj c st:=by
 unfold oI Cv.Cj;simp
theorem Zv7 {s i:Nat}(hs:s<c.S):(og st s i).Sublist (Cv.Cj c st):=by
 have h1:(og st s i).Sublist (og st (s+1) 0):=by
  rw[← Zvh];unfold og;refine List.Sublist.append_left ?_ _;have e:(Cv.uF st s).take (st.ol s .first).length=Cv.uF st s:=List.take_of_length_le (by simp[Cv.uF]);rw[e];exact List.take_sublist _ _
 have h2:(og st (s+1) 0).Sublist ((List.range c.S).flatMap (Cv.uF st)):=by
  obtain⟨d,hd⟩:∃ d,c.S=(s+1)+d:=⟨c.S - (s+1),by omega⟩;unfold og;rw[List.take_zero,ZxP,hd,show List.range (s+1+d)=List.range (s+1)++(List.range d).map (s+1+·) from List.range_add,List.flatMap_append];exact List.sublist_append_left _ _
 exact(h1.trans h2).trans (List.sublist_append_left _ _)
theorem Zwa {k j:Nat}(hk:k<c.C):(oI c st k j).Sublist (Cv.Cj c st):=by
 have h1:(oI c st k j).Sublist (oI c st (k+1) 0):=by
  rw[← Zvi];unfold oI;refine List.Sublist.append_left (List.Sublist.append_left ?_ _) _;rw[List.take_length];exact List.take_sublist _ _
 refine h1.trans ?_;obtain⟨d,hd⟩:∃ d,c.C=(k+1)+d:=⟨c.C - (k+1),by omega⟩;unfold oI Cv.Cj;refine List.Sublist.append_left ?_ _;rw[List.take_zero,ZxP,hd,show List.range (k+1+d)=List.range (k+1)++(List.range d).map (k+1+·) from List.range_add,List.flatMap_append];exact List.sublist_append_left _ _
theorem ZvF {mn cp:Nat}(G:Cv.dH c mn cp st)(k:Nat):(Cv.qJ st k).length≤c.O:=by
 unfold Cv.qJ;cases h:st.sl (.head k) with
 |nil=>exact ZxV _
 |cons s l =>
  show((st.ol s (.head k)).map _).length≤c.O;rw[List.length_map];exact Cv.zP (G.od s (.head k) rfl) fun o ho=>(Cv.ru G (x:=.head k) rfl ho).2
theorem Zva {k:Nat}:(Cv.mh st k).list.length=(Cv.qJ st k).length∧∀ j,j<(Cv.qJ st k).length→∃ s x:Nat,(Cv.mh st k).aA=(s:Int)∧s∈st.sl (.head k)∧(Cv.mh st k).list[j]?=some (x:Int)∧x∈st.ol s (.head k)∧(Cv.qJ st k)[j]?=some (16 * s+x):=by
 unfold Cv.mh Cv.qJ;cases h:st.sl (.head k) with
 |nil=>exact⟨rfl,fun j hj=>by simp at hj⟩
 |cons s l =>
  refine⟨by simp[Cv.ints],fun j hj => ?_⟩;have hj:j<(st.ol s (.head k)).length:=by simpa using hj
  refine⟨s,(st.ol s (.head k))[j],rfl,ZnJ,by simp[Cv.ints,hj],List.getElem_mem hj,by simp[hj]⟩
end
end Cw
end Go.Proofs.YtfcpdlbkmkhhcaaGreatDoor
