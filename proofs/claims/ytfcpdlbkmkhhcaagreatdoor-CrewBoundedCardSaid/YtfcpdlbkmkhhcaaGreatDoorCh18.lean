/-
  Texts of this claim, joined. No condition.
-/
import Derived.Test.YtfcpdlbkmkhhcaaGreatDoorCh1
import Derived.Test.YtfcpdlbkmkhhcaaGreatDoorCh17
namespace Go.Proofs.YtfcpdlbkmkhhcaaGreatDoor
set_option maxRecDepth 100000
set_option maxHeartbeats 40000000
namespace See
open Go.RowKit
theorem ZvW:(Tryz.prog.info? 52).map (fun i=>(i.zero,i.size,i.bytes))=some (some (.agg #[.int .i64 0,.slice none 0 0,.int .u64 0,.slice none 0 0]),4,64):=by kernel_rfl
theorem ZvU:(Tryz.prog.info? 49).map (fun i=>(i.zero,i.size,i.bytes))=some (some (.agg #[.int .i64 0,.int .i64 0,.bool false,.bool false,.slice none 0 0]),5,48):=by kernel_rfl
structure qb where
 x:JK
 lv:Value
 lb:List (Nat×Obj)
 pv:Value
 pb:List (Nat×Obj)
def qb.cells (s:qb):List Value:=[.int .i64 s.x.aA,s.lv,.int .u64 s.x.turn,s.pv]
def G7 (L:List qb):List Value:=L.flatMap qb.cells
def lU (L:List qb):List (Nat×Obj):=L.flatMap fun s=>s.lb++s.pb
def QT (L:List qb):Prop:=∀ s∈L,lS true s.lv s.x.list s.lb∧lS true s.pv s.x.parts s.pb
structure pg where
 x:JJ
 v:Value
 b:List (Nat×Obj)
def pg.cells (s:pg):List Value:=[.int .i64 s.x.counts.ay,.int .i64 s.x.counts.objects,.bool s.x.counts.frozen,.bool s.x.counts.live,s.v]
def G6 (L:List pg):List Value:=L.flatMap pg.cells
def pq (L:List pg):List (Nat×Obj):=L.flatMap pg.b
def QS (L:List pg):Prop:=∀ s∈L,lS true s.v s.x.first s.b
theorem ZuO (a b:List qb):G7 (a++b)=G7 a++G7 b:=by simp[G7]
theorem ZuN (a b:List pg):G6 (a++b)=G6 a++G6 b:=by simp[G6]
theorem ZuL (a b:List qb):lU (a++b)=lU a++lU b:=by simp[lU]
theorem ZuK (a b:List pg):pq (a++b)=pq a++pq b:=by simp[pq]
abbrev JP (v:Value) (L:List qb) (bs:List (Nat×Obj)):Prop:=gI true 52 4 v L.length (G7 L) bs
abbrev JO (v:Value) (L:List pg) (bs:List (Nat×Obj)):Prop:=gI true 49 5 v L.length (G6 L) bs
def Vy (v:Value)(K:Fh)(bs:List (Nat×Obj)):Prop:=∃ (Ls:List qb) (sv:Value) (b0:List (Nat×Obj)) (hv:Value) (b1:List (Nat×Obj)) (Ll:List pg) (lv:Value) (b2:List (Nat×Obj)),
 v = .agg #[sv,hv,.bool K.nE,lv]∧Ls.map (·.x)=K.slots∧QT Ls∧JP sv Ls b0∧lS true hv K.shelf b1∧Ll.map (·.x)=K.mQ∧QS Ll∧JO lv Ll b2∧bs=b0++(lU Ls++(b1++(b2++pq Ll)))
section
variable {P:Program}{W w:World}{m bs:List (Nat×Obj)}{v xv:Value}{xs news:List Value}{e size n k bytes:Nat}
theorem ZuY {ops:Array Oper}{rest:List Oper}{o:Oper}{a:Act}{Q:Exit→Act→World→Prop}(jw:o.guard=none)(s x:Operand)(t:TypeId)
 (ho:o.op = .call { callee:=.builtin .append,args:=#[s,x],argTypes:=#[t,t] }) (oM:a.eval s=v) (hex:a.eval x=xv)
 (z:Value) (Nz:(P.info? e).map (fun i=>(i.zero,i.size,i.bytes))=some (some z,size,bytes)) (ht:P.underlying t=some (.slice e)) (xO:z.cells.size=size) (dn:0<size) (hb:bytes≤200)
 (hs:gI true e size v n xs bs) (hO:Own W (bs++m) w) (hx:Src w size xv k news) (h1:∀ u∈news,u.oneCell'=true) (hlen:n+k≤60000)
 (h:∀ v' w' bs',gI true e size v' (n+k) (xs++news) bs'→Own W (bs'++m) w'→wpList P ops Q rest (a.put o.dst v') w') :
 wpList P ops Q (o::rest) a w:=by
 obtain⟨i,hi,hz,WP,kV⟩:=Gs Nz;have Cq:(n+k) * bytes≤60000 * 200:=Nat.mul_le_mul hlen hb;exact Ty jw s x t ho oM hex e i z size bytes ht hi hz WP kV xO dn hs hO hx h1 (by unfold maxLen;omega) (by omega) fun v' w' bs' h1 h2 _=>h v' w' bs' h1 h2
theorem Zvq (w:World)(e:TypeId)(l:List Value):Src (w.alloc (.cells l.toArray e)) l.length (.slice (some ⟨w.heap.size,0,none⟩) 1 1) 1 l:=by
 refine⟨by simp,.inr ⟨_,_,rfl,fun j u hj => ?_⟩⟩;rw[PY];simp[hj]
end
end See
namespace See
open Go.RowKit
open Apart (tF uH tC Vb)
open bI (Ok)
attribute [local go_sem ↓] Go.wp_at_zero Go.wp_at_succ
def kU (b:Nat)(sv hv:Value)(l:Bool)(lv:Value):Nat×Obj:=(b,.cells #[sv,hv,.bool l,lv] 41)
section
variable {W w:World}{M m:List (Nat×Obj)}{B o N k b:Nat}{g:List Nat}{c:Ch}{d e:Int}
theorem vV {b:Nat}{sv hv lv:Value}{l:Bool}(h:Own W (kU b sv hv l lv::m) w):(w.cell? ⟨b,0,none⟩=some sv∧w.cell? ⟨b,1,none⟩=some hv∧w.cell? ⟨b,2,none⟩=some (.bool l)∧w.cell? ⟨b,3,none⟩=some lv)∧(w.frozen? ⟨b,0,none⟩=false∧w.frozen? ⟨b,1,none⟩=false∧w.frozen? ⟨b,2,none⟩=false∧w.frozen? ⟨b,3,none⟩=false) :=
 ⟨⟨h.cell ZnJ 0,h.cell ZnJ 1,h.cell ZnJ 2,h.cell ZnJ 3⟩,⟨h.frozen ZnJ 0,h.frozen ZnJ 1,h.frozen ZnJ 2,h.frozen ZnJ 3⟩⟩
theorem Q0 {b:Nat}{sv hv lv yT hv' jO:Value}{l l':Bool}(h:Own W (kU b sv hv l lv::m) w):Own W (kU b yT hv' l' jO::m) ((((w.setCell ⟨b,0,none⟩ yT).setCell ⟨b,1,none⟩ hv').setCell ⟨b,2,none⟩ (.bool l')).setCell ⟨b,3,none⟩ jO):=by
 have h1:=(((h.set 0 yT).set 1 hv').set 2 (.bool l')).set 3 jO;exact h1
theorem Zvd {α:Type}{f:Nat→Option α}{n:Nat}{l:List α}{x:α}(h:upto f n=some l)(hx:f n=some x):upto f (n+1)=some (l++[x]):=by
 unfold upto;rw[h,hx]
theorem ZvL {α:Type}(a b c d:List α):(a++(b++(c++d))).Perm (c++(a++(b++d))) :=
 (ZxI a (vU b c d)).trans (vU a c _)
theorem ZvM {α:Type}(a b c d:List α)(x:α)(e:List α):(a++(b++(c++(d++x::e)))).Perm (x::(a++(b++(c++(d++e))))):=by
 have h:∀ (l:List α) (m:List α),m.Perm (x::e)→(l++m).Perm (x::(l++e)):=fun l m hm=>(ZxI l hm).trans ZxT;have h1:(d++x::e).Perm (x::(d++e)):=ZxT;have h2:(c++(d++x::e)).Perm (x::(c++(d++e))):=(ZxI c h1).trans ZxT;have h3:(b++(c++(d++x::e))).Perm (x::(b++(c++(d++e)))):=(ZxI b h2).trans ZxT;exact(ZxI a h3).trans ZxT
theorem ZvN (a lb pb:List (Nat×Obj))(Ls:List qb)(y:Nat×Obj)(e:List (Nat×Obj)){x:JK}{lv pv:Value}:(y::(a++(lb++(pb++(lU Ls++e))))).Perm (a++((lU Ls++lU [⟨x,lv,lb,pv,pb⟩])++y::e)):=by
 have e1:lU [⟨x,lv,lb,pv,pb⟩]=lb++pb:=by simp[lU]
 rw[e1];have h1:(lb++(pb++(lU Ls++e))).Perm (lU Ls++(lb++(pb++e))):=(ZxI lb (vU pb _ e)).trans (vU lb _ _);have h2:((lU Ls++(lb++pb))++y::e).Perm (y::((lU Ls++(lb++pb))++e)):=ZxT;have h3:((lU Ls++(lb++pb))++e)=lU Ls++(lb++(pb++e)):=by simp[]
 rw[h3]at h2;refine(List.Perm.cons y (ZxI a h1)).trans ?_;exact(List.perm_middle.symm).trans (ZxI a h2.symm)
theorem ZwN {b:Nat}{sv hv lv yT:Value}{l:Bool}(h:Own W (kU b sv hv l lv::m) w):Own W (kU b yT hv l lv::m) (w.setCell ⟨b,0,none⟩ yT):=h.set 0 yT
theorem ZwO {b:Nat}{sv hv lv hv':Value}{l:Bool}(h:Own W (kU b sv hv l lv::m) w):Own W (kU b sv hv' l lv::m) (w.setCell ⟨b,1,none⟩ hv'):=h.set 1 hv'
theorem ZwP {b:Nat}{sv hv lv jO:Value}{l:Bool}(h:Own W (kU b sv hv l lv::m) w):Own W (kU b sv hv l jO::m) (w.setCell ⟨b,3,none⟩ jO):=h.set 3 jO
theorem ZvO {α:Type}(a b c:List α)(x y z u:α)(m:List α):(a++(b++(c++(x::(y::(z::(u::m))))))).Perm (x::(y::(z::(u::(a++(b++(c++m))))))):=by
 have h1:(c++([x,y,z,u]++m)).Perm ([x,y,z,u]++(c++m)):=vU _ _ _;have h2:(b++([x,y,z,u]++(c++m))).Perm ([x,y,z,u]++(b++(c++m))):=vU _ _ _;have h3:(a++([x,y,z,u]++(b++(c++m)))).Perm ([x,y,z,u]++(a++(b++(c++m)))):=vU _ _ _;exact(ZxI a ((ZxI b h1).trans h2)).trans h3
theorem ZvP {α:Type}(a b c:List α)(x:α)(e:List α):(a++(b++(c++x::e))).Perm (x::(a++(b++(c++e)))):=by
 have h1:(c++x::e).Perm (x::(c++e)):=ZxT;have h2:(b++(c++x::e)).Perm (x::(b++(c++e))):=(ZxI b h1).trans ZxT;exact(ZxI a h2).trans ZxT
theorem ZvQ (a lb:List (Nat×Obj))(Ll:List pg)(y:Nat×Obj)(e:List (Nat×Obj)){x:JJ}{v:Value}:(y::(a++(lb++(pq Ll++e)))).Perm (a++((pq Ll++pq [⟨x,v,lb⟩])++y::e)):=by
 have e1:pq [⟨x,v,lb⟩]=lb:=by simp[pq]
 rw[e1];have h1:(lb++(pq Ll++e)).Perm (pq Ll++(lb++e)):=vU lb _ e;have h2:((pq Ll++lb)++y::e).Perm (y::((pq Ll++lb)++e)):=ZxT;rw[ZxG (pq Ll) lb e]at h2;refine(List.Perm.cons y (ZxI a h1)).trans ?_;exact(List.perm_middle.symm).trans (ZxI a h2.symm)
theorem ZvR {α:Type}(a l:List α)(x y z:α)(e:List α):(a++(l++(x::(y::(z::e))))).Perm (z::(a++(l++(x::(y::e))))):=by
 have h1:(x::(y::(z::e))).Perm (z::(x::(y::e))):=(List.Perm.cons x (List.Perm.swap _ _ _)).trans (List.Perm.swap _ _ _);have h2:(l++(x::(y::(z::e)))).Perm (z::(l++(x::(y::e)))):=(ZxI l h1).trans ZxT;exact(ZxI a h2).trans ZxT
theorem Zww {α:Type}(a l p q e:List α):(a++(l++(p++(q++e)))).Perm (q++(a++(l++(p++e)))) :=
 ((ZxI a (ZxI l (vU p q e))).trans (ZxI a (vU l q _))).trans (vU a q _)
theorem ZvS {α:Type}(a l p q r e:List α):(a++(l++(p++(q++(r++e))))).Perm (q++(r++(p++(a++(l++e))))):=by
 refine(Zww a l p q _).trans (ZxI q ?_);refine(Zww a l p r _).trans (ZxI r ?_);exact(ZxI a (vU l p e)).trans (vU a p _)
theorem ZwF {α:Type}(a l:List α)(x y z:α)(e:List α):(a++(l++e)).Sublist (a++(l++(x::(y::(z::e))))) :=
 (List.Sublist.refl a).append ((List.Sublist.refl l).append (((ZxC z e).trans (ZxC y _)).trans (ZxC x _)))
def Zwy (W:World)(m:List (Nat×Obj))(r:Option Fh)(e:Ending)(w':World):Prop:=match r with
 |some K=>∃ v bs,e = .returned (.tuple #[v,.int .i64 0])∧Hid (Vy v K bs)∧Own W (bs++m) w'
 |none=>e = .returned (.tuple #[.agg #[.slice none 0 0,.slice none 0 0,.bool false,.slice none 0 0],.int .i64 150])∧Own W m w'
theorem Zpv (c:Ch):4 * (c.C:Int)+4+4 * (c.S:Int)+(c.S:Int) * (c.O:Int)=(c.words:Int):=by
 unfold Ch.words
 push_cast
 rfl
theorem Zwn (h:Own W m w)(hc:sI c d e)(hw:xY W m B o N k g c) :
 Calls Tryz.prog 18 #[.slice (some ⟨B,o,none⟩) N k,cV c d e] w (Zwy W m (G8 c g)):=by
 obtain⟨n1,n2,n3,n4,n5,n6⟩:=hc.nums;have h1:=(h.new (.cells #[.int .i64 c.C,.int .i64 c.S,.int .i64 c.O,.int .i64 d,.int .i64 e,.int .u64 c.key] 24)).new (.cells #[.slice none 0 0,.slice none 0 0,.bool false,.slice none 0 0] 41);obtain⟨b,hb⟩:=Zx9 (w.heap.size);simp only[World.size_alloc]at h1;rw[hb]at h1;have h1:Own W (kU (b+1) (.slice none 0 0) (.slice none 0 0) false (.slice none 0 0)::(uH b c.C c.S c.O d e c.key::m)) _:=h1;obtain⟨y0,y1,y2,y3,y4,y5⟩:=tC h1.skip;have hN:=hw.n;have yP:=Zpv c;rw[← hN]at yP;have Wv:32≤N∨N<32:=by omega
 obtain⟨p,hp⟩:∃ p:Nat,4 * c.C=p:=⟨_,rfl⟩;have rY:4 * (c.C:Int)=(p:Int):=by omega
 obtain⟨p1,Oc⟩:∃ p1:Nat,p+1=p1:=⟨_,rfl⟩;have Oa:4 * (c.C:Int)+1=(p1:Int):=by omega
 have D9:p1<N:=by rw[hN];unfold Ch.words;omega
 have mD:(0:Int)≤(p1:Int):=by omega
 have WB:(p1:Int)<(N:Int):=by omega
 have oz:=ZkQ rY;have KJ:=ZkQ Oa;have N9:(0:Int)≤(p:Int):=by omega
 have jE:(p:Int)<(N:Int):=by omega
 obtain⟨x0,dw⟩:∃ x,g[p]?=some x:=⟨_,Zxp (by rw[hw.len];omega)⟩;obtain⟨x1,qQ⟩:∃ x,g[p1]?=some x:=⟨_,Zxp (by rw[hw.len];omega)⟩;have a0:at_ g (4 * c.C)=x0:=by unfold at_;rw[hp,Zxx,dw];rfl
 have a1:at_ g (4 * c.C+1)=x1:=by unfold at_;rw[hp,Oc,Zxx,qQ];rfl
 have HG:Hid (∀ ws,Own W m ws→ws.cell? ⟨B,o+p,none⟩=some (.int .u64 (x0:Int))∧ws.cell? ⟨B,o+p1,none⟩=some (.int .u64 (x1:Int))):=fun ws kX=>⟨hw.rd ws kX p x0 dw,hw.rd ws kX p1 x1 qQ⟩;have HX1:Hid (x1<18446744073709551616):=hw.CP x1 (Zxz qQ);obtain⟨lk,qN⟩:=Zx9 (decide (x0≠0));have D6:((x0:Int) != 0)=lk:=by
  rw[← qN];by_cases h0:x0=0
  ·subst h0;rfl
  ·have:(x0:Int)≠0:=by omega
   simp[h0]
 have hR:G8 c g=match upto (DI c g) c.C with
  |none=>none
  |some a=>match G5 c g with
   |none=>none
   |some l=>match upto (DF c g) c.S with
    |none=>none
    |some b=>some ⟨a,l,lk,b⟩:=by
  unfold G8;rw[a0,qN];rfl
 obtain⟨R,hRR⟩:=Zx9 (G8 c g);rw[hRR]at hR ⊢;have HR:=ZkQ hR;have HA1:=ZkQ a1;have HC:=ZkQ hc;have HW:=ZkQ hw;have Bo:=ZkQ yP;have H1:=ZkQ h1;clear Oc hN hp rY Oa dw qQ a0 a1 hw hc h1 h Wv qN hR hRR yP;unfold cV tF
 go_enter Tryz.func18,Tryz.ntmps18
 go_wp2_with fail
 refine(Apart.Zox HC.out.ok H1.out).mono ?_;rintro r w2 ⟨rfl,h2⟩;clear y0 y1 y2 y3 y4 y5;obtain⟨y0,y1,y2,y3,y4,y5⟩:=tC h2.skip;go_wp2_with fail
 refine(Apart.Zpw HC.out.ok h2).mono ?_;rintro r w3 ⟨rfl,h3⟩;rw[Bo.out];clear y0 y1 y2 y3 y4 y5 h2;obtain⟨y0,y1,y2,y3,y4,y5⟩:=tC h3.skip;have h4:=h3.new (.cells #[.slice (some ⟨B,o,none⟩) N k,.int .i64 c.C,.int .i64 c.S,.int .i64 c.O,.int .i64 d,.int .i64 e,.int .u64 c.key] 87);obtain⟨q,hq⟩:=Zx9 (w3.heap.size);rw[hq]at h4;have h4:Own W (iQ q B o N k c d e::(kU (b+1) (.slice none 0 0) (.slice none 0 0) false (.slice none 0 0)::(uH b c.C c.S c.O d e c.key::m))) _:=h4;obtain⟨v0,v1,v2,v3,v4,v5⟩:=tC h4.skip.skip;go_wp2_with fail
 refine(Apart.Zwz HC.out.ok h4).mono ?_;rintro r w5 ⟨rfl,h5⟩;rw[oz.out];clear y0 y1 y2 y3 y4 y5 v0 v1 v2 v3 v4 v5 hq h3 h4;obtain⟨q0,q1⟩:=HG.out _ h5.skip.skip.skip;have h6:=h5.new (.cells #[.slice none 0 0,.slice none 0 0,.bool lk,.slice none 0 0] 41);obtain⟨t,ht⟩:=Zx9 (w5.heap.size);rw[ht]at h6;have h6:Own W (kU t (.slice none 0 0) (.slice none 0 0) lk (.slice none 0 0)::(iQ q B o N k c d e::(kU (b+1) (.slice none 0 0) (.slice none 0 0) false (.slice none 0 0)::(uH b c.C c.S c.O d e c.key::m)))) _:=h6;obtain⟨y0,y1,y2,y3,y4,y5⟩:=tC h6.skip.skip.skip;go_wp2_with fail
 have H6:=ZkQ h6;clear q0 q1 ht h5 h6 y0 y1 y2 y3 y4 y5
 go_loopw [39] (fun iv wr=>∃ (i:Nat) (Ls:List qb) (sv:Value) (b0:List (Nat×Obj)),iv = .int .i64 i∧i≤c.C∧Hid (Ls.length=i)∧Hid (upto (DI c g) i=some (Ls.map (·.x)))∧Hid (QT Ls)∧Hid (JP sv Ls b0)∧Own W (b0++(lU Ls++(kU t sv (.slice none 0 0) lk (.slice none 0 0)::(iQ q B o N k c d e::(kU (b+1) (.slice none 0 0) (.slice none 0 0) false (.slice none 0 0)::(uH b c.C c.S c.O d e c.key::m)))))) wr) (fun iv _=>c.C - (intOf iv).toNat)
 case atStart=>exact⟨0,[],.slice none 0 0,[],rfl,by omega,rfl,rfl,(fun s hs=>by cases hs),gI.nil _ _ _,H6.out⟩
 case round =>
  clear H6;obtain⟨i,Ls,sv,b0,rfl,hi,kQ,Xz,Xy,R6,hr⟩:=hrel;obtain⟨A0,c0,CG,-,-⟩:=R6.out.slice;rw[kQ.out]at CG;subst CG;have R7:Hid (gI true 52 4 (.slice A0 i c0) i (G7 Ls) b0):=by have:=R6.out;unfold JP at this;rw[kQ.out]at this;exact this
  by_cases aK:i<c.C
  ·have Ws:(i:Int)<(c.C:Int):=by omega
   have bC:=Zvv hr HC.out (((HW.out.more (m':=[kU t (.slice A0 i c0) (.slice none 0 0) lk (.slice none 0 0),iQ q B o N k c d e,kU (b+1) (.slice none 0 0) (.slice none 0 0) false (.slice none 0 0),uH b c.C c.S c.O d e c.key])).more (m':=lU Ls)).more (m':=b0)) i aK;obtain⟨y0,y1,y2,y3,y4,y5,y6⟩:=iC hr.bD.bD.skip;cases rZ:DI c g i with
   |none =>
    rw[rZ]at bC;have Bn:=ZkQ bC;have rU:upto (DI c g) c.C=none:=Vp rZ aK;have hk:=HR.out;rw[rU]at hk;simp only at hk;subst hk;clear bC rZ rU;go_wp2_with fail
    refine Bn.out.mono ?_;rintro r w7 ⟨rfl,h7⟩;clear y0 y1 y2 y3 y4 y5 y6;have h8:=h7.alloc (.cells #[.int .i64 0,.slice none 0 0,.int .u64 0,.slice none 0 0] 52);obtain⟨⟨z0,z1,z2,z3⟩,⟨f0,f1,f2,f3⟩⟩:=vV h8.bD.bD.skip.skip;go_wp2_with fail
    have h9:=Q0 (yT:=.slice none 0 0) (hv':=.slice none 0 0) (l':=false) (jO:=.slice none 0 0) h8.bD.bD.skip.skip;obtain⟨⟨e0,e1,e2,e3⟩,-⟩:=vV h9;exact bodyPost_ret (v:=.tuple #[.agg #[.slice none 0 0,.slice none 0 0,.bool false,.slice none 0 0],.int .i64 150]) (by simp[results,Tryz.f18,go_sem,e0,e1,e2,e3]) rfl ⟨rfl,h9.skip.skip⟩
   |some x =>
    rw[rZ]at bC;have Bn:=ZkQ bC;have CV:=ZkQ (Zvd Xz.out rZ);clear bC rZ;go_wp2_with fail
    refine Bn.out.mono ?_;rintro r w7 ⟨lv,lb,pv,pb,rfl,KL,KP,h7⟩;obtain⟨A1,c1,Ox,-,-⟩:=KL.out.slice;obtain⟨A2,c2,xN,-,-⟩:=KP.out.slice;obtain⟨l1,Ik⟩:=Zx9 (x.list.length);obtain⟨l2,Ru⟩:=Zx9 (x.parts.length);rw[Ik]at Ox;rw[Ru]at xN;subst Ox xN;clear y0 y1 y2 y3 y4 y5 y6 Ik Ru;have h8:Own W (b0++(lb++(pb++(lU Ls++(kU t (.slice A0 i c0) (.slice none 0 0) lk (.slice none 0 0)::(iQ q B o N k c d e::(kU (b+1) (.slice none 0 0) (.slice none 0 0) false (.slice none 0 0)::(uH b c.C c.S c.O d e c.key::m)))))))) w7:=h7.perm (ZvL _ _ _ _);have h9:=h8.alloc (.cells #[.int .i64 x.aA,.slice A1 l1 c1,.int .u64 x.turn,.slice A2 l2 c2] 52);have Em:=ZkQ (h9.alloc (.cells #[.int .i64 x.aA,.slice A1 l1 c1,.int .u64 x.turn,.slice A2 l2 c2] 52));have aX:=Zvq (w7.alloc (.cells #[.int .i64 x.aA,.slice A1 l1 c1,.int .u64 x.turn,.slice A2 l2 c2] 52)) 52 [.int .i64 x.aA,.slice A1 l1 c1,.int .u64 x.turn,.slice A2 l2 c2];rw[World.size_alloc]at aX;have ni:=ZkQ aX;have jK:∀ u∈[Value.int .i64 x.aA,.slice A1 l1 c1,.int .u64 x.turn,.slice A2 l2 c2],u.oneCell'=true:=by
     intro u hu;simp at hu;rcases hu with rfl|rfl|rfl|rfl<;>rfl
    have FZ:=ZkQ jK;obtain⟨⟨z0,z1,z2,z3⟩,⟨f0,f1,f2,f3⟩⟩:=vV h9.bD.bD.bD.bD;clear aX jK h7 h8 h9;go_wp2_with (at_builtin;refine ZuY rfl _ _ 38 rfl rfl rfl _ ZvW Tryz.underlying38 rfl (by omega) (by omega) R7.out Em.out ni.out FZ.out (by omega) ?_;intro v' w' bs' k1 k2;have K1:=ZkQ k1;obtain⟨A9,c9,yN,-,-⟩:=k1.slice;subst yN;have K2:=ZkQ k2;clear z0 z1 z2 z3 f0 f1 f2 f3;obtain⟨⟨z0,z1,z2,z3⟩,⟨f0,f1,f2,f3⟩⟩:=vV k2.bD.bD.bD.bD;clear k1 k2)
    have aW:=(ZwN (yT:=.slice A9 (i+1) c9) (K2.out.perm (ZvM _ _ _ _ _ _)));refine⟨⟨i+1,Ls++[⟨x,.slice A1 l1 c1,lb,.slice A2 l2 c2,pb⟩],.slice A9 (i+1) c9,bs',by go_num,by omega,?_,?_,?_,?_,?_⟩,by simp[intOf];omega⟩
    ·show _=_
     rw[Zxw,kQ.out];rfl
    ·show _=_
     rw[List.map_append];exact CV.out
    ·show QT _
     intro s hs;rcases List.mem_append.1 hs with hs|hs
     ·exact Xy.out s hs
     ·rw[ZxE]at hs
      subst hs;exact⟨KL.out,KP.out⟩
    ·show JP _ _ _
     unfold JP;rw[Zxw,kQ.out,ZuO];exact K1.out
    ·refine aW.perm ?_
     rw[ZuL];exact ZvN _ _ _ _ _ _
  ·have hiC:i=c.C:=by omega
   subst hiC;have Ws:¬ (c.C:Int)<(c.C:Int):=(by omega);have gM:=fun ws (kX:Own W (b0++(lU Ls++(kU t (.slice A0 c.C c0) (.slice none 0 0) lk (.slice none 0 0)::(iQ q B o N k c d e::(kU (b+1) (.slice none 0 0) (.slice none 0 0) false (.slice none 0 0)::(uH b c.C c.S c.O d e c.key::m)))))) ws)=>Zwl kX HC.out (((HW.out.more (m':=[kU t (.slice A0 c.C c0) (.slice none 0 0) lk (.slice none 0 0),iQ q B o N k c d e,kU (b+1) (.slice none 0 0) (.slice none 0 0) false (.slice none 0 0),uH b c.C c.S c.O d e c.key])).more (m':=lU Ls)).more (m':=b0)) x1 HX1.out;have rW:chain yI (nI c g) c.S (c.S+1) [] x1=G5 c g:=by
    unfold G5;rw[HA1.out]
   rw[rW]at gM;have HRW:=ZkQ hr;obtain⟨y0,y1,y2,y3,y4,y5,y6⟩:=iC hr.bD.bD.skip;obtain⟨v0,v1,v2,v3,v4,v5⟩:=tC hr.bD.bD.skip.skip.skip;obtain⟨q0,q1⟩:=HG.out _ hr.bD.bD.skip.skip.skip.skip;have hk:=HR.out;rw[Xz.out]at hk;simp only at hk;clear rW hr;cases fE:G5 c g with
   |none =>
    rw[fE]at gM hk;simp only at hk;subst hk;have yV:=ZkQ gM;clear gM fE;go_wp2_with fail
    go_region_held3 (fun w'=>(w'.cell? ⟨q,0,none⟩=some (.slice (some ⟨B,o,none⟩) N k)∧w'.cell? ⟨q,1,none⟩=some (.int .i64 c.C)∧w'.cell? ⟨q,2,none⟩=some (.int .i64 c.S)∧w'.cell? ⟨q,3,none⟩=some (.int .i64 c.O)∧w'.cell? ⟨q,4,none⟩=some (.int .i64 d)∧w'.cell? ⟨q,5,none⟩=some (.int .i64 e)∧w'.cell? ⟨q,6,none⟩=some (.int .u64 c.key))∧(w'.cell? ⟨b,0,none⟩=some (.int .i64 c.C)∧w'.cell? ⟨b,1,none⟩=some (.int .i64 c.S)∧w'.cell? ⟨b,2,none⟩=some (.int .i64 c.O)∧w'.cell? ⟨b,3,none⟩=some (.int .i64 d)∧w'.cell? ⟨b,4,none⟩=some (.int .i64 e)∧w'.cell? ⟨b,5,none⟩=some (.int .u64 c.key))∧w'.cell? ⟨B,o+p1,none⟩=some (.int .u64 (x1:Int))) (first|(refine⟨⟨?_,?_,?_,?_,?_,?_,?_⟩,⟨?_,?_,?_,?_,?_,?_⟩,?_⟩<;>assumption)|go_keep)
     (first|(go_at_call 36;refine(Apart.Zvp HC.out.ok HRW.out.drew).mono ?_;rintro r w7 ⟨rfl,h7⟩;rw[KJ.out];obtain⟨y0,y1,y2,y3,y4,y5,y6⟩:=iC h7.bD.bD.skip;obtain⟨v0,v1,v2,v3,v4,v5⟩:=tC h7.bD.bD.skip.skip.skip;obtain⟨q0,q1⟩:=HG.out _ h7.bD.bD.skip.skip.skip.skip) |
       (go_at_call 35;refine(yV.out _ h7).mono ?_;rintro r w8 ⟨rfl,h8⟩;obtain⟨y0,y1,y2,y3,y4,y5,y6⟩:=iC h8.bD.bD.skip;obtain⟨v0,v1,v2,v3,v4,v5⟩:=tC h8.bD.bD.skip.skip.skip;obtain⟨q0,q1⟩:=HG.out _ h8.bD.bD.skip.skip.skip.skip))
    clear y0 y1 y2 y3 y4 y5 y6 v0 v1 v2 v3 v4 v5 q0 q1;obtain⟨⟨z0,z1,z2,z3⟩,⟨f0,f1,f2,f3⟩⟩:=vV h8.bD.bD.skip.skip;go_wp2_with fail
    have h9:=Q0 (yT:=.slice none 0 0) (hv':=.slice none 0 0) (l':=false) (jO:=.slice none 0 0) h8.bD.bD.skip.skip;obtain⟨⟨e0,e1,e2,e3⟩,-⟩:=vV h9;exact bodyPost_ret (v:=.tuple #[.agg #[.slice none 0 0,.slice none 0 0,.bool false,.slice none 0 0],.int .i64 150]) (by simp[results,Tryz.f18,go_sem,e0,e1,e2,e3]) rfl ⟨rfl,h9.skip.skip⟩
   |some sl =>
    rw[fE]at gM hk;simp only at hk;have yV:=ZkQ gM;have HK:=ZkQ hk;clear gM fE hk;go_wp2_with fail
    go_region_held3 (fun w'=>(w'.cell? ⟨q,0,none⟩=some (.slice (some ⟨B,o,none⟩) N k)∧w'.cell? ⟨q,1,none⟩=some (.int .i64 c.C)∧w'.cell? ⟨q,2,none⟩=some (.int .i64 c.S)∧w'.cell? ⟨q,3,none⟩=some (.int .i64 c.O)∧w'.cell? ⟨q,4,none⟩=some (.int .i64 d)∧w'.cell? ⟨q,5,none⟩=some (.int .i64 e)∧w'.cell? ⟨q,6,none⟩=some (.int .u64 c.key))∧(w'.cell? ⟨b,0,none⟩=some (.int .i64 c.C)∧w'.cell? ⟨b,1,none⟩=some (.int .i64 c.S)∧w'.cell? ⟨b,2,none⟩=some (.int .i64 c.O)∧w'.cell? ⟨b,3,none⟩=some (.int .i64 d)∧w'.cell? ⟨b,4,none⟩=some (.int .i64 e)∧w'.cell? ⟨b,5,none⟩=some (.int .u64 c.key))∧w'.cell? ⟨B,o+p1,none⟩=some (.int .u64 (x1:Int))) (first|(refine⟨⟨?_,?_,?_,?_,?_,?_,?_⟩,⟨?_,?_,?_,?_,?_,?_⟩,?_⟩<;>assumption)|go_keep)
     (first|(go_at_call 36;refine(Apart.Zvp HC.out.ok HRW.out.drew).mono ?_;rintro r w7 ⟨rfl,h7⟩;rw[KJ.out];obtain⟨y0,y1,y2,y3,y4,y5,y6⟩:=iC h7.bD.bD.skip;obtain⟨v0,v1,v2,v3,v4,v5⟩:=tC h7.bD.bD.skip.skip.skip;obtain⟨q0,q1⟩:=HG.out _ h7.bD.bD.skip.skip.skip.skip) |
       (go_at_call 35;refine(yV.out _ h7).mono ?_;rintro r w8 ⟨hv,b1,rfl,KH,h8⟩;obtain⟨y0,y1,y2,y3,y4,y5,y6⟩:=iC h8.bD.bD.bD.skip;obtain⟨v0,v1,v2,v3,v4,v5⟩:=tC h8.bD.bD.bD.skip.skip.skip;obtain⟨q0,q1⟩:=HG.out _ h8.bD.bD.bD.skip.skip.skip.skip))
    obtain⟨A3,c3,hhv,-,-⟩:=KH.out.slice;obtain⟨l3,hl3⟩:=Zx9 (sl.length);rw[hl3]at hhv;subst hhv;have h9:=h8.perm (ZvO _ _ _ _ _ _ _ _);have lX:=ZwO (hv':=.slice A3 l3 c3) h9;clear y0 y1 y2 y3 y4 y5 y6 v0 v1 v2 v3 v4 v5 q0 q1 hl3 h7 h8;obtain⟨⟨z0,z1,z2,z3⟩,⟨f0,f1,f2,f3⟩⟩:=vV h9;obtain⟨v0,v1,v2,v3,v4,v5⟩:=tC lX.skip.skip.skip;go_wp2_with fail
    obtain⟨wz,hwz⟩:=Zx9 (w8.setCell ⟨t,1,none⟩ (.slice A3 l3 c3));rw[hwz]at lX ⊢;have Em:=ZkQ lX;clear z0 z1 z2 z3 f0 f1 f2 f3 v0 v1 v2 v3 v4 v5 h9 lX hwz;obtain⟨w0,aL⟩:∃ w0:World,w0=wr:=⟨_,rfl⟩;subst aL
    go_loopw [75] (fun iv wr=>∃ (i:Nat) (Ll:List pg) (lv:Value) (b2:List (Nat×Obj)),iv = .int .i64 i∧i≤c.S∧Hid (Ll.length=i)∧Hid (upto (DF c g) i=some (Ll.map (·.x)))∧Hid (QS Ll)∧Hid (JO lv Ll b2)∧Own W (b2++(pq Ll++(kU t (.slice A0 c.C c0) (.slice A3 l3 c3) lk lv::(iQ q B o N k c d e::(kU (b+1) (.slice none 0 0) (.slice none 0 0) false (.slice none 0 0)::(uH b c.C c.S c.O d e c.key::(b1++(b0++(lU Ls++m))))))))) wr) (fun iv _=>c.S - (intOf iv).toNat)
    case atStart=>exact⟨0,[],.slice none 0 0,[],rfl,by omega,rfl,rfl,(fun s hs=>by cases hs),gI.nil _ _ _,Em.out⟩
    case round =>
     clear Em;obtain⟨i,Ll,lv,b2,rfl,jy,CR,CV,Xr,yZ,hr⟩:=hrel;obtain⟨A4,c4,hv4,-,-⟩:=yZ.out.slice;rw[CR.out]at hv4;subst hv4;have RO:Hid (gI true 49 5 (.slice A4 i c4) i (G6 Ll) b2):=(by have:=yZ.out;unfold JO at this;rw[CR.out]at this;exact this);by_cases NP:i<c.S
     ·have NQ:(i:Int)<(c.S:Int):=by omega
      have bC:=Zvu hr HC.out ((((((HW.out.more (m':=lU Ls)).more (m':=b0)).more (m':=b1)).more (m':=[kU t (.slice A0 c.C c0) (.slice A3 l3 c3) lk (.slice A4 i c4),iQ q B o N k c d e,kU (b+1) (.slice none 0 0) (.slice none 0 0) false (.slice none 0 0),uH b c.C c.S c.O d e c.key])).more (m':=pq Ll)).more (m':=b2)) i NP;obtain⟨y0,y1,y2,y3,y4,y5,y6⟩:=iC hr.bD.bD.skip;cases rZ:DF c g i with
      |none =>
       rw[rZ]at bC;have Bn:=ZkQ bC;have rU:upto (DF c g) c.S=none:=Vp rZ NP;have hk:=HK.out;rw[rU]at hk;simp only at hk;subst hk;clear bC rZ rU;go_wp2_with fail
       refine Bn.out.mono ?_;rintro r w9 ⟨rfl,h9⟩;clear y0 y1 y2 y3 y4 y5 y6;have uM:=h9.alloc (.cells #[.int .i64 0,.int .i64 0,.bool false,.bool false,.slice none 0 0] 49);obtain⟨⟨z0,z1,z2,z3⟩,⟨f0,f1,f2,f3⟩⟩:=vV uM.bD.bD.skip.skip;go_wp2_with fail
       have zV:=Q0 (yT:=.slice none 0 0) (hv':=.slice none 0 0) (l':=false) (jO:=.slice none 0 0) uM.bD.bD.skip.skip;obtain⟨⟨e0,e1,e2,e3⟩,-⟩:=vV zV;exact bodyPost_ret (v:=.tuple #[.agg #[.slice none 0 0,.slice none 0 0,.bool false,.slice none 0 0],.int .i64 150]) (by simp[results,Tryz.f18,go_sem,e0,e1,e2,e3]) rfl ⟨rfl,zV.skip.skip.bD.bD.bD⟩
      |some x =>
       rw[rZ]at bC;have Bn:=ZkQ bC;have Sa:=ZkQ (Zvd CV.out rZ);clear bC rZ;go_wp2_with fail
       refine Bn.out.mono ?_;rintro r w9 ⟨lv,lb,rfl,KL,h9⟩;obtain⟨A1,c1,Ox,-,-⟩:=KL.out.slice;obtain⟨l1,Ik⟩:=Zx9 (x.first.length);rw[Ik]at Ox;subst Ox;clear y0 y1 y2 y3 y4 y5 y6 Ik;have uM:Own W (b2++(lb++(pq Ll++(kU t (.slice A0 c.C c0) (.slice A3 l3 c3) lk (.slice A4 i c4)::(iQ q B o N k c d e::(kU (b+1) (.slice none 0 0) (.slice none 0 0) false (.slice none 0 0)::(uH b c.C c.S c.O d e c.key::(b1++(b0++(lU Ls++m)))))))))) w9:=h9.swap;have zV:=uM.alloc (.cells #[.int .i64 x.counts.ay,.int .i64 x.counts.objects,.bool x.counts.frozen,.bool x.counts.live,.slice A1 l1 c1] 49);have H13:=ZkQ (zV.alloc (.cells #[.int .i64 x.counts.ay,.int .i64 x.counts.objects,.bool x.counts.frozen,.bool x.counts.live,.slice A1 l1 c1] 49));have aX:=Zvq (w9.alloc (.cells #[.int .i64 x.counts.ay,.int .i64 x.counts.objects,.bool x.counts.frozen,.bool x.counts.live,.slice A1 l1 c1] 49)) 49 [.int .i64 x.counts.ay,.int .i64 x.counts.objects,.bool x.counts.frozen,.bool x.counts.live,.slice A1 l1 c1];rw[World.size_alloc]at aX;have ni:=ZkQ aX;have jK:∀ u∈([.int .i64 x.counts.ay,.int .i64 x.counts.objects,.bool x.counts.frozen,.bool x.counts.live,.slice A1 l1 c1]:List Value),u.oneCell'=true:=by
        intro u hu;simp at hu;rcases hu with rfl|rfl|rfl|rfl|rfl<;>rfl
       have FZ:=ZkQ jK;obtain⟨⟨z0,z1,z2,z3⟩,⟨f0,f1,f2,f3⟩⟩:=vV zV.bD.bD.bD;clear aX jK h9 uM zV;go_wp2_with (at_builtin;refine ZuY rfl _ _ 39 rfl rfl rfl _ ZvU Tryz.underlying39 rfl (by omega) (by omega) RO.out H13.out ni.out FZ.out (by omega) ?_;intro v' w' bs' k1 k2;have K1:=ZkQ k1;obtain⟨A9,c9,yN,-,-⟩:=k1.slice;subst yN;have K2:=ZkQ k2;clear z0 z1 z2 z3 f0 f1 f2 f3;obtain⟨⟨z0,z1,z2,z3⟩,⟨f0,f1,f2,f3⟩⟩:=vV k2.bD.bD.bD;clear k1 k2)
       have aW:=(ZwP (jO:=.slice A9 (i+1) c9) (K2.out.perm (ZvP _ _ _ _ _)));refine⟨⟨i+1,Ll++[⟨x,.slice A1 l1 c1,lb⟩],.slice A9 (i+1) c9,bs',by go_num,by omega,?_,?_,?_,?_,?_⟩,by simp[intOf];omega⟩
       ·show _=_
        rw[Zxw,CR.out];rfl
       ·show _=_
        rw[List.map_append];exact Sa.out
       ·show QS _
        intro s hs;rcases List.mem_append.1 hs with hs|hs
        ·exact Xr.out s hs
        ·rw[ZxE]at hs
         subst hs;exact KL.out
       ·show JO _ _ _
        unfold JO;rw[Zxw,CR.out,ZuN];exact K1.out
       ·refine aW.perm ?_
        rw[ZuK];exact ZvQ _ _ _ _ _
     ·have hiS:i=c.S:=by omega
      subst hiS;have NQ:¬ (c.S:Int)<(c.S:Int):=(by omega);have hk:=HK.out;rw[CV.out]at hk;simp only at hk;have ku:=ZkQ hk;have IP:=hr.bD.bD;obtain⟨⟨z0,z1,z2,z3⟩,⟨f0,f1,f2,f3⟩⟩:=vV IP;obtain⟨⟨g0,g1,g2,g3⟩,⟨u0,u1,u2,u3⟩⟩:=vV IP.skip.skip;clear hk;go_wp2_with fail
      have hx:=hr.perm (ZvR _ _ _ _ _ _);have h9:=Q0 (yT:=.slice A0 c.C c0) (hv':=.slice A3 l3 c3) (l':=lk) (jO:=.slice A4 c.S c4) hx;obtain⟨⟨e0,e1,e2,e3⟩,-⟩:=vV h9;rw[ku.out];refine bodyPost_ret (v:=.tuple #[.agg #[.slice A0 c.C c0,.slice A3 l3 c3,.bool lk,.slice A4 c.S c4],.int .i64 0]) (by simp[results,Tryz.f18,go_sem,e0,e1,e2,e3]) rfl ?_;refine⟨_,b0++(lU Ls++(b1++(b2++pq Ll))),rfl,⟨Ls,.slice A0 c.C c0,b0,.slice A3 l3 c3,b1,Ll,.slice A4 c.S c4,b2,rfl,rfl,Xy.out,R6.out,KH.out,rfl,Xr.out,yZ.out,rfl⟩,?_⟩;rw[ZxG,ZxG,ZxG,ZxG];exact(h9.skip.sub (ZwF _ _ _ _ _ _)).perm (ZvS _ _ _ _ _ _)
end
end See
end Go.Proofs.YtfcpdlbkmkhhcaaGreatDoor
