/-
  Texts of this claim, joined. No condition.
-/
import Derived.Test.YtfcpdlbkmkhhcaaGreatDoorCh1
import Derived.Test.YtfcpdlbkmkhhcaaGreatDoorCh14
import Derived.Test.YtfcpdlbkmkhhcaaGreatDoorCh18
import Derived.Test.YtfcpdlbkmkhhcaaGreatDoorCh13
import Derived.Test.YtfcpdlbkmkhhcaaGreatDoorCh12
namespace Go.Proofs.YtfcpdlbkmkhhcaaGreatDoor
set_option maxRecDepth 100000
set_option maxHeartbeats 40000000
namespace Ex
open Go Mem See
open Go.RowKit
section
structure Sh where
 slots:List (Bool×Bool)
 shelf:Bool
 mQ:List Bool
def Sh.n (s:Sh):Nat:=s.slots.length
def Zt8 (σ:Nat→Int)(q:Nat)(L:List Int):Prop:=(σ (ln q)).toNat=L.length∧∀ (i:Nat) x,L[i]?=some x→σ (lc q i 0)=x
def Ztl (ρ:Ren)(nm:Nat)(ds:List (Nat×Obj)):Prop:=∀ (i:Nat) d,ds[i]?=some d→ρ (nm+i)=some (d.1,ji d.2)
def QF [au](ρ:Ren):List TB→List (Nat×Obj)→Prop
 |[],[]=>True
 |t::ts,d::ds=>TR ρ t (ji d.2) (some d.2)∧QF ρ ts ds
 |_,_=>False
theorem QF.get [au]{ρ:Ren}:∀ {a:List TB} {x:List (Nat×Obj)},QF ρ a x→∀ (i:Nat) t d,a[i]?=some t→x[i]?=some d→TR ρ t (ji d.2) (some d.2)
 |[],[],_,_,_,_,h,_=>by simp at h
 |[],_::_,h,_,_,_,_,_=>h.elim
 |_::_,[],h,_,_,_,_,_=>h.elim
 |t::a,d::x,h,0,_,_,h1,h2=>by
  simp only[ZxN,ZlP]at h1 h2;subst h1;subst h2;exact h.1
 |t::a,d::x,h,i+1,_,_,h1,h2=>QF.get h.2 i _ _ (by simpa using h1) (by simpa using h2)
variable [au]
variable {c:Ch}{g:List Nat}{K:Fh}{s:Sh}{b q qW nW:Nat}
end
end Ex
namespace Ex
open Go Mem See Fast
open Go.RowKit
section
abbrev kS (g:List Nat):List Int:=g.map fun (x:Nat)=>(x:Int)
theorem YR {g:List Nat}{i x:Nat}(h:g[i]?=some x):(kS g)[i]?=some (x:Int):=by simp[kS,h]
theorem La (g:List Nat):(kS g).length=g.length:=by simp[kS]
variable [au]
structure ZtT (σ:Nat→Int)(L:SE)(g:List Int):Prop where
 len:L.iR σ=g.length
 at_:∀ (i:Nat) x,g[i]?=some x→L.jd σ i 0=x
theorem TI {ρ:Ren}{L:SE}{b:Nat}{g:List Nat}(h:ZtT au.σ L (kS g)):TR ρ (.recs L [.int .u64] 22) (ji (wB b g).2) (some (wB b g).2):=by
 refine⟨l9 g,rfl,rfl,?_,fun r j k hr hk => ?_⟩
 ·simp only[h.len,ZxJ,List.length_nil,Nat.zero_add,Nat.mul_one,La]
  simp[ji,wB,l9,words]
 ·rw[h.len,La]at hr
  have hj:j=0:=by
   have:=(List.getElem?_eq_some_iff.1 hk).1;simp only[ZxJ,List.length_nil]at this;omega
  subst hj;simp only[ZxN,ZlP]at hk;subst hk;simp only[ZxJ,List.length_nil,Nat.zero_add,Nat.mul_one,Nat.add_zero];rw[h.at_ r _ (YR (Zxp hr)),TK (Zxp hr)];rfl
end
end Ex
namespace Ex
open Go
def one (L:List Int):List (List Int):=L.map fun x=>[x]
theorem Qc (L:List Int):(one L).length=L.length:=by simp[one]
theorem Qn (L:List Int)(e j:Nat):(((one L)[e]?).getD [])[j]?.getD 0=if j=0 then L.getD e 0 else 0:=by
 unfold one;rw[List.getElem?_map,Zxx];cases h:L[e]? with
 |none=>cases j<;>simp
 |some x=>cases j<;>simp
structure kD (σ:Nat→Int)(L:SE)(g:List (List Int)):Prop where
 len:L.iR σ=g.length
 at_:∀ e j,j<64→L.jd σ e j=((g[e]?).getD [])[j]?.getD 0
section
variable {v v':Nat→Int}{l l':Nat→List (List Int)}{σ:Nat→Int}{g:List Int}{L:SE}
theorem kD.is (h:kD σ L (one g)):ZtT σ L g :=
 ⟨by rw[h.len,Qc],fun i x hx=>by rw[h.at_ i 0 (by omega),Qn,if_pos rfl,Zxx,hx];rfl⟩
theorem kD.var {q:Nat}(hq:q<64):kD (sg v l) (.dA q) (l q) :=
 ⟨by simp only[SE.iR];rw[ZtJ hq,Zx2],fun e j hj=>by simp only[SE.jd];rw[ZtI hq hj]⟩
theorem kD.set {e x:SE}{i:Nat}{y:Int}(h:kD σ L (one g))(he:e.ev σ=(i:Int))(hx:x.ev σ=y)(hi:i<g.length):kD σ (.jY L e 0 x) (one (g.set i y)):=by
 refine⟨by simp only[SE.iR,h.len,Qc,List.length_set],fun a j hj => ?_⟩;simp only[SE.jd,he,hx,Zx2];rw[Qn,h.at_ a j hj,Qn,Zxx,Zxx,List.getElem?_set];by_cases NA:j=0
 ·by_cases ha:a=i
  ·subst ha
   rw[if_pos ⟨rfl,NA⟩,if_pos NA,if_pos rfl,if_pos hi];rfl
  ·rw[if_neg (show ¬ (a=i∧j=0) from fun h=>ha h.1),if_neg (show ¬ i=a from fun h=>ha h.symm)]
 ·rw[if_neg (fun h=>NA h.2),if_neg NA,if_neg NA]
end
theorem wS {x:Int}(h0 : -9223372036854775808≤x)(h1:x<9223372036854775808):IntKind.i64.wrap x=x:=by
 rw[IntKind.wrap_i64];omega
theorem Zok {x:Int}(h0:0≤x)(h1:x<18446744073709551616):IntKind.u64.wrap x=x:=by
 rw[IntKind.wrap_u64];omega
end Ex
namespace Cw
open Go Ex Mem
open Go.RowKit
section
theorem Sj [au]{ρ:Ren}{L:SE}{n:Nat}{g':List Nat}{o:Obj}(hL:kD au.σ L (one (kS g')))(hn:g'.length=n)(h:TR ρ (.recs L [.int .u64] 22) n (some o)):o=(wB 0 g').2:=by
 obtain⟨cur,h1,h2,h3,h4⟩:=h;simp only[ZlP]at h1;subst h1;have hl:L.iR au.σ=n:=by rw[hL.len,Qc,La,hn]
 have:cur=l9 g':=by
  apply Array.ext
  ·rw[h2,← hn]
   simp[l9,words]
  ·intro i pG jy
   have hig:i<g'.length:=(by rw[hn,← h2];exact pG);have h5:=h4 i 0 (.int .u64) (by rw[hl];omega) rfl;simp only[ZxJ,List.length_nil,Nat.zero_add,Nat.mul_one,Nat.add_zero]at h5;rw[hL.is.at_ i _ (YR (Zxp hig))]at h5;have h6:=TK (Zxp hig);rw[ZxH pG]at h5;rw[ZxH jy]at h6;rw[ZxZ h5,ZxZ h6];rfl
 rw[this];rfl
noncomputable def eT (V:Nat→Int)(g:List Nat):Nat→Int:=sg V fun _=>one (kS g)
theorem jk {V:Nat→Int}{g:List Nat}{i:Nat}(h:i<2048):(v i).ev (eT V g)=V i:=by simp only[v,SE.ev,eT,Zuf h]
abbrev ΩW:Nat→Nat→Nat→Obj→Prop:=fun _ _ _ _=>True
theorem Wy.calls {x:Wy}(hr:x.run=true){V:Nat→Int}{g g':List Nat}{cnt:Nat}(hk:Jy aJ.gs [] j6 Tryz.prog (eT V g) ΩW (FT x.pU))(ok:∀ q∈x.fs++fC,q.1.ev (eT V g)=q.2)(fE:AV.shuts x.res=true)
 (yK:V 30=(g.length:Int)) (MS:V 31=(cnt:Int)) (hc:cnt<1000000000) (kN:g.length≤4096) (hL:kD (eT V g) x.g (one (kS g'))) (Ag:g'.length=g.length)
 {W w:World} {m:List (Nat×Obj)} {b0 b1:Nat} (ql:jR aJ.gs w) (hgW:∀ b l,sP b aJ.gs=some l→b<W.heap.size) (hO:Own W (mB b0 b1 g.length cnt::wB b1 g::m) w)
 {c t:Value} (V4:c=Ex.valOf (eT V g) JW) (WV:t=Ex.valOf (eT V g) (.agg (Du x.pc))) :
 Calls Tryz.prog x.f #[.pointer (some ⟨b0,0,none⟩),c,t] w fun e w'=>e = .returned (.tuple #[.agg (Ex.eU (eT V g) x.res).toArray,.int .i64 0])∧Own W (mB b0 b1 g.length (cnt+1)::wB b1 g'::m) w':=by
 subst V4;subst WV
 letI N:au:=nums aJ.gs [] j6 (eT V g) ΩW (x.fs++fC) ok
 have e30:(v 30).ev (eT V g)=(g.length:Int):=(jk (by omega)).trans yK;have e31:(v 31).ev (eT V g)=(cnt:Int):=(jk (by omega)).trans MS;have VD:(add (v 31) (l 1)).ev (eT V g)=((cnt+1:Nat):Int):=by
  show IntKind.i64.wrap ((v 31).ev (eT V g)+1)=_;rw[e31,wS (by omega) (by omega)];omega
 have dn:(l9 g).size=g.length:=by simp[l9,words]
 have kg:kD (eT V g) (.dA 0) (one (kS g)):=kD.var (by omega);have r0:rD 3002 3003 b0 2 b1 (l9 g).size 3002=some (b0,2):=if_pos rfl;have r1:rD 3002 3003 b0 2 b1 (l9 g).size 3003=some (b1,(l9 g).size):=by
  unfold rD;rw[if_neg (by omega),if_pos rfl]
 refine(TD (by kernel_rfl) hk (by omega) (by show 3002<3004;omega) (by show 3003<3004;omega) (by show 3004≤1000000;omega) ok hr
  (K:=fun a post=>a = .gV [.agg x.res,.int .i64 0]∧post=vQ (add (v 31) (l 1)) x.g) ⟨_,_,rfl,rfl,rfl⟩ ql hgW hO ?_ ?_ ?_).mono ?_
 ·refine⟨_,rfl,rfl,Zxt _,fun i v hi => ?_⟩
  match i with
  |0 =>
   simp only[ZxN,ZlP]at hi;subst hi;refine⟨rfl,.slice (some ⟨b1,0,none⟩) g.length g.length,rfl,?_⟩;unfold VR;exact⟨b1,_,g.length,g.length,r1,rfl,Zxt _,by unfold maxLen;omega,by omega,e30⟩
  |1 =>
   simp only[List.getElem?_cons_succ,ZxN,ZlP]at hi;subst hi;refine⟨rfl,.int .i64 (cnt:Int),rfl,?_⟩;unfold si VR;exact congrArg (Value.int .i64) e31.symm
  |i+2=>simp at hi
 ·exact TI (b:=b1) kg.is
 ·refine aH.cons ?_ (aH.cons (VR.wU rfl) (aH.cons (VR.wU rfl) aH.nil))
  unfold VR;exact⟨b0,_,r0,rfl⟩
 ·rintro e w' ⟨fs',ok',a,p0,p1,ρ',y,IZ,I4,⟨rfl,hp⟩,rfl,q0,q1,hv,T0,T1,h'⟩
  simp only[vQ,List.cons.injEq,ZxA,true_and,and_true]at hp;obtain⟨rfl,rfl⟩:=hp
  letI N':au:=nums aJ.gs [] j6 (eT V g) ΩW fs' ok'
  have hv:=VR.shut hv (by simp only[AV.shut,AV.shuts,fE]);have h1:=Sj (n:=g.length) hL Ag (by rw[← dn];exact T1);obtain⟨cur,c1,c2,c3,c4⟩:=T0;simp only[ZlP]at c1;subst c1;obtain⟨-,y0,FP,vk⟩:=c4 0 _ rfl;obtain⟨-,y1,CL,Ba⟩:=c4 1 _ rfl;unfold VR at vk;unfold si VR at Ba;obtain⟨b,z,len,cc,hb,rfl,d1,d2,d3,d4⟩:=vk;rw[q1]at hb;cases hb;have d4':(g.length:Int)=len:=e30.symm.trans d4;have d3':cc * 1=g.length:=d3.trans dn;have hlen:len=g.length:=by omega
  have Hy:cc=g.length:=by omega
  subst hlen;subst Hy;have dJ:cur=#[.slice (some ⟨b1,0,none⟩) g.length g.length,.int .i64 ((cnt+1:Nat):Int)]:=by
   apply Array.ext
   ·exact c2
   ·intro i pG jy
    match i with
    |0 =>
     rw[ZxH pG]at FP;exact ZxZ FP
    |1 =>
     rw[ZxH pG]at CL;rw[ZxZ CL,Ba];exact congrArg (Value.int .i64) VD
    |i+2 =>
     have:cur.size=2:=c2;omega
  subst dJ;subst h1;refine⟨?_,h'⟩;rw[hv];rfl
end
end Cw
namespace Cw
open Go Ex Mem See
open Go.RowKit
section
variable {σ:Nat→Int}{x y:SE}{a b:Nat}{V:Nat→Int}{g:List Nat}
theorem mM {n:Int}:(l n).ev σ=n:=by simp only[l,SE.ev]
theorem ZpC {p q:Int}(hx:x.ev σ=p)(hy:y.ev σ=q)(h0 : -1000000000000≤p+q)(h1:p+q<1000000000000):(add x y).ev σ=p+q:=by
 simp only[add,SE.ev,hx,hy];exact wS (by omega) (by omega)
theorem addN (hx:x.ev σ=(a:Int))(hy:y.ev σ=(b:Int))(ha:a≤100000000000)(hb:b≤100000000000):(add x y).ev σ=((a+b:Nat):Int):=by
 rw[ZpC hx hy (by omega) (by omega)];omega
theorem lN {n:Nat}:(l (n:Int)).ev σ=(n:Int):=mM
theorem UW (hx:x.ev σ=(a:Int))(ha:a≤100000000000):(add x (l 1)).ev σ=((a+1:Nat):Int):=addN hx (lN (n:=1)) ha (by omega)
theorem mulN {p q:Nat}(hx:x.ev σ=(p:Int))(hy:y.ev σ=(q:Int))(ha:p≤100000)(hb:q≤100000):(SE.iH .mul x y).ev σ=((p * q:Nat):Int):=by
 simp only[SE.ev,hx,hy];have:p * q≤100000 * 100000:=Nat.mul_le_mul ha hb;have h2:(p:Int) * (q:Int)=((p * q:Nat):Int):=by push_cast;rfl
 rw[h2];exact wS (by omega) (by omega)
theorem Znm (hx:x.ev σ=(a:Int))(ha:a≤100000):(UX x).ev σ=((4 * a:Nat):Int):=mulN (lN (n:=4)) hx (by omega) ha
theorem Zra (hx:x.ev σ=(a:Int))(ha:a≤100000):(ZsS x).ev σ=((4 * a+2:Nat):Int):=addN (Znm hx ha) (lN (n:=2)) (by omega) (by omega)
theorem LJ (h0:(v 0).ev σ=(a:Int))(ha:a≤8):JA.ev σ=((4 * a:Nat):Int):=mulN (lN (n:=4)) h0 (by omega) (by omega)
theorem Zpl (h0:(v 0).ev σ=(a:Int))(ha:a≤8):ZpT.ev σ=((4 * a+1:Nat):Int):=addN (LJ h0 ha) (lN (n:=1)) (by omega) (by omega)
theorem ZqO (h0:(v 0).ev σ=(a:Int))(ha:a≤8):ZsA.ev σ=((4 * a+2:Nat):Int):=addN (LJ h0 ha) (lN (n:=2)) (by omega) (by omega)
theorem ZA (h0:(v 0).ev σ=(a:Int))(ha:a≤8)(hx:x.ev σ=(b:Int))(hb:b≤1000):(UH x).ev σ=((4 * a+4+4 * b:Nat):Int):=addN (addN (LJ h0 ha) (lN (n:=4)) (by omega) (by omega)) (mulN (lN (n:=4)) hx (by omega) (by omega)) (by omega) (by omega)
theorem Zq1 (h0:(v 0).ev σ=(a:Int))(ha:a≤8)(hx:x.ev σ=(b:Int))(hb:b≤1000):(ZsQ x).ev σ=((4 * a+4+4 * b+2:Nat):Int):=addN (ZA h0 ha hx hb) (lN (n:=2)) (by omega) (by omega)
theorem ZqS {S O o:Nat}(h0:(v 0).ev σ=(a:Int))(ha:a≤8)(h1:(v 1).ev σ=(S:Int))(hS:S≤32)(h2:(v 2).ev σ=(O:Int))(hO:O≤16)(hx:x.ev σ=(b:Int))(hb:b≤1000)(hy:y.ev σ=(o:Int))(ho:o≤1000) :
 (ZsG x y).ev σ=((4 * a+4+4 * S+b * O+o:Nat):Int):=by
 have hm:b * O≤1000 * 16:=Nat.mul_le_mul hb hO;exact addN (addN (addN (addN (LJ h0 ha) (lN (n:=4)) (by omega) (by omega)) (mulN (lN (n:=4)) h1 (by omega) (by omega)) (by omega) (by omega)) (mulN hx h2 (by omega) (by omega)) (by omega) (by omega)) hy (by omega) (by omega)
theorem ZsD {key:Nat}(h5:(v 5).ev σ=(key:Int))(hx:x.ev σ=(b:Int))(_hb:b≤1000):(Vh x).ev σ=(See.keyOf key b:Nat):=by
 simp only[Vh,l,SE.ev,h5,hx,IntKind.wrap_u64];unfold See.keyOf;omega
theorem Zuj (hx:x.ev (eT V g)=(a:Int)):(w x).ev (eT V g)=((g.getD a 0:Nat):Int):=by
 have h0:kD (eT V g) (.dA 0) (one (kS g)):=kD.var (by omega);show(SE.dA 0).jd (eT V g) (x.ev (eT V g)).toNat 0=_;rw[hx,Zx2,h0.at_ a 0 (by omega),Qn,if_pos rfl,Zxx,Zxx];cases h:g[a]? with
 |none=>simp[kS,h]
 |some z=>simp[kS,h]
def Facts (σ:Nat→Int)(fs:List (dB×Bool)):Prop:=∀ q∈fs,q.1.ev σ=q.2
theorem Facts.nil:Facts σ []:=fun _ h=>by cases h
theorem Facts.app {f1 f2:List (dB×Bool)}(h1:Facts σ f1)(h2:Facts σ f2):Facts σ (f1++f2):=fun q hq=>(List.mem_append.1 hq).elim (h1 q) (h2 q)
theorem Facts.cons {p:dB×Bool}{f:List (dB×Bool)}(h1:p.1.ev σ=p.2)(h2:Facts σ f):Facts σ (p::f):=fun q hq=>(List.mem_cons.1 hq).elim (fun h=>h ▸ h1) (h2 q)
theorem Cf {p q:Int}(hx:x.ev σ=p)(hy:y.ev σ=q)(h:p<q):Facts σ [(.lt x y,true)]:=Facts.cons (by simp only[dB.ev,hx,hy,decide_eq_true_eq];exact h) Facts.nil
theorem GR {p q:Int}(hx:x.ev σ=p)(hy:y.ev σ=q)(h:q≤p):Facts σ [(.lt x y,false)]:=Facts.cons (by simp only[dB.ev,hx,hy,decide_eq_false_iff_not];omega) Facts.nil
theorem GQ {p q:Int}(hx:x.ev σ=p)(hy:y.ev σ=q)(h:p=q):Facts σ [(.eq x y,true)]:=Facts.cons (by simp only[dB.ev,hx,hy,h,beq_self_eq_true]) Facts.nil
theorem E5 {p q:Int}(hx:x.ev σ=p)(hy:y.ev σ=q)(h:p≠q):Facts σ [(.eq x y,false)]:=Facts.cons (by simp only[dB.ev,hx,hy];exact beq_eq_false_iff_ne.2 h) Facts.nil
theorem p9 {p q r:Int}(hx:x.ev σ=p)(h:q≤p∧p<r):Facts σ (Bh x q r):=Facts.app (f1:=[_]) (f2:=[_]) (GR hx mM h.1) (Cf hx mM h.2)
theorem Ma:(SE.len (.dA 0)).ev (eT V g)=(g.length:Int):=by
 have h0:kD (eT V g) (.dA 0) (one (kS g)):=kD.var (by omega);show((SE.iR (eT V g) (.dA 0):Nat):Int)=_;rw[h0.len,Qc,La]
theorem Qr {p q:Int}(hx:x.ev σ=p)(hy:y.ev σ=q)(h0 : -1000000000000≤p - q)(h1:p - q<1000000000000):(SE.iH .sub x y).ev σ=p - q:=by
 simp only[SE.ev,hx,hy];exact wS (by omega) (by omega)
theorem Zr4 (yK:(v 30).ev (eT V g)=(g.length:Int))(hg:g.length≤4096)(hx:x.ev (eT V g)=(a:Int))(ha:a<g.length):Facts (eT V g) (acc x 1) :=
 Facts.app (f2:=[]) (Facts.app (f1:=[_]) (GR hx mM (by omega)) (Facts.app (f1:=[_]) (GR (Qr yK mM (by omega) (by omega)) hx (by omega)) (Facts.app (f1:=[_]) (Cf hx yK (by omega)) (Cf hx Ma (by omega))))) Facts.nil
theorem Zr5 (yK:(v 30).ev (eT V g)=(g.length:Int))(hg:g.length≤4096)(hx:x.ev (eT V g)=(a:Int))(ha:a+1<g.length):Facts (eT V g) (acc x 2) :=
 have h1:=UW hx (by omega)
 Facts.app (Facts.app (f1:=[_]) (GR hx mM (by omega)) (Facts.app (f1:=[_]) (GR (Qr yK mM (by omega) (by omega)) hx (by omega)) (Facts.app (f1:=[_]) (Cf hx yK (by omega)) (Cf hx Ma (by omega)))))
  (Facts.app (f1:=[_]) (GR h1 mM (by omega)) (Facts.app (f1:=[_]) (Cf h1 yK (by omega)) (Cf h1 Ma (by omega))))
theorem TU {L:SE}{g1:List Nat}{z:Nat}(hL:kD σ L (one (kS g1)))(hx:x.ev σ=(a:Int))(hy:y.ev σ=(z:Int))(ha:a<g1.length):kD σ (.jY L x 0 y) (one (kS (g1.set a z))):=by
 have:=hL.set hx hy (by rw[La];exact ha);have e:(kS g1).set a (z:Int)=kS (g1.set a z):=by
  unfold kS;rw[List.map_set]
 rw[e]at this;exact this
theorem aR:kD (eT V g) (.dA 0) (one (kS g)):=kD.var (by omega)
end
end Cw
namespace Cw
open Go See
structure Tk where
 job:Int
 aB:Nat
 pc:Int
 fin:Int:=0
 want:Int:=0
 aA:Int:=0
 obj:Int:=0
 H:Nat:=0
 T:Nat:=0
 F:Nat:=0
 K:Nat:=0
 N:Nat:=0
 last:Int:=0
 many:Int:=0
 bS:Int:=0
 back:Int:=0
 for_:Int:=0
deriving DecidableEq,Repr
abbrev Out:=Option (Tk×List Nat)
abbrev jC:Nat:=18446744073709551616
def rd (g:List Nat)(i:Nat)(k:Nat→Out):Out:=match g[i]? with
 |some x=>k x
 |none=>none
def need (p:Prop)[Decidable p](k:Out):Out:=if p then k else none
theorem rd_some {g:List Nat}{i:Nat}{k:Nat→Out}{r:Tk×List Nat}(h:rd g i k=some r):∃ x,g[i]?=some x∧k x=some r:=by
 unfold rd at h;split at h
 ·exact⟨_,by assumption,h⟩
 ·cases h
theorem eY {p:Prop}[Decidable p]{k:Out}{r:Tk×List Nat}(h:need p k=some r):p∧k=some r:=by
 unfold need at h;split at h
 ·exact⟨by assumption,h⟩
 ·cases h
def mK (g:List Nat)(i old sec x y:Nat)(yes no:Tk):Out:=rd g i fun p=>rd g (i+1) fun q=>if p=old∧q=sec then some (yes,(g.set i x).set (i+1) y) else some (no,g)
def wr (g:List Nat)(i x:Nat)(t:Tk):Out:=rd g i fun _=>some (t,g.set i x)
section
variable (c:Ch)(mn cp:Nat)(g:List Nat)(t:Tk)
abbrev jc:Nat:=4 * c.C
abbrev o7:Nat:=4 * c.C+1
abbrev qa:Nat:=4 * c.C+2
abbrev kK (a:Nat):Nat:=4 * a
abbrev nD (a:Nat):Nat:=4 * a+2
abbrev fq (s:Nat):Nat:=4 * c.C+4+4 * s
abbrev mO (s:Nat):Nat:=fq c s+2
abbrev o9 (s o:Nat):Nat:=4 * c.C+4+4 * c.S+s * c.O+o
def iN (k:Nat→Out):Out:=need (0≤t.aA∧t.aA<c.S) (k t.aA.toNat)
def wZ (x:Int)(k:Nat→Out):Out:=need (0≤x∧x<c.O) (k x.toNat)
def Dq (w:Nat)(k:Int→Int→Out):Out:=match sO w with
 |some p=>k p.1 p.2
 |none=>none
def ut (w:Nat)(k:Int→Int→Out):Out:=match partOf w with
 |some p=>k p.1 p.2
 |none=>none
def sW (w:Nat)(k:Nat→Nat→Bool→Out):Out:=match sM w with
 |some p=>if p.live=true∧1≤p.objects then k p.ay p.objects p.frozen else none
 |none=>none
def uw (i:Nat)(pc:Int):Out:=rd g i fun T=>some ({ t with T:=T,pc:=pc },g)
def jq:Out:=match t.pc with
 |0=>uw g t (kK t.aB+1) 1
 |1=>rd g (kK t.aB) fun H=>Dq H fun s o=>if s = -1 then need (o = -1) (some ({ t with H:=H,aA := -1,obj := -1,pc:=30 },g)) else need (0≤s∧s<c.S) (if o = -1 then some ({ t with H:=H,aA:=s,obj := -1,pc:=20 },g) else need (0≤o∧o<c.O) (some ({ t with H:=H,aA:=s,obj:=o,pc:=2 },g)))
 |2=>iN c t fun s=>wZ c t.obj fun o=>rd g (o9 c s o) fun x=>match qG x (See.keyOf c.key s) o with
  |none=>some ({ t with pc:=0 },g)
  |some y=>if y<c.O then some ({ t with last:=y,pc:=3 },g) else some ({ t with pc:=0 },g)
 |3=>iN c t fun s=>need (-1≤t.last∧t.last<16) (mK g (kK t.aB) t.H t.T (headW s t.last) ((t.T+1) % jC) { t with fin:=1 } { t with pc:=0 })
 |10=>uw g t (kK t.aB+1) 11
 |11=>rd g (kK t.aB) fun H=>Dq H fun s o=>need (s<c.S∧o<c.O) (if s=t.aA then some ({ t with H:=H,last:=o,pc:=12 },g) else some ({ t with H:=H,pc:=50 },g))
 |12=>iN c t fun s=>wZ c t.obj fun o=>need (-1≤t.last∧t.last<16) (wr g (o9 c s o) (fZ t.last (See.keyOf c.key s) o) { t with pc:=13 })
 |13=>iN c t fun s=>wZ c t.obj fun o=>mK g (kK t.aB) t.H t.T (headW s o) ((t.T+1) % jC) { t with fin:=1 } { t with pc:=10 }
 |_=>none
def zH (s o:Nat)(fz JX:Bool)(yes no:Nat→Tk):Out:=sW t.K fun iu ob f=>need (f=fz∧1≤iu) (mK g (fq c s) t.F t.K (o+1) (dF (iu - 1) ob JX true) (yes (dF (iu - 1) ob JX true)) (no (dF (iu - 1) ob JX true)))
def dZ:Out:=match t.pc with
 |50=>iN c t fun s=>rd g (fq c s) fun F=>need (F≤c.O) (some ({ t with F:=F,pc:=51 },g))
 |51=>iN c t fun s=>rd g (fq c s+1) fun K=>sW K fun iu _ _=>need (1≤iu) (some ({ t with K:=K,pc:=52 },g))
 |52=>iN c t fun s=>wZ c t.obj fun o=>need (t.F≤c.O) (sW t.K fun iu _ fz=>need (1≤iu)
  (wr g (o9 c s o) (fZ ((t.F:Int) - 1) (See.keyOf c.key s) o) { t with pc:=if fz=true then 53 else if t.F=0 then 54 else if 1<iu then 53 else 55 }))
 |53=>iN c t fun s=>wZ c t.obj fun o=>sW t.K fun _ _ fz=>zH c g t s o fz fz (fun _=>{ t with fin:=1 }) fun _=>{ t with pc:=50 }
 |54=>iN c t fun s=>wZ c t.obj fun o=>zH c g t s o false true (fun _=>{ t with pc:=60 }) fun _=>{ t with pc:=50 }
 |55=>rd g (jc c) fun x=>if x=0 then wr g (jc c) 1 { t with pc:=56 } else some (t,g)
 |56=>iN c t fun s=>wZ c t.obj fun o=>zH c g t s o false false (fun K=>{ t with pc:=58,F:=o+1,K:=K }) fun _=>{ t with pc:=57 }
 |57=>wr g (jc c) 0 { t with pc:=50 }
 |58=>rd g (qa c) fun x=>if mn<x then some ({ t with pc:=64 },g) else some ({ t with pc:=59 },g)
 |59=>wr g (jc c) 0 { t with fin:=1 }
 |60=>uw g t (nD t.aB+1) 61
 |61=>rd g (nD t.aB) fun N=>ut N fun s m=>need (s<c.S) (if m<cp then some ({ t with N:=N,pc:=62 },g) else some ({ t with N:=N,obj := -1,many:=0,back:=0,pc:=80 },g))
 |62=>iN c t fun s=>wr g (mO c s) t.N { t with pc:=63 }
 |63=>iN c t fun s=>ut t.N fun s' m=>need (s'<c.S∧m<63) (mK g (nD t.aB) t.N t.T (qF s (m+1)) ((t.T+1) % jC) { t with fin:=1 } { t with pc:=60 })
 |64=>iN c t fun s=>rd g (o7 c) fun x=>need (1≤x∧x≤c.S) (if x=s+1 then some ({ t with bS := -1,pc:=66 },g) else some ({ t with bS:=(x:Int) - 1,pc:=65 },g))
 |65=>iN c t fun s=>need (0≤t.bS∧t.bS<c.S) (rd g (mO c t.bS.toNat) fun x=>need (1≤x∧x≤c.S) (if x=s+1 then some ({ t with pc:=66 },g) else some ({ t with bS:=(x:Int) - 1,pc:=65 },g)))
 |66=>iN c t fun s=>rd g (mO c s) fun x=>need (x≤c.S) (some ({ t with N:=x,pc:=67 },g))
 |67=>if t.bS = -1 then wr g (o7 c) t.N { t with pc:=68 } else need (0≤t.bS∧t.bS<c.S) (wr g (mO c t.bS.toNat) t.N { t with pc:=68 })
 |68=>rd g (qa c) fun x=>wr g (qa c) ((x+18446744073709551615) % jC) { t with back:=0,pc:=76 }
 |_=>none
def BV (s:Nat)(fz JX:Bool)(full:Bool)(yes no:Tk):Out:=sW t.K fun iu ob f=>need (f=fz) (mK g (fq c s) t.F t.K 0 (dF (if full=true then ob else iu) ob JX true) yes no)
def dD:Out:=match t.pc with
 |20=>mK g (kK t.aB) t.H t.T 0 ((t.T+1) % jC) { t with pc:=21 } { t with pc:=0 }
 |21=>iN c t fun s=>rd g (fq c s) fun F=>need (F≤c.O) (some ({ t with F:=F,pc:=22 },g))
 |22=>iN c t fun s=>rd g (fq c s+1) fun K=>sW K fun _ _ fz=>need (fz=true) (some ({ t with K:=K,pc:=if t.F=0 then 24 else 23 },g))
 |23=>iN c t fun s=>need (1≤t.F∧t.F≤c.O) (BV c g t s true true true { t with obj:=(t.F:Int) - 1,pc:=40 } { t with pc:=21 })
 |24=>iN c t fun s=>need (t.F=0) (BV c g t s true false false { t with pc:=30 } { t with pc:=21 })
 |30=>uw g t (nD t.aB+1) 31
 |31=>rd g (nD t.aB) fun N=>ut N fun s m=>if s = -1 then need (m=0) (some ({ t with N:=N,pc:=34 },g)) else need (0≤s∧s<c.S) (some ({ t with N:=N,aA:=s,pc:=32 },g))
 |32=>iN c t fun s=>rd g (mO c s) fun x=>match partOf x with
  |none=>some ({ t with pc:=30 },g)
  |some (s',_)=>if s'<c.S then some ({ t with F:=x,pc:=33 },g) else some ({ t with pc:=30 },g)
 |33=>mK g (nD t.aB) t.N t.T t.F ((t.T+1) % jC) { t with pc:=21 } { t with pc:=30 }
 |34=>rd g (jc c) fun x=>if x=0 then wr g (jc c) 1 { t with pc:=35 } else some (t,g)
 |35=>rd g (o7 c) fun x=>need (x≤c.S) (if x=0 then some ({ t with N:=x,pc:=36 },g) else some ({ t with N:=x,aA:=(x:Int) - 1,pc:=37 },g))
 |36=>wr g (jc c) 0 { t with want:=1,pc:=43 }
 |37=>iN c t fun s=>rd g (fq c s) fun F=>need (1≤F∧F≤c.O) (some ({ t with F:=F,pc:=38 },g))
 |38=>iN c t fun s=>rd g (fq c s+1) fun K=>sW K fun _ _ fz=>need (fz=false) (some ({ t with K:=K,pc:=39 },g))
 |39=>iN c t fun s=>need (1≤t.F∧t.F≤c.O) (BV c g t s false true true { t with obj:=(t.F:Int) - 1,pc:=46 } { t with pc:=37 })
 |46=>iN c t fun s=>rd g (mO c s) fun x=>need (x≤c.S) (some ({ t with N:=x,pc:=47 },g))
 |47=>wr g (o7 c) t.N { t with pc:=48 }
 |48=>rd g (qa c) fun x=>wr g (qa c) ((x+18446744073709551615) % jC) { t with pc:=49 }
 |49=>wr g (jc c) 0 { t with pc:=40 }
 |40=>iN c t fun s=>wZ c t.obj fun o=>rd g (o9 c s o) fun x=>match qG x (See.keyOf c.key s) o with
  |none=>none
  |some y=>need (y<c.O) (some ({ t with last:=y,pc:=41 },g))
 |41=>uw g t (kK t.aB+1) 42
 |42=>iN c t fun s=>need (-1≤t.last∧t.last<16) (mK g (kK t.aB) 0 t.T (headW s t.last) ((t.T+1) % jC) { t with fin:=1 } { t with pc:=41 })
 |43=>iN c t fun s=>wZ c t.many fun o=>wr g (o9 c s o) (fZ (if t.many+1<c.O then t.many+1 else -1) (See.keyOf c.key s) o) { t with many:=t.many+1,pc:=if t.many+1<c.O then 43 else 44 }
 |44=>iN c t fun s=>wr g (fq c s+1) (dF c.O c.O true true) { t with obj:=0,pc:=40 }
 |_=>none
def kY (t:Tk):Option Tk:=if t.back=0 then some { t with fin:=1 } else if t.back=73 then some { t with pc:=73 } else if t.back=95 then some { t with pc:=95 } else if t.back=79 then (if t.H=0 then some { t with fin:=1 } else some { t with pc:=79 }) else none
def bG:Out:=match t.pc with
 |70=>need (0≤t.for_∧t.for_<c.C) (uw g t (kK t.for_.toNat+1) 71)
 |71=>need (0≤t.for_∧t.for_<c.C) (rd g (kK t.for_.toNat) fun H=>Dq H fun s o=>if s = -1 then need (o = -1) (some ({ t with H:=H,aA := -1,obj := -1,pc:=73 },g)) else need (0≤s∧s<c.S∧o<c.O) (some ({ t with H:=H,aA:=s,obj:=o,pc:=72 },g)))
 |72=>need (0≤t.for_∧t.for_<c.C) (mK g (kK t.for_.toNat) t.H t.T 0 ((t.T+1) % jC) { t with many:=0,back:=73,pc:=80 } { t with pc:=70 })
 |73=>need (0≤t.for_∧t.for_<c.C) (uw g t (nD t.for_.toNat+1) 74)
 |74=>need (0≤t.for_∧t.for_<c.C) (rd g (nD t.for_.toNat) fun N=>ut N fun s m=>if s = -1 then need (m=0) (some ({ t with N:=N,fin:=1 },g)) else need (0≤s∧s<c.S) (some ({ t with N:=N,pc:=75 },g)))
 |75=>need (0≤t.for_∧t.for_<c.C) (mK g (nD t.for_.toNat) t.N t.T 0 ((t.T+1) % jC) { t with H:=t.N,pc:=79 } { t with pc:=73 })
 |79=>ut t.H fun s _=>need (0≤s∧s<c.S) (rd g (mO c s.toNat) fun x=>ut x fun s' _=>need (s'<c.S) (some ({ t with H:=x,aA:=s,obj := -1,many:=0,back:=79,pc:=80 },g)))
 |80=>rd g (jc c) fun x=>if x=0 then (if t.obj<0 then wr g (jc c) 1 { t with pc:=84 } else wr g (jc c) 1 { t with last:=t.obj,pc:=81 }) else some (t,g)
 |81=>iN c t fun s=>wZ c t.last fun o=>need (0≤t.many∧t.many<16) (rd g (o9 c s o) fun x=>match qG x (See.keyOf c.key s) o with
  |none=>none
  |some y=>if y = -1 then some ({ t with many:=t.many+1,pc:=84 },g) else need (0≤y∧y<c.O) (some ({ t with many:=t.many+1,last:=y,pc:=81 },g)))
 |84=>iN c t fun s=>rd g (fq c s) fun F=>need (F≤c.O) (some ({ t with F:=F,pc:=85 },g))
 |85=>iN c t fun s=>rd g (fq c s+1) fun K=>sW K fun iu _ fz=>need (fz=true∧0≤t.many∧t.many≤iu) (some ({ t with K:=K,pc:=if t.obj<0 then 87 else 86 },g))
 |86=>iN c t fun s=>wZ c t.last fun o=>need (t.F≤c.O) (wr g (o9 c s o) (fZ ((t.F:Int) - 1) (See.keyOf c.key s) o) { t with pc:=87 })
 |87=>iN c t fun s=>sW t.K fun iu ob fz=>need (fz=true∧0≤t.many∧t.many≤iu ∧ -1≤t.obj∧t.obj<c.O∧t.F≤c.O)
  (mK g (fq c s) t.F t.K (if t.obj<0 then t.F else (t.obj+1).toNat) (dF (iu - t.many.toNat) ob false true)
    { t with K:=dF (iu - t.many.toNat) ob false true,F:=if t.obj<0 then t.F else (t.obj+1).toNat,pc:=if t.obj<0∧t.F=0 then 94 else if iu - t.many.toNat=0 then 88 else 90 } { t with pc:=84 })
 |88=>rd g (qa c) fun x=>if x<mn then some ({ t with pc:=90 },g) else some ({ t with pc:=76 },g)
 |90=>rd g (o7 c) fun x=>need (x≤c.S) (some ({ t with N:=x,pc:=91 },g))
 |91=>iN c t fun s=>wr g (mO c s) t.N { t with pc:=92 }
 |92=>iN c t fun s=>wr g (o7 c) (s+1) { t with pc:=93 }
 |93=>rd g (qa c) fun x=>wr g (qa c) ((x+1) % jC) { t with pc:=94 }
 |94=>match kY t with
  |some t'=>wr g (jc c) 0 t'
  |none=>none
 |76=>iN c t fun s=>rd g (fq c s) fun p=>rd g (fq c s+1) fun q=>need (p=t.F∧q=t.K) (some ({ t with pc:=77 },(g.set (fq c s) 0).set (fq c s+1) 0))
 |77=>wr g (jc c) 0 { t with want:=2,pc:=78 }
 |95=>rd g (jc c) fun x=>if x=0 then wr g (jc c) 1 { t with pc:=96 } else some (t,g)
 |96=>rd g (o7 c) fun x=>need (x≤c.S) (if x=0 then some ({ t with N:=x,bS := -1,pc:=99 },g) else some ({ t with N:=x,bS := -1,aA:=(x:Int) - 1,pc:=97 },g))
 |97=>iN c t fun s=>rd g (fq c s+1) fun K=>sW K fun iu _ _=>some ({ t with K:=K,pc:=if iu=0 then 100 else 98 },g)
 |98=>iN c t fun s=>rd g (mO c s) fun x=>need (x≤c.S) (if x=0 then some ({ t with N:=x,bS:=t.aA,pc:=99 },g) else some ({ t with N:=x,bS:=t.aA,aA:=(x:Int) - 1,pc:=97 },g))
 |99=>wr g (jc c) 0 { t with fin:=1 }
 |100=>iN c t fun s=>rd g (fq c s) fun F=>some ({ t with F:=F,pc:=101 },g)
 |101=>iN c t fun s=>rd g (mO c s) fun x=>need (x≤c.S) (some ({ t with N:=x,pc:=102 },g))
 |102=>if t.bS = -1 then wr g (o7 c) t.N { t with pc:=103 } else need (0≤t.bS∧t.bS<c.S) (wr g (mO c t.bS.toNat) t.N { t with pc:=103 })
 |103=>rd g (qa c) fun x=>wr g (qa c) ((x+18446744073709551615) % jC) { t with back:=95,pc:=76 }
 |_=>none
end
end Cw
end Go.Proofs.YtfcpdlbkmkhhcaaGreatDoor
