/-
  Texts of this claim, joined. No condition.
-/
import Derived.Test.YtfcpdlbkmkhhcaaGreatDoorCh1
import Derived.Test.YtfcpdlbkmkhhcaaGreatDoorCh23
import Derived.StillTailTactics
import Derived.Test.YtfcpdlbkmkhhcaaGreatDoorCh19
namespace Go.Proofs.YtfcpdlbkmkhhcaaGreatDoor
set_option maxRecDepth 100000
set_option maxHeartbeats 40000000
namespace Cw
open Go Mem See
open Go.RowKit
attribute [local go_sem ↓] Go.wp_at_zero Go.wp_at_succ
section
variable {W w:World}{m:List (Nat×Obj)}{bc b0 bt b:Nat}{c:Ch}{mn cp:Nat}{t:Tk}{es:Array MapEntry}{ck n:Nat}{f:Int→Option Value}{i:Nat}
theorem UN {α:Type}(a b x y:α)(l:List α):(a::b::x::y::l).Perm (y::a::b::x::l):=by
 classical
 rw[List.perm_iff_count];intro q;simp only[Zxv];omega
theorem UO {α:Type}(a b x y:α)(l:List α):(y::a::b::x::l).Perm (a::b::x::y::l):=(UN _ _ _ _ _).symm
theorem UQ {α:Type}(a b x y:α)(l:List α):(y::a::b::x::l).Perm (b::a::x::y::l):=(UO _ _ _ _ _).trans (List.Perm.swap _ _ _)
theorem Zl9 (h:Own W (aY bc b0 bt c mn cp::(bt,.map es ck)::m) w)(hv:VM es ck n f)(hi:t.aB<9)(hf:t.fin=0) :
 Calls Tryz.prog 31 #[.pointer (some ⟨bc,0,Option.none⟩),bH t,.int .i64 0] w fun e w'=>∃ es' bO,e = .returned (.tuple #[bH t,.int .i64 0])∧VM es' bO (n+1) (vS f t.aB (bH t))∧Own W (aY bc b0 bt c mn cp::(bt,.map es' bO)::m) w':=by
 have h1:Own W ((w.heap.size,.cells (dm t) 59)::aY bc b0 bt c mn cp::(bt,.map es ck)::m) (w.alloc (.cells (dm t) 59)):=h.new (.cells (dm t) 59);have h2:=h1.new z17;rw[World.size_alloc]at h2;obtain⟨B,hB⟩:=Zx9 (w.heap.size);rw[hB]at h2;obtain⟨wa,eQ⟩:=Zx9 ((w.alloc (.cells (dm t) 59)).alloc z17);rw[eQ]at h2;have jh:=ZkQ (ES hi);have HV:=ZkQ hv;have H2:=ZkQ h2;have HF:=ZkQ hf;obtain⟨y0,y1,y2,y3,y4,y5,y6,y7⟩:=mP h2.skip.skip;obtain⟨⟨x0,x1,x2,x3,x4,x5,x6,x7,x8,x9,x10,gz,gB,gD,gG,gH,fT⟩,-⟩:=iV (t:=t) h2.skip;clear h h1 h2 hv hi hf;unfold dm at eQ;unfold bH
 go_enter Tryz.func31,Tryz.ntmps31
 go_wp2_with fail
 clear eQ hB
 go_still_tail 7,(by kernel_rfl)
 change wpList _ _ _ _ _ wa.drew;clear y0 y1 y2 y3 y4 y5 y6 y7 x0 x1 x2 x3 x4 x5 x6 x7 x8 x9 x10 gz gB gD gG gH fT;have hp:((B+1,z17)::(B,.cells (dm t) 59)::aY bc b0 bt c mn cp::(bt,.map es ck)::m).Perm ((bt,.map es ck)::(B+1,z17)::tB B t::aY bc b0 bt c mn cp::m):=UN _ _ _ _ _;refine Jb rfl _ _ _ rfl rfl rfl rfl HV.out (H2.out.drew.perm hp) jh.out ?_;intro es' bO w3 k1 k2;have KV:=ZkQ k1;have KO:=ZkQ (k2.perm (UO _ _ _ _ _));have KB:=ZkQ (k2.perm (UQ _ _ _ _ _));obtain⟨⟨-,-,-,x3,-⟩,-⟩:=iV (t:=t) KB.out;have d0:(t.fin != 0)=false:=by rw[HF.out];rfl
 have HT:=ZkQ (jU t);clear k1 k2 hp H2 HV jh
 go_wp2_with (first
  |(refine qC (t:=59) (old:=dm t) rfl _ rfl rfl Tryz.underlying59 KB.out gQ ?_)
  |(refine jm (t:=59) (new:=dm t) rfl _ _ rfl rfl rfl gQ KO.out rfl HT.out ?_;intro w4 hT))
 obtain⟨⟨x0,x1,x2,x3,x4,x5,x6,x7,x8,x9,x10,gz,gB,gD,gG,gH,fT⟩,-⟩:=iV (t:=t) hT;exact bodyPost_ret (v:=.tuple #[bH t,.int .i64 0]) (by simp[results,Tryz.f31,go_sem,x0,x1,x2,x3,x4,x5,x6,x7,x8,x9,x10,gz,gB,gD,gG,gH,fT,bH]) rfl ⟨es',bO,rfl,KV.out,hT.skip.skip⟩
end
end Cw
namespace Cw
open Go Mem See
open Go.RowKit
attribute [local go_sem ↓] Go.wp_at_zero Go.wp_at_succ
section
variable {W w:World}{m:List (Nat×Obj)}{bc b0 bt b:Nat}{c:Ch}{mn cp:Nat}{t:Tk}{es:Array MapEntry}{ck n:Nat}{f:Int→Option Value}{i:Nat}
theorem Zl8 (h:Own W (aY bc b0 bt c mn cp::(bt,.map es ck)::m) w)(hv:VM es ck n f)(hi:t.aB<9)(hf:t.fin≠0) :
 Calls Tryz.prog 31 #[.pointer (some ⟨bc,0,Option.none⟩),bH t,.int .i64 0] w fun e w'=>∃ es' bO,e = .returned (.tuple #[bH t,.int .i64 0])∧VM es' bO (n+1) (Fg (vS f t.aB (bH t)) t.aB)∧Own W (aY bc b0 bt c mn cp::(bt,.map es' bO)::m) w':=by
 have h1:Own W ((w.heap.size,.cells (dm t) 59)::aY bc b0 bt c mn cp::(bt,.map es ck)::m) (w.alloc (.cells (dm t) 59)):=h.new (.cells (dm t) 59);have h2:=h1.new z17;rw[World.size_alloc]at h2;obtain⟨B,hB⟩:=Zx9 (w.heap.size);rw[hB]at h2;obtain⟨wa,eQ⟩:=Zx9 ((w.alloc (.cells (dm t) 59)).alloc z17);rw[eQ]at h2;have jh:=ZkQ (ES hi);have HV:=ZkQ hv;have H2:=ZkQ h2;have HF:=ZkQ hf;obtain⟨y0,y1,y2,y3,y4,y5,y6,y7⟩:=mP h2.skip.skip;obtain⟨⟨x0,x1,x2,x3,x4,x5,x6,x7,x8,x9,x10,gz,gB,gD,gG,gH,fT⟩,-⟩:=iV (t:=t) h2.skip;clear h h1 h2 hv hi hf;unfold dm at eQ;unfold bH
 go_enter Tryz.func31,Tryz.ntmps31
 go_wp2_with fail
 clear eQ hB
 go_still_tail 7,(by kernel_rfl)
 change wpList _ _ _ _ _ wa.drew;clear y0 y1 y2 y3 y4 y5 y6 y7 x0 x1 x2 x3 x4 x5 x6 x7 x8 x9 x10 gz gB gD gG gH fT;have hp:((B+1,z17)::(B,.cells (dm t) 59)::aY bc b0 bt c mn cp::(bt,.map es ck)::m).Perm ((bt,.map es ck)::(B+1,z17)::tB B t::aY bc b0 bt c mn cp::m):=UN _ _ _ _ _;refine Jb rfl _ _ _ rfl rfl rfl rfl HV.out (H2.out.drew.perm hp) jh.out ?_;intro es1 bO w3 k1 k2;have KV:=ZkQ k1;have KM:=ZkQ k2;have KB:=k2.perm (UQ _ _ _ _ _);obtain⟨⟨-,x1,-,x3,-⟩,-⟩:=iV (t:=t) KB;obtain⟨y0,y1,y2,y3,y4,y5,y6,y7⟩:=mP KB.skip.skip;have d0:(t.fin != 0)=true:=by simpa using HF.out
 have HT:=ZkQ (jU t);clear k1 k2 hp H2 HV KB;go_wp2_with fail
 go_still_tail 6,(by kernel_rfl)
 change wpList _ _ _ _ _ w3.drew;refine Zkh rfl _ _ rfl rfl rfl KV.out KM.out.drew jh.out ?_;intro es' w5 k1 k2;have KV:=ZkQ k1;have KO:=ZkQ (k2.perm (UO _ _ _ _ _));have KB:=ZkQ (k2.perm (UQ _ _ _ _ _));clear k1 k2 x1 x3 y0 y1 y2 y3 y4 y5 y6 y7
 go_wp2_with (first
  |(refine qC (t:=59) (old:=dm t) rfl _ rfl rfl Tryz.underlying59 KB.out gQ ?_)
  |(refine jm (t:=59) (new:=dm t) rfl _ _ rfl rfl rfl gQ KO.out rfl HT.out ?_;intro w4 hT))
 obtain⟨⟨x0,x1,x2,x3,x4,x5,x6,x7,x8,x9,x10,gz,gB,gD,gG,gH,fT⟩,-⟩:=iV (t:=t) hT;exact bodyPost_ret (v:=.tuple #[bH t,.int .i64 0]) (by simp[results,Tryz.f31,go_sem,x0,x1,x2,x3,x4,x5,x6,x7,x8,x9,x10,gz,gB,gD,gG,gH,fT,bH]) rfl ⟨es',bO,rfl,KV.out,hT.skip.skip⟩
end
end Cw
namespace Cw
open Go Ex Mem See
open Go.RowKit
section
noncomputable def Zt5:List AV:=[.int .i64 0,.int .i64 0,.int .i64 0,.int .i64 0,.int .i64 0,.int .i64 0,.int .i64 0,.int .u64 0,.int .u64 0,.int .u64 0,.int .u64 0,.int .u64 0,.int .i64 0,.int .i64 0,.int .i64 0,.int .i64 0,.int .i64 0]
noncomputable def GJ (f:FuncId)(pc:Int):Bool:=BX Tryz.prog aJ.gs [] (FT []) [] 40 f [.ptr 3002 0,JW,.agg (Du pc)] ⟨[],vQ (v 31) (.dA 0),⟨60,1,0,3004⟩⟩ (.is (.gV [.agg Zt5,.int .i64 292]) (vQ (v 31) (.dA 0))) fC
theorem TZ:((List.range 84).all fun i=>GJ 43 (20+(i:Int)))=true:=by kernel_rfl
theorem Z6:((List.range 54).all fun i=>GJ 44 (50+(i:Int)))=true:=by kernel_rfl
theorem Zp6:((List.range 35).all fun i=>GJ 45 (69+(i:Int)))=true:=by kernel_rfl
end
end Cw
namespace Cw
open Go Ex Mem See
open Go.RowKit
section
theorem Zpf {f:FuncId}{pc:Int}(hr:GJ f pc=true){V:Nat→Int}{g:List Nat}{cnt:Nat}(ok:∀ q∈fC,q.1.ev (eT V g)=q.2)
 (yK:V 30=(g.length:Int)) (MS:V 31=(cnt:Int)) (_hc:cnt<1000000000) (kN:g.length≤4096)
 {W w:World} {m:List (Nat×Obj)} {b0 b1:Nat} (ql:jR aJ.gs w) (hgW:∀ b l,sP b aJ.gs=some l→b<W.heap.size) (hO:Own W (mB b0 b1 g.length cnt::wB b1 g::m) w)
 {c t:Value} (V4:c=Ex.valOf (eT V g) JW) (WV:t=Ex.valOf (eT V g) (.agg (Du pc))) :
 Calls Tryz.prog f #[.pointer (some ⟨b0,0,none⟩),c,t] w fun e w'=>e = .returned (.tuple #[bH mZ,.int .i64 292])∧Own W (mB b0 b1 g.length cnt::wB b1 g::m) w':=by
 subst V4;subst WV;have hk:Jy aJ.gs [] j6 Tryz.prog (eT V g) ΩW (FT []):=fun fs ok args k hk=>by cases hk
 letI N:au:=nums aJ.gs [] j6 (eT V g) ΩW fC ok
 have e30:(v 30).ev (eT V g)=(g.length:Int):=(jk (by omega)).trans yK;have e31:(v 31).ev (eT V g)=(cnt:Int):=(jk (by omega)).trans MS;have dn:(l9 g).size=g.length:=by simp[l9,words]
 have kg:kD (eT V g) (.dA 0) (one (kS g)):=kD.var (by omega);have r0:rD 3002 3003 b0 2 b1 (l9 g).size 3002=some (b0,2):=if_pos rfl;have r1:rD 3002 3003 b0 2 b1 (l9 g).size 3003=some (b1,(l9 g).size):=by
  unfold rD;rw[if_neg (by omega),if_pos rfl]
 refine(TD (by kernel_rfl) hk (by omega) (by show 3002<3004;omega) (by show 3003<3004;omega) (by show 3004≤1000000;omega) ok hr
  (K:=fun a post=>a = .gV [.agg Zt5,.int .i64 292]∧post=vQ (v 31) (.dA 0)) ⟨_,_,rfl,rfl,rfl⟩ ql hgW hO ?_ ?_ ?_).mono ?_
 ·refine⟨_,rfl,rfl,Zxt _,fun i v hi => ?_⟩
  match i with
  |0 =>
   simp only[ZxN,ZlP]at hi;subst hi;refine⟨rfl,.slice (some ⟨b1,0,none⟩) g.length g.length,rfl,?_⟩;unfold VR;exact⟨b1,_,g.length,g.length,r1,rfl,Zxt _,by unfold maxLen;omega,by omega,e30⟩
  |1 =>
   simp only[List.getElem?_cons_succ,ZxN,ZlP]at hi;subst hi;refine⟨rfl,.int .i64 (cnt:Int),rfl,?_⟩;unfold si VR;exact congrArg (Value.int .i64) e31.symm
  |i+2=>simp at hi
 ·exact TI (b:=b1) kg.is
 ·refine aH.cons ?_ (aH.cons (VR.wU rfl) (aH.cons (VR.wU rfl) aH.nil))
  unfold VR;exact⟨b0,_,r0,rfl⟩
 ·rintro e w' ⟨fs',ok',a,p0,p1,ρ',y,IZ,I4,⟨rfl,hp⟩,rfl,q0,q1,hv,T0,T1,h'⟩
  simp only[vQ,List.cons.injEq,ZxA,true_and,and_true]at hp;obtain⟨rfl,rfl⟩:=hp
  letI N':au:=nums aJ.gs [] j6 (eT V g) ΩW fs' ok'
  have hv:=VR.shut hv (by rfl);have h1:=Sj (n:=g.length) kg rfl (by rw[← dn];exact T1);obtain⟨cur,c1,c2,c3,c4⟩:=T0;simp only[ZlP]at c1;subst c1;obtain⟨-,y0,FP,vk⟩:=c4 0 _ rfl;obtain⟨-,y1,CL,Ba⟩:=c4 1 _ rfl;unfold VR at vk;unfold si VR at Ba;obtain⟨b,z,len,cc,hb,rfl,d1,d2,d3,d4⟩:=vk;rw[q1]at hb;cases hb;have d4':(g.length:Int)=len:=e30.symm.trans d4;have d3':cc * 1=g.length:=d3.trans dn;have hlen:len=g.length:=by omega
  have Hy:cc=g.length:=by omega
  subst hlen;subst Hy;have dJ:cur=#[.slice (some ⟨b1,0,none⟩) g.length g.length,.int .i64 ((cnt:Nat):Int)]:=by
   apply Array.ext
   ·exact c2
   ·intro i pG jy
    match i with
    |0 =>
     rw[ZxH pG]at FP;exact ZxZ FP
    |1 =>
     rw[ZxH pG]at CL;rw[ZxZ CL,Ba];exact congrArg (Value.int .i64) e31
    |i+2 =>
     have:cur.size=2:=c2;omega
  subst dJ;subst h1;refine⟨?_,h'⟩;rw[hv];rfl
end
end Cw
namespace Cw
open Go Ex Mem See
open Go.RowKit
section
structure Uk (f:FuncId)(c:Ch)(mn cp:Nat)(t:Tk)(g:List Nat):Prop where
 go:∀ {W w:World} {m:List (Nat×Obj)} {b0 b1 cnt:Nat},cnt<1000000000→jR aJ.gs w→(∀ b l,sP b aJ.gs=some l→b<W.heap.size)→Own W (mB b0 b1 g.length cnt::wB b1 g::m) w →
  Calls Tryz.prog f #[.pointer (some ⟨b0,0,none⟩),qd c mn cp,bH t] w fun e w'=>e = .returned (.tuple #[bH mZ,.int .i64 292])∧Own W (mB b0 b1 g.length cnt::wB b1 g::m) w'
variable {c:Ch}{mn cp:Nat}{t:Tk}{g:List Nat}
theorem JI {f:FuncId}(h:bL c mn cp t g)(hr:GJ f t.pc=true):Uk f c mn cp t g:=by
 refine⟨fun {W w m b0 b1 cnt} hc ql hgW hO => ?_⟩;have e:∀ i,i<2048→(v i).ev (eT (iy c mn cp t g.length cnt (fun _=>0)) g)=iy c mn cp t g.length cnt (fun _=>0) i:=fun i hi=>jk hi;have hC:=h.C;have hS:=h.S;have hOo:=h.O;have bP:=h.mn;have bN:=h.cp;have ai:=h.aB;have hlen:=h.len;have V8:Facts (eT (iy c mn cp t g.length cnt (fun _=>0)) g) fC:=by
  unfold fC;refine Facts.app (Facts.app (Facts.app (Facts.app (Facts.app (Facts.app (Facts.app (Facts.app (Facts.app ?_ ?_) ?_) ?_) ?_) ?_) ?_) ?_) ?_) ?_
  ·exact p9 (e 0 (by omega)) (by simp only[iy];omega)
  ·exact p9 (e 1 (by omega)) (by simp only[iy];omega)
  ·exact p9 (e 2 (by omega)) (by simp only[iy];omega)
  ·exact p9 (e 3 (by omega)) (by simp only[iy];omega)
  ·exact p9 (e 4 (by omega)) (by simp only[iy];omega)
  ·exact p9 (e 11 (by omega)) (by simp only[iy];omega)
  ·exact Cf (e 11 (by omega)) (e 0 (by omega)) (by simp only[iy];omega)
  ·exact p9 (e 30 (by omega)) (by simp only[iy];omega)
  ·exact p9 Ma (by omega)
  ·exact p9 (e 31 (by omega)) (by simp only[iy];omega)
 refine Zpf (V:=iy c mn cp t g.length cnt (fun _=>0)) hr V8 rfl rfl hc hlen.2 ql hgW hO ?_ ?_
 ·simp only[qd,JW,si,su,Ex.valOf,Ex.eU,e _ (show 0<2048 by omega),e _ (show 1<2048 by omega),e _ (show 2<2048 by omega),e _ (show 3<2048 by omega),e _ (show 4<2048 by omega),e _ (show 5<2048 by omega),iy]
 ·have aI:=h.fin
  have aC:=h.want;simp only[bH,Du,si,su,Ex.valOf,Ex.eU,e 10 (by omega),e 11 (by omega),e 15 (by omega),e 16 (by omega),e 17 (by omega),e 18 (by omega),e 19 (by omega),e 20 (by omega),e 21 (by omega),e 22 (by omega),e 23 (by omega),e 24 (by omega),e 25 (by omega),e 26 (by omega),iy,aI,aC]
theorem JH {f:FuncId}{n:Nat}{a p:Int}(hl:((List.range n).all fun i=>GJ f (a+(i:Int)))=true)(h1:a≤p)(h2:p<a+n):GJ f p=true:=by
 have:=List.all_eq_true.1 hl (p - a).toNat (List.mem_range.2 (by omega));rw[show a+(((p - a).toNat:Nat):Int)=p by omega]at this;exact this
end
end Cw
namespace Cw
open Go Mem See
open Go.RowKit
section
variable {W w:World}{m:List (Nat×Obj)}{bc b0 b1 bt b:Nat}{c:Ch}{mn cp cnt:Nat}{t t':Tk}{g g':List Nat}{es:Array MapEntry}{ck n:Nat}{f:Int→Option Value}{i:Nat}
theorem fO {α:Type}{a b:List α}(h:∀ (_:DecidableEq α) (q:α),a.count q=b.count q):a.Perm b:=by
 classical
 exact List.perm_iff_count.2 (h _)
theorem Pz {gs:List (Nat×List Int)}(hT:Ex.jR gs W)(h:Own W m w):Ex.jR gs w:=fun b l hb=>by
 obtain⟨e,q,hh⟩:=hT b l hb;exact⟨e,q,(h.below.block b (yj hh)).trans hh⟩
theorem TW {gs:List (Nat×List Int)}(hT:Ex.jR gs W):∀ b l,Ex.sP b gs=some l→b<W.heap.size:=fun b l hb=>by
 obtain⟨e,q,hh⟩:=hT b l hb;exact yj hh
def GK (f:Int→Option Value)(t:Tk):Int→Option Value:=if t.fin=0 then vS f t.aB (bH t) else Fg (vS f t.aB (bH t)) t.aB
theorem Pb (h:Own W (aY bc b0 bt c mn cp::(bt,.map es ck)::m) w)(hv:VM es ck n f)(hi:t.aB<9) :
 Calls Tryz.prog 31 #[.pointer (some ⟨bc,0,Option.none⟩),bH t,.int .i64 0] w fun e w'=>∃ es' bO,e = .returned (.tuple #[bH t,.int .i64 0])∧VM es' bO (n+1) (GK f t)∧Own W (aY bc b0 bt c mn cp::(bt,.map es' bO)::m) w':=by
 unfold GK;by_cases hf:t.fin=0
 ·rw[if_pos hf]
  exact Zl9 h hv hi hf
 ·rw[if_neg hf]
  exact Zl8 h hv hi hf
end
end Cw
namespace Cv
open See Cw
inductive Ct where
 |none
 |first
 |head (k:Nat)
 |aU (k:Nat)
 |out
deriving DecidableEq
inductive Own where
 |dead
 |full
 |shelf
 |head (k:Nat)
 |part (k:Nat)
 |chain (k:Nat)
 |mine (k:Nat)
deriving DecidableEq
def Ct.listed:Ct→Bool
 | .first | .head _ | .aU _=>true
 |_=>false
def Own.listed:Own→Bool
 | .dead | .full=>false
 |_=>true
structure St where
 ol:Nat→Ct→List Nat
 loc:Nat→Nat→Ct
 sl:Own→List Nat
 own:Nat→Own
 lv:Nat→Bool
 dh:Nat→Bool
 cut:Option Nat
 hold:Option Nat
 held:Nat
 ht:Nat→Nat
 pt:Nat→Nat
 nx:Nat→Nat
 lk:Nat→Nat→Nat
 n:Nat
 tk:Nat→Option Tk
def gq:List Nat→Int→Int
 |[],e=>e
 |a::_,_=>(a:Int)
def uq (l:List Nat):Int:=match l.getLast? with
 |none => -1
 |some a=>(a:Int)
theorem Ye {l:List Nat}{a:Nat}:uq (l++[a])=(a:Int):=by simp[uq]
theorem Zny {l:List Nat}(h:uq l = -1):l=[]:=by
 unfold uq at h;split at h
 ·rename_i e
  exact List.getLast?_eq_none_iff.1 e
 ·omega
theorem SV {l:List Nat}(h:uq l ≠ -1):∃ (p:List Nat) (a:Nat),l=p++[a]∧uq l=(a:Int):=by
 rcases List.eq_nil_or_concat l with rfl|⟨p,a,rfl⟩
 ·exact absurd rfl h
 ·exact⟨p,a,by simp,by simp[uq]⟩
theorem Dk {l:List Nat}{e:Int}(h : -1≤e) : -1≤gq l e:=by
 cases l<;>simp[gq]<;>omega
theorem Tv {l:List Nat}(h:gq l (-1)<0):l=[]:=by
 cases l
 ·rfl
 ·simp[gq]at h;omega
theorem Zni {l:List Nat}(h:0≤gq l (-1)):∃ a r,l=a::r∧gq l (-1)=(a:Int):=by
 cases l
 ·simp[gq]at h
 ·exact⟨_,_,rfl,rfl⟩
def gy (f:Nat→Nat)(key:Nat):List Nat→Int→Prop
 |[],_=>True
 |a::l,e=>f a=fZ (gq l e) key a∧gy f key l e
theorem Pn {f g:Nat→Nat}{key:Nat}:∀ {l:List Nat} {e:Int},(∀ o∈l,g o=f o)→gy f key l e→gy g key l e
 |[],_,_,_=>trivial
 |a::_l,_e,h,⟨h1,h2⟩=>⟨(h a ZnJ).trans h1,Pn (fun o ho=>h o (ZnQ _ ho)) h2⟩
theorem KU {f:Nat→Nat}{key:Nat}:∀ {l1 l2:List Nat} {e:Int},gy f key (l1++l2) e↔gy f key l1 (gq l2 e)∧gy f key l2 e
 |[],l2,e=>by simp[gy]
 |a::l1,l2,e=>by
  have e1:gq (l1++l2) e=gq l1 (gq l2 e):=by cases l1<;>rfl
  simp only[List.cons_append,gy,e1,KU (l1:=l1),and_assoc]
def pw:List Nat→Nat
 |[]=>0
 |a::l=>qF (a:Int) ((l.length+1:Nat):Int)
def sw:List Nat→Nat
 |[]=>0
 |a::_=>a+1
def xk (nx:Nat→Nat):List Nat→Prop
 |[]=>True
 |a::l=>nx a=pw l∧xk nx l
def Co (nx:Nat→Nat):List Nat→Prop
 |[]=>True
 |a::l=>nx a=sw l∧Co nx l
theorem Pw {f g:Nat→Nat}:∀ {l:List Nat},(∀ o∈l,g o=f o)→xk f l→xk g l
 |[],_,_=>trivial
 |a::_l,h,⟨h1,h2⟩=>⟨(h a ZnJ).trans h1,Pw (fun o ho=>h o (ZnQ _ ho)) h2⟩
theorem Px {f g:Nat→Nat}:∀ {l:List Nat},(∀ o∈l,g o=f o)→Co f l→Co g l
 |[],_,_=>trivial
 |a::_l,h,⟨h1,h2⟩=>⟨(h a ZnJ).trans h1,Px (fun o ho=>h o (ZnQ _ ho)) h2⟩
theorem Zx {f:Nat→Nat}:∀ {p q:List Nat},Co f (p++q)→Co f q
 |[],_,h=>h
 |_::_,_,⟨_,h⟩=>Zx h
theorem Mc {f:Nat→Nat}{p q:List Nat}{a:Nat}(h:Co f (p++a::q)):f a=sw q:=(Zx h).1
def hw (st:St)(k:Nat):Nat:=match st.sl (.head k) with
 |[]=>0
 |s::_=>headW (s:Int) (gq (st.ol s (.head k)) (-1))
def fw:List Nat→Nat
 |[]=>0
 |a::_=>a+1
def fr (st:St)(s:Nat):Nat:=fw (st.ol s .first)
def ct (c:Ch)(st:St)(s:Nat):Nat:=if st.lv s=true then dF (c.O - (st.ol s .first).length) c.O (st.dh s) true else 0
def lw (st:St):Nat:=if st.hold.isSome then 1 else 0
inductive Ix where
 |hd (k:Nat)
 |ht (k:Nat)
 |pd (k:Nat)
 |pt (k:Nat)
 |lock
 |shelf
 |held
 |fr (s:Nat)
 |ct (s:Nat)
 |nx (s:Nat)
 |lk (s o:Nat)
deriving DecidableEq
def Ix.ok (c:Ch):Ix→Prop
 | .hd k | .ht k | .pd k | .pt k=>k<c.C
 | .lock | .shelf | .held=>True
 | .fr s | .ct s | .nx s=>s<c.S
 | .lk s o=>s<c.S∧o<c.O
def Ix.at_ (c:Ch):Ix→Nat
 | .hd k=>kK k
 | .ht k=>kK k+1
 | .pd k=>nD k
 | .pt k=>nD k+1
 | .lock=>jc c
 | .shelf=>o7 c
 | .held=>qa c
 | .fr s=>fq c s
 | .ct s=>fq c s+1
 | .nx s=>mO c s
 | .lk s o=>o9 c s o
def val (c:Ch)(st:St):Ix→Nat
 | .hd k=>hw st k
 | .ht k=>st.ht k
 | .pd k=>pw (st.sl (.part k))
 | .pt k=>st.pt k
 | .lock=>lw st
 | .shelf=>sw (st.sl .shelf)
 | .held=>st.held
 | .fr s=>fr st s
 | .ct s=>ct c st s
 | .nx s=>st.nx s
 | .lk s o=>st.lk s o
theorem ZnI {s S o O:Nat}(hs:s<S)(ho:o<O):s * O+o<S * O:=by
 have h1:(s+1) * O≤S * O:=ZxR O hs;rw[Nat.succ_mul]at h1;omega
theorem Ix.lt {c:Ch}{i:Ix}(h:i.ok c):i.at_ c<c.words:=by
 unfold Ch.words;cases i<;>simp only[Ix.ok]at h<;>simp only[Ix.at_,kK,nD,jc,o7,qa,fq,mO,o9]<;>try omega
 have:=ZnI h.1 h.2;omega
theorem Zq0 {s s' o o' O:Nat}(ho:o<O)(gU:o'<O)(h:s * O+o=s' * O+o'):s=s'∧o=o':=by
 have h1:s=s':=by
  have a:=Nat.add_mul_div_right o s (Nat.lt_of_le_of_lt (ZxV o) ho);have b:=Nat.add_mul_div_right o' s' (Nat.lt_of_le_of_lt (ZxV o) ho);rw[Nat.div_eq_of_lt ho,Nat.zero_add]at a;rw[Nat.div_eq_of_lt gU,Nat.zero_add]at b;rw[← a,← b,Nat.add_comm o,Nat.add_comm o',h]
 subst h1;exact⟨rfl,by omega⟩
theorem Ix.inj {c:Ch}{i j:Ix}(hi:i.ok c)(hj:j.ok c)(h:i.at_ c=j.at_ c):i=j:=by
 cases i<;>cases j<;>simp only[Ix.ok]at hi hj<;>simp only[Ix.at_,kK,nD,jc,o7,qa,fq,mO,o9]at h<;>first
  |(exfalso;omega)
  |(congr 1;omega)
  |rfl
  |(rename_i s o s' o';obtain⟨h1,h2⟩:=Zq0 (s:=s) (s':=s') hi.2 hj.2 (by omega);rw[h1,h2])
structure Enc (c:Ch)(st:St)(g:List Nat):Prop where
 len:g.length=c.words
 val:∀ i:Ix,i.ok c→g[i.at_ c]?=some (val c st i)
theorem Enc.same {c:Ch}{st st':St}{g:List Nat}(E:Enc c st g)(h:∀ j:Ix,j.ok c→Cv.val c st' j=Cv.val c st j):Enc c st' g:=⟨E.len,fun j hj=>by rw[E.val j hj,h j hj]⟩
theorem Enc.set {c:Ch}{st st':St}{g:List Nat}{i:Ix}{x:Nat}(E:Enc c st g)(hi:i.ok c)(h:∀ j:Ix,j.ok c→j≠i→Cv.val c st' j=Cv.val c st j)(hx:Cv.val c st' i=x):Enc c st' (g.set (i.at_ c) x):=by
 refine⟨by rw[List.length_set];exact E.len,fun j hj => ?_⟩;rw[List.getElem?_set];split
 ·rename_i e
  have:=Ix.inj hi hj e;subst this;rw[if_pos (by rw[E.len];exact Ix.lt hi),hx]
 ·rename_i e
  rw[E.val j hj,h j hj (fun e2=>e (by rw[e2]))]
theorem Enc.set2 {c:Ch}{st st':St}{g:List Nat}{i i2:Ix}{x y:Nat}(E:Enc c st g)(hi:i.ok c)(jy:i2.ok c)(_hne:i≠i2)(h:∀ j:Ix,j.ok c→j≠i→j≠i2→Cv.val c st' j=Cv.val c st j)(hx:Cv.val c st' i=x)(hy:Cv.val c st' i2=y):Enc c st' ((g.set (i.at_ c) x).set (i2.at_ c) y):=by
 refine⟨by rw[List.length_set,List.length_set];exact E.len,fun j hj => ?_⟩;rw[List.getElem?_set,List.length_set];split
 ·rename_i e
  have:=Ix.inj jy hj e;subst this;rw[if_pos (by rw[E.len];exact Ix.lt jy),hy]
 ·rename_i e
  rw[List.getElem?_set];split
  ·rename_i e1
   have:=Ix.inj hi hj e1;subst this;rw[if_pos (by rw[E.len];exact Ix.lt hi),hx]
  ·rename_i e1
   rw[E.val j hj,h j hj (fun e2=>e1 (by rw[e2])) (fun e2=>e (by rw[e2]))]
theorem eP {g:List Nat}{i x:Nat}(h:xX g)(hx:x<18446744073709551616):xX (g.set i x):=fun y hy=>by
 rcases List.mem_or_eq_of_mem_set hy with h1|h1
 ·exact h y h1
 ·rw[h1]
  exact hx
def nE (pc:Int):Bool:=(35≤pc&&pc≤39)||(46≤pc&&pc≤49)||(56≤pc&&pc≤59)||(64≤pc&&pc≤68)||pc==76||pc==77||pc==81||(84≤pc&&pc≤94)||(96≤pc&&pc≤103)
def lT (c:Ch)(st:St):Nat:=(st.sl .shelf).countP fun s=>(st.ol s .first).length==c.O && !st.dh s
structure dH (c:Ch)(mn cp:Nat)(st:St):Prop where
 om:∀ s x,x.listed=true→∀ o,o∈st.ol s x↔st.loc s o=x
 od:∀ s x,x.listed=true→(st.ol s x).Nodup
 ob:∀ s o,st.loc s o≠.none→s<c.S∧o<c.O
 oh:∀ s o k,st.loc s o = .head k→st.own s = .head k
 sm:∀ x,x.listed=true→∀ s,s∈st.sl x↔st.own s=x
 sd:∀ x,x.listed=true→(st.sl x).Nodup
 sb:∀ s,st.own s≠.dead→s<c.S
 s1:∀ k,(st.sl (.head k)).length≤1∧(st.sl (.mine k)).length≤1
 sk:∀ s k,st.own s = .head k∨st.own s = .part k∨st.own s = .chain k∨st.own s = .mine k→k<c.C
 live:∀ s o,s<c.S→o<c.O→(st.loc s o = .none↔st.own s = .dead)
 dead:∀ s,st.own s = .dead→st.lv s=false
 making:∀ s k,st.own s = .mine k→st.lv s=false→∀ o,o<c.O→st.loc s o = .aU k
 full:∀ s,st.own s = .full→st.lv s=true∧st.dh s=false∧st.ol s .first=[]
 shelf:∀ s,st.own s = .shelf→st.lv s=true∧(st.cut≠some s→st.dh s=false∧st.ol s .first≠[])
 cuts:∀ s,st.cut=some s→st.own s = .shelf∧st.dh s=true
 hpc:∀ s k,st.own s = .head k∨st.own s = .part k∨st.own s = .chain k→st.lv s=true∧st.dh s=true
 l1:∀ s,gy (st.lk s) (See.keyOf c.key s) (st.ol s .first) (-1)
 l2:∀ s k,gy (st.lk s) (See.keyOf c.key s) (st.ol s (.head k)) (-1)
 cP:∀ k,xk st.nx (st.sl (.part k))∧xk st.nx (st.sl (.chain k))
 cS:Co st.nx (st.sl .shelf)
 cap:∀ k,(st.sl (.part k)).length≤cp
 rest:st.hold=none→st.cut=none∧st.held=(st.sl .shelf).length∧lT c st≤mn
 turn:∀ k,st.ht k≤st.n∧st.pt k≤st.n
 Ko:∀ s,st.nx s<18446744073709551616
 hn:∀ k,st.hold=some k→k<c.C
def Has (st:St)(k:Nat)(ms:List Nat)(s:Nat)(l:List Nat)(ch:List Nat):Prop:=st.sl (.mine k)=ms∧(∀ x,st.ol x (.aU k)=if x=s then l else [])∧st.sl (.chain k)=ch
theorem Has.ms {st:St}{k s:Nat}{ms l ch:List Nat}(h:Has st k ms s l ch):st.sl (.mine k)=ms:=h.1
theorem Has.ob {st:St}{k s:Nat}{ms l ch:List Nat}(h:Has st k ms s l ch):∀ x,st.ol x (.aU k)=if x=s then l else []:=h.2.1
theorem Has.ch {st:St}{k s:Nat}{ms l ch:List Nat}(h:Has st k ms s l ch):st.sl (.chain k)=ch:=h.2.2
end Cv
namespace Cv
open See Cw
section
variable {c:Ch}{mn cp:Nat}{st:St}
def bW (st:St)(s:Nat)(a b:Ct)(l1 l2:List Nat):St:={ st with
 ol:=fun x y=>if x=s∧y=b then l1++st.ol s b else if x=s∧y=a then l2 else st.ol x y
 loc:=fun x o=>if x=s∧o∈l1 then b else st.loc x o }
def di (st:St)(a b:Own)(l1 l2:List Nat):St:={ st with
 sl:=fun y=>if y=b then l1++st.sl b else if y=a then l2 else st.sl y
 own:=fun x=>if x∈l1 then b else st.own x }
structure kI (c:Ch)(st:St)(s:Nat)(a b:Ct)(l1 l2:List Nat):Prop where
 ne:a≠b
 src:a.listed=true→st.ol s a=l1++l2
 at_:∀ o∈l1,st.loc s o=a
 nd:l1.Nodup
 an:a≠.none
 bn:b≠.none
 hb:∀ k,b = .head k→st.own s = .head k
 lb:b = .first∨(∃ k,b = .head k)→gy (st.lk s) (See.keyOf c.key s) l1 (gq (st.ol s b) (-1))
 fu:st.own s = .full→b≠.first
 sh:st.own s = .shelf→st.cut≠some s→a = .first→l2≠[]
 OG:∀ k,st.own s = .mine k→st.lv s=true
 em:st.hold=none→st.own s = .shelf→b = .first→(l1++st.ol s .first).length=c.O→(st.ol s .first).length=c.O
theorem kI.src' {s:Nat}{a b:Ct}{l1 l2:List Nat}(G:dH c mn cp st)(h:kI c st s a b l1 l2)(ha:a.listed=true):(∀ o,o∈l1→o∉l2):=by
 have h1:=G.od s a ha;rw[h.src ha]at h1;intro o ho xD;exact(List.nodup_append.1 h1).2.2 o ho o xD rfl
theorem ZsN {s:Nat}{a b:Ct}{l1 l2:List Nat}(G:dH c mn cp st)(h:kI c st s a b l1 l2)(x:Nat)(y:Ct)(hy:y.listed=true)(o:Nat):o∈(bW st s a b l1 l2).ol x y↔(bW st s a b l1 l2).loc x o=y:=by
 have hs:=h.src;have hd:=h.src' G;have hm:=G.om x y hy o;have ha:=h.at_ o;have hne:=h.ne;unfold bW;dsimp only;by_cases hx:x=s
 ·subst hx
  by_cases hb:y=b
  ·subst hb
   simp only[true_and,if_true,ZxQ,hm];by_cases ho:o∈l1<;>simp[ho]
  ·by_cases IR:y=a
   ·subst IR
    rw[if_neg (fun e=>hb e.2),if_pos ⟨rfl,rfl⟩];by_cases ho:o∈l1
    ·simp only[ho,true_and,if_true,hd hy o ho,false_iff]
     exact fun e=>hb e.symm
    ·simp only[ho,and_false,if_false,← hm,hs hy,ZxQ,false_or]
   ·rw[if_neg (fun e=>hb e.2),if_neg (fun e=>IR e.2),hm]
    by_cases ho:o∈l1
    ·simp only[ho,true_and,if_true,ha ho]
     constructor
     ·intro e
      exact absurd e.symm IR
     ·intro e
      exact absurd e.symm hb
    ·simp only[ho,and_false,if_false]
 ·simp only[hx,false_and,if_false,hm]
theorem ZsM {s:Nat}{a b:Ct}{l1 l2:List Nat}(G:dH c mn cp st)(h:kI c st s a b l1 l2)(x:Nat)(y:Ct)(hy:y.listed=true):((bW st s a b l1 l2).ol x y).Nodup:=by
 unfold bW;dsimp only;split
 ·rename_i e
  obtain⟨rfl,rfl⟩:=e;refine List.nodup_append.2 ⟨h.nd,G.od x y hy,?_⟩;intro p hp q hq e;subst e;rw[G.om x y hy,h.at_ p hp]at hq;exact h.ne hq
 ·split
  ·rename_i e
   obtain⟨rfl,rfl⟩:=e;have:=G.od x y hy;rw[h.src hy]at this;exact(List.nodup_append.1 this).2.1
  ·exact G.od x y hy
theorem EF {s:Nat}{a b:Ct}{l1 l2:List Nat}(hb:b≠.first)(ha:a≠.first)(x:Nat):(bW st s a b l1 l2).ol x .first=st.ol x .first:=by
 unfold bW;dsimp only;rw[if_neg (fun e=>hb e.2.symm),if_neg (fun e=>ha e.2.symm)]
theorem zP {l:List Nat}{n:Nat}(hn:l.Nodup)(hb:∀ o∈l,o<n):l.length≤n:=by
 have:=few (S:=n) (l:=l.map (fun o:Nat=>(o:Int))) (by
  unfold List.Nodup;rw[List.pairwise_map];exact hn.imp (fun h e=>h (Int.ofNat.inj e))) (by
  intro y hy;obtain⟨o,ho,rfl⟩:=List.mem_map.1 hy;have:=hb o ho;omega)
 simpa using this
theorem Zt9 {l:List Nat}{n:Nat}(hn:l.Nodup)(hb:∀ o∈l,o<n)(hl:l.length=n){o:Nat}(ho:o<n):o∈l:=by
 by_cases h:o∈l
 ·exact h
 ·have:=zP (l:=o::l) (n:=n) (List.nodup_cons.2 ⟨h,hn⟩) (by
   intro x hx;rcases List.mem_cons.1 hx with rfl|hx
   ·exact ho
   ·exact hb x hx)
  simp at this;omega
theorem Ey {α:Type}{p q:α→Bool}:∀ {l:List α},(∀ x∈l,p x=true→q x=true)→l.countP p≤l.countP q
 |[],_=>by simp
 |x::l,h=>by
  have ih:=Ey (l:=l) (fun y hy=>h y (ZnQ _ hy));simp only[List.countP_cons];by_cases hp:p x=true
  ·rw[if_pos hp,if_pos (h x ZnJ hp)]
   omega
  ·rw[if_neg hp]
   omega
theorem wQ {s:Nat}{a b:Ct}{l1 l2:List Nat}(G:dH c mn cp st)(h:kI c st s a b l1 l2):dH c mn cp (bW st s a b l1 l2):=by
 have DY:∀ x,x≠s→∀ y,(bW st s a b l1 l2).ol x y=st.ol x y:=fun x hx y=>by
  unfold bW;dsimp only;rw[if_neg (fun e=>hx e.1),if_neg (fun e=>hx e.1)]
 have NK:∀ x y,(y = .first∨∃ k,y = .head k)→gy (st.lk x) (See.keyOf c.key x) (st.ol x y) (-1)→gy (st.lk x) (See.keyOf c.key x) ((bW st s a b l1 l2).ol x y) (-1):=by
  intro x y hy hl;by_cases hx:x=s
  ·subst hx
   unfold bW;dsimp only;by_cases e:y=b
   ·subst e
    rw[if_pos ⟨rfl,rfl⟩,KU];exact⟨h.lb hy,hl⟩
   ·rw[if_neg (fun e2=>e e2.2)]
    by_cases e:y=a
    ·subst e
     rw[if_pos ⟨rfl,rfl⟩];rw[h.src (by rcases hy with rfl|⟨k,rfl⟩<;>rfl),KU]at hl;exact hl.2
    ·rw[if_neg (fun e2=>e e2.2)]
     exact hl
  ·rw[DY x hx]
   exact hl
 refine { G with om:=ZsN G h,od:=ZsM G h,ob := ?_,oh := ?_,live := ?_,making := ?_,full := ?_,shelf := ?_,l1 := ?_,l2 := ?_,rest := ?_ }
 ·intro x o
  unfold bW;dsimp only;split
  ·rename_i e
   obtain⟨rfl,ho⟩:=e;intro _;exact G.ob x o (by rw[h.at_ o ho];exact h.an)
  ·exact G.ob x o
 ·intro x o k
  unfold bW;dsimp only;split
  ·rename_i e
   obtain⟨rfl,ho⟩:=e;exact h.hb k
  ·exact G.oh x o k
 ·intro x o hx ho
  have:=G.live x o hx ho;unfold bW;dsimp only;split
  ·rename_i e
   obtain⟨rfl,fD⟩:=e;rw[h.at_ o fD]at this;constructor
   ·intro e
    exact absurd e h.bn
   ·intro e
    exact absurd (this.2 e) h.an
  ·exact this
 ·intro x k hx hl o ho
  unfold bW;dsimp only;split
  ·rename_i e
   obtain⟨rfl,fD⟩:=e;have:=h.OG k hx;rw[show st.lv x=false from hl]at this;cases this
  ·exact G.making x k hx hl o ho
 ·intro x hx
  obtain⟨h1,h2,h3⟩:=G.full x hx;refine⟨h1,h2,?_⟩;by_cases e:x=s
  ·subst e
   unfold bW;dsimp only;rw[if_neg (fun e=>h.fu hx e.2.symm)];split
   ·rename_i e
    obtain⟨_,rfl⟩:=e;have:=h.src rfl;rw[h3]at this;exact(List.nil_eq_append_iff.1 this).2
   ·exact h3
  ·rw[DY x e]
   exact h3
 ·intro x hx
  obtain⟨h1,h2⟩:=G.shelf x hx;refine⟨h1,fun hc=>⟨(h2 hc).1,?_⟩⟩;by_cases e:x=s
  ·subst e
   unfold bW;dsimp only;split
   ·rename_i e
    obtain⟨_,rfl⟩:=e;intro e2;exact(h2 hc).2 (List.append_eq_nil_iff.1 e2).2
   ·split
    ·rename_i e
     exact h.sh hx hc e.2.symm
    ·exact(h2 hc).2
  ·rw[DY x e]
   exact(h2 hc).2
 ·intro x
  exact NK x .first (.inl rfl) (G.l1 x)
 ·intro x k
  exact NK x (.head k) (.inr ⟨k,rfl⟩) (G.l2 x k)
 ·intro hh
  obtain⟨h1,h2,h3⟩:=G.rest hh;refine⟨h1,h2,ZxL ?_ h3⟩;refine Ey fun x hx he => ?_;have CJ:st.own x = .shelf:=(G.sm .shelf rfl x).1 hx;have bT:(bW st s a b l1 l2).dh x=st.dh x:=rfl;rw[Zxu,bT]at he;rw[Zxu];obtain⟨he,wm⟩:=he;refine⟨?_,wm⟩;by_cases e:x=s
  ·subst e
   unfold bW at he;dsimp only at he;split at he
   ·rename_i e
    obtain⟨_,rfl⟩:=e;have:=h.em hh CJ rfl (by simpa using he);simpa using this
   ·split at he
    ·rename_i e
     obtain⟨_,rfl⟩:=e;have h4:=h.src rfl;have h5:l2.length=c.O:=(by simpa using he);have h6:(st.ol x .first).length≤c.O:=by
      have hn:=G.od x .first rfl;have hb:∀ o∈st.ol x .first,o<c.O:=fun o ho=>(G.ob x o (by rw[(G.om x .first rfl o).1 ho];simp)).2;exact zP hn hb
     rw[h4]at h6;simp at h6;have h7:(st.ol x .first).length=c.O:=by
      rw[h4];simp;omega
     simpa using h7
    ·exact he
  ·rw[DY x e]at he
   exact he
end
end Cv
end Go.Proofs.YtfcpdlbkmkhhcaaGreatDoor
