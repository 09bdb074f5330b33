/-
  Texts of this claim, joined. No condition.
-/
import Derived.Test.YtfcpdlbkmkhhcaaGreatDoorCh1
import Derived.Test.YtfcpdlbkmkhhcaaGreatDoorCh24
import Derived.Test.YtfcpdlbkmkhhcaaGreatDoorCh23
import Derived.Deep.MidRow
import Derived.Test.YtfcpdlbkmkhhcaaGreatDoorCh12
namespace Go.Proofs.YtfcpdlbkmkhhcaaGreatDoor
set_option maxRecDepth 100000
set_option maxHeartbeats 40000000
namespace Cw
open Go Ex Mem See
open Go.RowKit
section
noncomputable def VG:List AV:=[si (v 10),si (v 11),.int .i64 78,.int .i64 0,.int .i64 2,si (v 15),si (v 16),su (v 17),su (v 18),su (v 19),su (v 20),su (v 21),si (v 22),si (v 23),si (v 24),si (v 25),si (v 26)]
noncomputable def VF (pc fin:Int):List AV:=[si (v 10),si (v 11),.int .i64 pc,.int .i64 fin,.int .i64 0,si (v 15),si (v 16),su (v 17),su (v 18),su (v 19),su (v 20),su (v 21),si (v 22),si (v 23),si (v 24),si (v 25),si (v 26)]
noncomputable def JC (fs:List (dB×Bool))(pc fin:Int):Bool:=BX Tryz.prog aJ.gs [] (FT []) [] 40 42 [.agg VG] ⟨[],vQ (v 31) (.dA 0),⟨60,1,0,3004⟩⟩ (.is (.gV [.agg (VF pc fin),.int .i64 0]) (vQ (v 31) (.dA 0))) fs
theorem gv1:JC [(.eq (v 25) (l 79),false),(.eq (v 25) (l 73),false),(.eq (v 25) (l 95),false),(.eq (v 25) (l 0),true)] 78 1=true:=by kernel_rfl
theorem gv2:JC [(.eq (v 25) (l 79),false),(.eq (v 25) (l 73),true)] 73 0=true:=by kernel_rfl
theorem gv3:JC [(.eq (v 25) (l 79),false),(.eq (v 25) (l 73),false),(.eq (v 25) (l 95),true)] 95 0=true:=by kernel_rfl
theorem gv4:JC [(.eq (v 25) (l 79),true),(.eq (v 17) (l 0),true)] 78 1=true:=by kernel_rfl
theorem gv5:JC [(.eq (v 25) (l 79),true),(.eq (v 17) (l 0),false)] 79 0=true:=by kernel_rfl
theorem Zk6 {f:FuncId}{args:List AV}{res:AV}{fs:List (dB×Bool)}(hr:BX Tryz.prog aJ.gs [] (FT []) [] 40 f args ⟨[],vQ (v 31) (.dA 0),⟨60,1,0,3004⟩⟩ (.is res (vQ (v 31) (.dA 0))) fs=true)(hsa:AV.shuts args=true)(hsr:res.shut=true)
 {V:Nat→Int} {g:List Nat} {cnt:Nat} (ok:∀ q∈fs,q.1.ev (eT V g)=q.2)
 (yK:V 30=(g.length:Int)) (MS:V 31=(cnt:Int)) (kN:g.length≤4096)
 {W w:World} {m:List (Nat×Obj)} {b0 b1:Nat} (ql:jR aJ.gs w) (hgW:∀ b l,sP b aJ.gs=some l→b<W.heap.size) (hO:Own W (mB b0 b1 g.length cnt::wB b1 g::m) w) :
 Calls Tryz.prog f (Ex.eU (eT V g) args).toArray w fun e w'=>e = .returned (Ex.valOf (eT V g) res)∧Own W (mB b0 b1 g.length cnt::wB b1 g::m) w':=by
 have hk:Jy aJ.gs [] j6 Tryz.prog (eT V g) ΩW (FT []):=fun fs ok args k hk=>by cases hk
 letI N:au:=nums aJ.gs [] j6 (eT V g) ΩW fs ok
 have e30:(v 30).ev (eT V g)=(g.length:Int):=(jk (by omega)).trans yK;have e31:(v 31).ev (eT V g)=(cnt:Int):=(jk (by omega)).trans MS;have dn:(l9 g).size=g.length:=by simp[l9,words]
 have kg:kD (eT V g) (.dA 0) (one (kS g)):=kD.var (by omega);have r0:rD 3002 3003 b0 2 b1 (l9 g).size 3002=some (b0,2):=if_pos rfl;have r1:rD 3002 3003 b0 2 b1 (l9 g).size 3003=some (b1,(l9 g).size):=by
  unfold rD;rw[if_neg (by omega),if_pos rfl]
 refine(TD (by kernel_rfl) hk (by omega) (by show 3002<3004;omega) (by show 3003<3004;omega) (by show 3004≤1000000;omega) ok hr
  (K:=fun a post=>a=res∧post=vQ (v 31) (.dA 0)) ⟨_,_,rfl,rfl,rfl⟩ ql hgW hO ?_ ?_ ?_).mono ?_
 ·refine⟨_,rfl,rfl,Zxt _,fun i v hi => ?_⟩
  match i with
  |0 =>
   simp only[ZxN,ZlP]at hi;subst hi;refine⟨rfl,.slice (some ⟨b1,0,none⟩) g.length g.length,rfl,?_⟩;unfold VR;exact⟨b1,_,g.length,g.length,r1,rfl,Zxt _,by unfold maxLen;omega,by omega,e30⟩
  |1 =>
   simp only[List.getElem?_cons_succ,ZxN,ZlP]at hi;subst hi;refine⟨rfl,.int .i64 (cnt:Int),rfl,?_⟩;unfold si VR;exact congrArg (Value.int .i64) e31.symm
  |i+2=>simp at hi
 ·exact TI (b:=b1) kg.is
 ·exact aH.wU hsa
 ·rintro e w' ⟨fs',ok',a,p0,p1,ρ',y,IZ,I4,⟨rfl,hp⟩,rfl,q0,q1,hv,T0,T1,h'⟩
  simp only[vQ,List.cons.injEq,ZxA,true_and,and_true]at hp;obtain⟨rfl,rfl⟩:=hp
  letI N':au:=nums aJ.gs [] j6 (eT V g) ΩW fs' ok'
  have hv:=VR.shut hv hsr;have h1:=Sj (n:=g.length) kg rfl (by rw[← dn];exact T1);obtain⟨cur,c1,c2,c3,c4⟩:=T0;simp only[ZlP]at c1;subst c1;obtain⟨-,y0,FP,vk⟩:=c4 0 _ rfl;obtain⟨-,y1,CL,Ba⟩:=c4 1 _ rfl;unfold VR at vk;unfold si VR at Ba;obtain⟨b,z,len,cc,hb,rfl,d1,d2,d3,d4⟩:=vk;rw[q1]at hb;cases hb;have d4':(g.length:Int)=len:=e30.symm.trans d4;have d3':cc * 1=g.length:=d3.trans dn;have hlen:len=g.length:=by omega
  have Hy:cc=g.length:=by omega
  subst hlen;subst Hy;have dJ:cur=#[.slice (some ⟨b1,0,none⟩) g.length g.length,.int .i64 ((cnt:Nat):Int)]:=by
   apply Array.ext
   ·exact c2
   ·intro i pG jy
    match i with
    |0 =>
     rw[ZxH pG]at FP;exact ZxZ FP
    |1 =>
     rw[ZxH pG]at CL;rw[ZxZ CL,Ba];exact congrArg (Value.int .i64) e31
    |i+2 =>
     have:cur.size=2:=c2;omega
  subst dJ;subst h1;exact⟨by rw[hv];rfl,h'⟩
variable {t t':Tk}{g:List Nat}
theorem Lg {fs:List (dB×Bool)}{pc fin:Int}(hr:JC fs pc fin=true)(tJ:∀ n cnt,Facts (eT (iy ⟨0,0,0,0⟩ 0 0 t n cnt (fun _=>0)) g) fs)(h1:t.pc=78)(h2:t.fin=0)(h3:t.want=2)(kN:g.length≤4096)
 {W w:World} {m:List (Nat×Obj)} {b0 b1 cnt:Nat} (ql:jR aJ.gs w) (hgW:∀ b l,sP b aJ.gs=some l→b<W.heap.size) (hO:Own W (mB b0 b1 g.length cnt::wB b1 g::m) w) :
 Calls Tryz.prog 42 #[bH t] w fun e w'=>e = .returned (.tuple #[bH { t with want:=0,pc:=pc,fin:=fin },.int .i64 0])∧Own W (mB b0 b1 g.length cnt::wB b1 g::m) w':=by
 have e:∀ i,i<2048→(v i).ev (eT (iy ⟨0,0,0,0⟩ 0 0 t g.length cnt (fun _=>0)) g)=iy ⟨0,0,0,0⟩ 0 0 t g.length cnt (fun _=>0) i:=fun i hi=>jk hi;have:=Zk6 (V:=iy ⟨0,0,0,0⟩ 0 0 t g.length cnt (fun _=>0)) hr rfl rfl (tJ _ _) rfl rfl kN ql hgW hO;have ea:(Ex.eU (eT (iy ⟨0,0,0,0⟩ 0 0 t g.length cnt (fun _=>0)) g) [AV.agg VG]).toArray=#[bH t]:=by
  simp only[bH,VG,si,su,Ex.valOf,Ex.eU,e 10 (by omega),e 11 (by omega),e 15 (by omega),e 16 (by omega),e 17 (by omega),e 18 (by omega),e 19 (by omega),e 20 (by omega),e 21 (by omega),e 22 (by omega),e 23 (by omega),e 24 (by omega),e 25 (by omega),e 26 (by omega),iy,h1,h2,h3]
 have er:Ex.valOf (eT (iy ⟨0,0,0,0⟩ 0 0 t g.length cnt (fun _=>0)) g) (.gV [.agg (VF pc fin),.int .i64 0]) = .tuple #[bH { t with want:=0,pc:=pc,fin:=fin },.int .i64 0]:=by
  simp only[bH,VF,si,su,Ex.valOf,Ex.eU,e 10 (by omega),e 11 (by omega),e 15 (by omega),e 16 (by omega),e 17 (by omega),e 18 (by omega),e 19 (by omega),e 20 (by omega),e 21 (by omega),e 22 (by omega),e 23 (by omega),e 24 (by omega),e 25 (by omega),e 26 (by omega),iy]
 rw[ea,er]at this;exact this
theorem Va {pc:Int}(h:t.fin=0):({ t with want:=0,pc:=pc,fin:=0 }:Tk)={ t with want:=0,pc:=pc }:=by
 cases t;simp only at h;subst h;rfl
theorem Zt3 {fin:Int}(h:t.pc=78):({ t with want:=0,pc:=78,fin:=fin }:Tk)={ t with want:=0,fin:=fin }:=by
 cases t;simp only at h;subst h;rfl
theorem Zml (hg:kY { t with want:=0 }=some t')(h1:t.pc=78)(h2:t.fin=0)(h3:t.want=2)(kN:g.length≤4096)
 {W w:World} {m:List (Nat×Obj)} {b0 b1 cnt:Nat} (ql:jR aJ.gs w) (hgW:∀ b l,sP b aJ.gs=some l→b<W.heap.size) (hO:Own W (mB b0 b1 g.length cnt::wB b1 g::m) w) :
 Calls Tryz.prog 42 #[bH t] w fun e w'=>e = .returned (.tuple #[bH t',.int .i64 0])∧Own W (mB b0 b1 g.length cnt::wB b1 g::m) w':=by
 have e25:∀ n cnt,(v 25).ev (eT (iy ⟨0,0,0,0⟩ 0 0 t n cnt (fun _=>0)) g)=t.back:=fun n cnt=>jk (by omega);have e17:∀ n cnt,(v 17).ev (eT (iy ⟨0,0,0,0⟩ 0 0 t n cnt (fun _=>0)) g)=(t.H:Int):=fun n cnt=>jk (by omega);unfold kY at hg;dsimp only at hg;by_cases q0:t.back=0
 ·rw[if_pos q0]at hg
  cases hg;have:=Lg (t:=t) (g:=g) gv1 (fun n cnt=>Facts.app (E5 (e25 n cnt) mM (by omega)) (Facts.app (E5 (e25 n cnt) mM (by omega)) (Facts.app (E5 (e25 n cnt) mM (by omega)) (GQ (e25 n cnt) mM (by omega))))) h1 h2 h3 kN ql hgW hO;rw[Zt3 h1]at this;exact this
 ·rw[if_neg q0]at hg
  by_cases q1:t.back=73
  ·rw[if_pos q1]at hg
   cases hg;have:=Lg (t:=t) (g:=g) gv2 (fun n cnt=>Facts.app (E5 (e25 n cnt) mM (by omega)) (GQ (e25 n cnt) mM (by omega))) h1 h2 h3 kN ql hgW hO;rw[Va h2]at this;exact this
  ·rw[if_neg q1]at hg
   by_cases q2:t.back=95
   ·rw[if_pos q2]at hg
    cases hg;have:=Lg (t:=t) (g:=g) gv3 (fun n cnt=>Facts.app (E5 (e25 n cnt) mM (by omega)) (Facts.app (E5 (e25 n cnt) mM (by omega)) (GQ (e25 n cnt) mM (by omega)))) h1 h2 h3 kN ql hgW hO;rw[Va h2]at this;exact this
   ·rw[if_neg q2]at hg
    by_cases q3:t.back=79
    ·rw[if_pos q3]at hg
     by_cases q4:t.H=0
     ·rw[if_pos q4]at hg
      cases hg;have:=Lg (t:=t) (g:=g) gv4 (fun n cnt=>Facts.app (GQ (e25 n cnt) mM (by omega)) (GQ (e17 n cnt) mM (by omega))) h1 h2 h3 kN ql hgW hO;rw[Zt3 h1]at this;exact this
     ·rw[if_neg q4]at hg
      cases hg;have:=Lg (t:=t) (g:=g) gv5 (fun n cnt=>Facts.app (GQ (e25 n cnt) mM (by omega)) (E5 (e17 n cnt) mM (by omega))) h1 h2 h3 kN ql hgW hO;rw[Va h2]at this;exact this
    ·rw[if_neg q3]at hg
     cases hg
end
end Cw
namespace Cw
open Go Mem See
open Go.RowKit
attribute [local go_sem ↓] Go.wp_at_zero Go.wp_at_succ
section
variable {W w:World}{m:List (Nat×Obj)}{bc b0 b1 bt b:Nat}{c:Ch}{mn cp cnt:Nat}{t t':Tk}{g g':List Nat}{es:Array MapEntry}{ck n:Nat}{f:Int→Option Value}{i:Nat}
theorem Zkz (h:Own W (aY bc b0 bt c mn cp::(bt,.map es ck)::mB b0 b1 g.length cnt::wB b1 g::m) w)(hT:Ex.jR aJ.gs W)(hC:c.C≤8)(kN:g.length≤4096)(hv:VM es ck n f)(hi:i<c.C)(hf:f i=some (bH t))
 (hp:t.pc=78) (aI:t.fin=0) (hw:t.want=2) (hg:kY { t with want:=0 }=some t') (lh:t'.aB<9) :
 Calls Tryz.prog 25 #[.pointer (some ⟨bc,0,Option.none⟩),.int .i64 (i:Int)] w fun e w'=>∃ es' bO,e = .returned (.tuple #[bH t',.int .i64 0])∧VM es' bO (n+1) (GK f t')∧Own W (aY bc b0 bt c mn cp::(bt,.map es' bO)::mB b0 b1 g.length cnt::wB b1 g::m) w':=by
 have h1:Own W ((w.heap.size,z17)::aY bc b0 bt c mn cp::(bt,.map es ck)::mB b0 b1 g.length cnt::wB b1 g::m) (w.alloc z17):=h.new z17;obtain⟨B,hB⟩:=Zx9 (w.heap.size);rw[hB]at h1;have h1:Own W (aY bc b0 bt c mn cp::(bt,.map es ck)::(B,z17)::mB b0 b1 g.length cnt::wB b1 g::m) (w.alloc z17):=h1.perm (yU _ _ _ _).symm;obtain⟨wa,eQ⟩:=Zx9 (w.alloc z17);rw[eQ]at h1;have HV:=ZkQ hv;have hm:=SK h1 hC hv hi hf;rw[hw]at hm;have HM:=ZkQ hm;have HG:Hid (∀ {w:World} {m:List (Nat×Obj)},Own W (mB b0 b1 g.length cnt::wB b1 g::m) w→Calls Tryz.prog 42 #[bH t] w fun e w'=>e = .returned (.tuple #[bH t',.int .i64 0])∧Own W (mB b0 b1 g.length cnt::wB b1 g::m) w'):=fun h=>Zml hg hp aI hw kN (Pz hT h) (TW hT) h;have HI:=ZkQ lh;clear h h1 hv hf hi hw hm hT kN hp aI hg lh
 go_enter Tryz.func25,Tryz.ntmps25
 go_wp2_with fail
 refine HM.out.mono ?_;rintro e w2 ⟨rfl,h2⟩;have h3:Own W ((w2.heap.size,z17)::aY bc b0 bt c mn cp::(bt,.map es ck)::(B,z17)::mB b0 b1 g.length cnt::wB b1 g::m) (w2.alloc z17):=h2.new z17;obtain⟨B2,hB2⟩:∃ B,w2.heap.size=B:=⟨_,rfl⟩;rw[hB2]at h3;have H3:=ZkQ h3;have HT:=ZkQ (jU t);clear h2 h3 HM eQ hB
 go_wp2_with (first
  |(refine jm (t:=59) (new:=dm t) rfl _ _ rfl rfl rfl gQ H3.out rfl HT.out ?_;intro w3 hS;have HX:Hid (Own W (tB B2 t::aY bc b0 bt c mn cp::(bt,.map es ck)::(B,z17)::mB b0 b1 g.length cnt::wB b1 g::m) w3):=hS;clear hS hB2)
  |(refine qC (t:=59) (old:=dm t) rfl _ rfl rfl Tryz.underlying59 HX.out gQ ?_))
 have H4:Hid (Own W (mB b0 b1 g.length cnt::wB b1 g::tB B2 t::aY bc b0 bt c mn cp::(bt,.map es ck)::(B,z17)::m) w3):=HX.out.perm (fO fun _ q=>by simp only[Zxv];omega);refine(HG.out H4.out).mono ?_;rintro e w5 ⟨rfl,h5⟩;have H5:Hid (Own W (aY bc b0 bt c mn cp::(bt,.map es ck)::mB b0 b1 g.length cnt::wB b1 g::tB B2 t::(B,z17)::m) w5):=h5.perm (fO fun _ q=>by simp only[Zxv];omega);clear h5 H4 HX H3;go_wp2_with fail
 refine(Pb H5.out HV.out HI.out).mono ?_;rintro e w9 ⟨es',bO,rfl,k1,h9⟩;have K1:=ZkQ k1;have H9:Hid (Own W ((B,z17)::aY bc b0 bt c mn cp::(bt,.map es' bO)::mB b0 b1 g.length cnt::wB b1 g::tB B2 t::m) w9):=h9.perm (fO fun _ q=>by simp only[Zxv];omega);have zf:=ZkQ (jU t');clear k1 h9
 go_wp2_with (first
  |(refine jm (t:=59) (new:=dm t') rfl _ _ rfl rfl rfl gQ H9.out rfl zf.out ?_;intro Ej hT))
 obtain⟨⟨x0,x1,x2,x3,x4,x5,x6,x7,x8,x9,x10,gz,gB,gD,gG,gH,fT⟩,-⟩:=iV (t:=t') hT;have hT:Own W (tB B t'::aY bc b0 bt c mn cp::(bt,.map es' bO)::mB b0 b1 g.length cnt::wB b1 g::tB B2 t::m) Ej:=hT;have hT:Own W (tB B t'::tB B2 t::aY bc b0 bt c mn cp::(bt,.map es' bO)::mB b0 b1 g.length cnt::wB b1 g::m) Ej:=hT.perm (fO fun _ q=>by simp only[Zxv];omega);exact bodyPost_ret (v:=.tuple #[bH t',.int .i64 0]) (by simp[results,Tryz.f25,go_sem,x0,x1,x2,x3,x4,x5,x6,x7,x8,x9,x10,gz,gB,gD,gG,gH,fT,bH]) rfl ⟨es',bO,rfl,K1.out,hT.skip.skip⟩
end
end Cw
namespace Cw
open Go Mem See
open Go.RowKit
attribute [local go_sem ↓] Go.wp_at_zero Go.wp_at_succ
section
variable {W w:World}{m:List (Nat×Obj)}{t:Tk}{s:Int}
theorem Zmh (h:Own W m w)(hf:t.fin=0)(hw:t.want=1) :
 Calls Tryz.prog 32 #[bH t,.bool false,.int .i64 s] w fun e w'=>e = .returned (.tuple #[bH { t with want:=0,fin:=2 },.int .i64 0])∧Own W m w':=by
 obtain⟨jb,aB,pc,fin,want,aA,obj,Hh,Tt,Ff,Kk,Nn,last,many,bS,back,for_⟩:=t;simp only at hf hw;subst hf hw;have h1:=h.new (tB 0 ⟨jb,aB,pc,0,1,aA,obj,Hh,Tt,Ff,Kk,Nn,last,many,bS,back,for_⟩).2;have h2:=h1.new z17;rw[World.size_alloc]at h2;obtain⟨B,hB⟩:=Zx9 (w.heap.size);rw[hB]at h2;have h2:Own W ((B+1,z17)::tB B ⟨jb,aB,pc,0,1,aA,obj,Hh,Tt,Ff,Kk,Nn,last,many,bS,back,for_⟩::m) _:=h2;obtain⟨wa,eQ⟩:=Zx9 ((w.alloc (tB 0 ⟨jb,aB,pc,0,1,aA,obj,Hh,Tt,Ff,Kk,Nn,last,many,bS,back,for_⟩).2).alloc z17);rw[eQ]at h2;obtain⟨⟨x0,x1,x2,x3,x4,x5,x6,x7,x8,x9,x10,gz,gB,gD,gG,gH,fT⟩,fz⟩:=iV (t:=⟨jb,aB,pc,0,1,aA,obj,Hh,Tt,Ff,Kk,Nn,last,many,bS,back,for_⟩) h2.skip;have fz3:=fz 3;have fz4:=fz 4;have h3:=((h2.perm (sw _ _ _)).set 4 (.int .i64 0)).set 3 (.int .i64 2);have h4:Own W ((B+1,z17)::tB B ⟨jb,aB,pc,2,0,aA,obj,Hh,Tt,Ff,Kk,Nn,last,many,bS,back,for_⟩::m) _:=h3.perm (sw _ _ _);have h3:Own W (tB B ⟨jb,aB,pc,2,0,aA,obj,Hh,Tt,Ff,Kk,Nn,last,many,bS,back,for_⟩::(B+1,z17)::m) _:=h3;have H4:=ZkQ h4;have HX:=ZkQ h3;have HT:=ZkQ (jU ⟨jb,aB,pc,2,0,aA,obj,Hh,Tt,Ff,Kk,Nn,last,many,bS,back,for_⟩);simp only at x3 x4;clear h h1 h2 h3 h4 fz x0 x1 x2 x5 x6 x7 x8 x9 x10 gz gB gD gG gH fT;simp only[tB,dm]at eQ;unfold bH;simp only
 go_enter Tryz.func32,Tryz.ntmps32
 go_wp2_with (first
  |(refine qC (t:=59) (old:=dm ⟨jb,aB,pc,2,0,aA,obj,Hh,Tt,Ff,Kk,Nn,last,many,bS,back,for_⟩) rfl _ rfl rfl Tryz.underlying59 HX.out gQ ?_)
  |(refine jm (t:=59) (new:=dm ⟨jb,aB,pc,2,0,aA,obj,Hh,Tt,Ff,Kk,Nn,last,many,bS,back,for_⟩) rfl _ _ rfl rfl rfl gQ H4.out rfl HT.out ?_;intro w4 hT))
 obtain⟨⟨x0,x1,x2,x3,x4,x5,x6,x7,x8,x9,x10,gz,gB,gD,gG,gH,fT⟩,-⟩:=iV (t:=⟨jb,aB,pc,2,0,aA,obj,Hh,Tt,Ff,Kk,Nn,last,many,bS,back,for_⟩) hT;exact bodyPost_ret (v:=.tuple #[bH ⟨jb,aB,pc,2,0,aA,obj,Hh,Tt,Ff,Kk,Nn,last,many,bS,back,for_⟩,.int .i64 0]) (by simp[results,Tryz.f32,go_sem,x0,x1,x2,x3,x4,x5,x6,x7,x8,x9,x10,gz,gB,gD,gG,gH,fT,bH]) rfl ⟨rfl,hT.skip.skip⟩
end
end Cw
namespace Cw
open Go Mem See
open Go.RowKit
attribute [local go_sem ↓] Go.wp_at_zero Go.wp_at_succ
section
variable {W w:World}{m:List (Nat×Obj)}{t:Tk}{s:Int}
theorem ZkD (h:Own W m w)(hs:0≤s∧s<32)(hf:t.fin=0)(hw:t.want=1) :
 Calls Tryz.prog 32 #[bH t,.bool true,.int .i64 s] w fun e w'=>e = .returned (.tuple #[bH { t with want:=0,aA:=s,many:=0,pc:=43 },.int .i64 0])∧Own W m w':=by
 obtain⟨jb,aB,pc,fin,want,aA,obj,Hh,Tt,Ff,Kk,Nn,last,many,bS,back,for_⟩:=t;simp only at hf hw;subst hf hw;have h1:=h.new (tB 0 ⟨jb,aB,pc,0,1,aA,obj,Hh,Tt,Ff,Kk,Nn,last,many,bS,back,for_⟩).2;have h2:=h1.new z17;rw[World.size_alloc]at h2;obtain⟨B,hB⟩:=Zx9 (w.heap.size);rw[hB]at h2;have h2:Own W ((B+1,z17)::tB B ⟨jb,aB,pc,0,1,aA,obj,Hh,Tt,Ff,Kk,Nn,last,many,bS,back,for_⟩::m) _:=h2;obtain⟨wa,eQ⟩:=Zx9 ((w.alloc (tB 0 ⟨jb,aB,pc,0,1,aA,obj,Hh,Tt,Ff,Kk,Nn,last,many,bS,back,for_⟩).2).alloc z17);rw[eQ]at h2;obtain⟨⟨x0,x1,x2,x3,x4,x5,x6,x7,x8,x9,x10,gz,gB,gD,gG,gH,fT⟩,fz⟩:=iV (t:=⟨jb,aB,pc,0,1,aA,obj,Hh,Tt,Ff,Kk,Nn,last,many,bS,back,for_⟩) h2.skip;have JX:=fz 2;have fz5:=fz 5;have fz13:=fz 13;have d1:¬ s<0:=by omega
 have d2:¬ 32≤s:=by omega
 have fz4:=fz 4;have h3:=((h2.perm (sw _ _ _)).set 4 (.int .i64 0)).set 5 (.int .i64 s) |>.set 13 (.int .i64 0) |>.set 2 (.int .i64 43);have h4:Own W ((B+1,z17)::tB B ⟨jb,aB,43,0,0,s,obj,Hh,Tt,Ff,Kk,Nn,last,0,bS,back,for_⟩::m) _:=h3.perm (sw _ _ _);have h3:Own W (tB B ⟨jb,aB,43,0,0,s,obj,Hh,Tt,Ff,Kk,Nn,last,0,bS,back,for_⟩::(B+1,z17)::m) _:=h3;have H4:=ZkQ h4;have HX:=ZkQ h3;have HT:=ZkQ (jU ⟨jb,aB,43,0,0,s,obj,Hh,Tt,Ff,Kk,Nn,last,0,bS,back,for_⟩);simp only at x2 x3 x4 x5 gD;clear h h1 h2 h3 h4 fz x0 x1 x6 x7 x8 x9 x10 gz gB gG gH fT;simp only[tB,dm]at eQ;unfold bH;simp only
 go_enter Tryz.func32,Tryz.ntmps32
 go_wp2_with (first
  |(refine qC (t:=59) (old:=dm ⟨jb,aB,43,0,0,s,obj,Hh,Tt,Ff,Kk,Nn,last,0,bS,back,for_⟩) rfl _ rfl rfl Tryz.underlying59 HX.out gQ ?_)
  |(refine jm (t:=59) (new:=dm ⟨jb,aB,43,0,0,s,obj,Hh,Tt,Ff,Kk,Nn,last,0,bS,back,for_⟩) rfl _ _ rfl rfl rfl gQ H4.out rfl HT.out ?_;intro w4 hT))
 obtain⟨⟨x0,x1,x2,x3,x4,x5,x6,x7,x8,x9,x10,gz,gB,gD,gG,gH,fT⟩,-⟩:=iV (t:=⟨jb,aB,43,0,0,s,obj,Hh,Tt,Ff,Kk,Nn,last,0,bS,back,for_⟩) hT;exact bodyPost_ret (v:=.tuple #[bH ⟨jb,aB,43,0,0,s,obj,Hh,Tt,Ff,Kk,Nn,last,0,bS,back,for_⟩,.int .i64 0]) (by simp[results,Tryz.f32,go_sem,x0,x1,x2,x3,x4,x5,x6,x7,x8,x9,x10,gz,gB,gD,gG,gH,fT,bH]) rfl ⟨rfl,hT.skip.skip⟩
end
end Cw
section
open Go.RowKit
section
variable {P:Program}{W w:World}{m:List (Nat×Obj)}{b:Nat}{pre old new post:List Value}{e t:TypeId}{v:Value}
theorem XF {d:TypeDesc}(h:Own W ((b,.cells (pre++old++post).toArray e)::m) w)(hu:P.underlying t=some d)(hd:d.isRow=true)(hs:Ex.iA P t=some old.length) :
 (Instr.loadAt t (.pointer (some ⟨b,pre.length,none⟩))).run P w = .ok (.agg old.toArray) w:=by
 have dJ:=h.get (ZnJ);have iK:w.rangeAt b pre.length old:=fun j z hz=>by
  have hj:j<old.length:=(List.getElem?_eq_some_iff.1 hz).1;simp only[World.cell?,dJ];rw[Zx3,ZxG,ZxY (by omega),Nat.add_sub_cancel_left,Zx0 hj];exact hz
 exact run_loadAt_mid (P:=P) w b pre.length t old d iK hu hd (by rw[Ex.K8 hs])
end
end
section
open Go.RowKit
section
variable {P:Program}
theorem Zrk (t:TypeId)(i:TypeInfo)(z:Value)(hi:P.info? t=some i)(hz:i.zero=some z)(w:World) :
 (Instr.alloc t true (.tuple #[])).run P w = .ok (.pointer (some ⟨w.heap.size,0,none⟩)) (w.alloc (.cells z.cells t)):=by
 unfold Instr.alloc;simp[zeroValue,newVar,newRow,typeInfo,hi,hz,go_sem]
theorem Zvx {ops:Array Oper}{rest:List Oper}{o:Oper}{a:Act}{w:World}{Q:Exit→Act→World→Prop}(hg:o.guard=none)(t:TypeId)(ho:o.op = .alloc t)
 (i:TypeInfo) (z:Value) (hi:P.info? t=some i) (hz:i.zero=some z)
 (h:wpList P ops Q rest (a.put o.dst (.pointer (some ⟨w.heap.size,0,none⟩))) (w.alloc (.cells z.cells t))):wpList P ops Q (o::rest) a w:=by
 have aO:(execOp a.eval o).run P w = .ok (.value (.pointer (some ⟨w.heap.size,0,none⟩))) (w.alloc (.cells z.cells t)):=by
  have h1:=Zrk (P:=P) t i z hi hz w;unfold execOp;rw[ho];simp[h1]
 refine wpList_plain hg fun K hK => ?_;unfold Oper.wp;rw[aO,Oper.upon_value];exact hK _ _ h
end
end
end Go.Proofs.YtfcpdlbkmkhhcaaGreatDoor
