/-
  Texts of this claim, joined. No condition.
-/
import Derived.Test.YtfcpdlbkmkhhcaaGreatDoorCh1
import Derived.Test.YtfcpdlbkmkhhcaaGreatDoorCh16
import Derived.Test.YtfcpdlbkmkhhcaaGreatDoorCh14
namespace Go.Proofs.YtfcpdlbkmkhhcaaGreatDoor
set_option maxRecDepth 100000
set_option maxHeartbeats 40000000
namespace See
open Go.RowKit
open bI (Ok)
attribute [local go_sem ↓] Go.wp_at_zero Go.wp_at_succ
section
variable {W w:World}{M m:List (Nat×Obj)}{B o N k b:Nat}{g:List Nat}{c:Ch}{d e:Int}
def Zv3 (W:World)(m:List (Nat×Obj))(r:Option JK)(e:Ending)(w':World):Prop:=match r with
 |some x=>∃ lv lb pv pb,e = .returned (.tuple #[.agg #[.int .i64 x.aA,lv,.int .u64 x.turn,pv],.bool true])∧Hid (lS true lv x.list lb)∧Hid (lS true pv x.parts pb)∧Own W (lb++(pb++m)) w'
 |none=>e = .returned (.tuple #[.agg #[.int .i64 0,.slice none 0 0,.int .u64 0,.slice none 0 0],.bool false])∧Own W m w'
def lW (b:Nat)(s:Int)(lv:Value)(t:Int)(pv:Value):Nat×Obj:=(b,.cells #[.int .i64 s,lv,.int .u64 t,pv] 52)
theorem kT {s t:Int}{lv pv:Value}(h:Own W (lW b s lv t pv::m) w):(w.cell? ⟨b,0,none⟩=some (.int .i64 s)∧w.cell? ⟨b,1,none⟩=some lv∧w.cell? ⟨b,2,none⟩=some (.int .u64 t)∧w.cell? ⟨b,3,none⟩=some pv)∧(w.frozen? ⟨b,0,none⟩=false∧w.frozen? ⟨b,1,none⟩=false∧w.frozen? ⟨b,2,none⟩=false∧w.frozen? ⟨b,3,none⟩=false) :=
 ⟨⟨h.cell ZnJ 0,h.cell ZnJ 1,h.cell ZnJ 2,h.cell ZnJ 3⟩,⟨h.frozen ZnJ 0,h.frozen ZnJ 1,h.frozen ZnJ 2,h.frozen ZnJ 3⟩⟩
theorem Zvc {α:Type}(b6 lb:List α)(x y:α)(m:List α):(b6++(lb++(x::y::m))).Perm (x::(y::(b6++(lb++m)))):=by
 have h1:(b6++(lb++(x::y::m))).Perm (x::(b6++(lb++(y::m)))):=by
  rw[← ZxG,← ZxG];exact ZxT
 refine h1.trans (List.Perm.cons x ?_);rw[← ZxG,← ZxG];exact ZxT
theorem yJ {b:Nat}{s t s' t':Int}{lv pv jO pv':Value}(h:Own W (lW b s lv t pv::m) w):Own W (lW b s' jO t' pv'::m) ((((w.setCell ⟨b,0,none⟩ (.int .i64 s')).setCell ⟨b,1,none⟩ jO).setCell ⟨b,2,none⟩ (.int .u64 t')).setCell ⟨b,3,none⟩ pv'):=by
 have h1:=(((h.set 0 (.int .i64 s')).set 1 jO).set 2 (.int .u64 t')).set 3 pv';exact h1
theorem Vu {b:Nat}{s t:Int}{lv pv jO:Value}(h:Own W (lW b s lv t pv::m) w):Own W (lW b s jO t pv::m) (w.setCell ⟨b,1,none⟩ jO):=h.set 1 jO
theorem Q6 {b:Nat}{s t:Int}{lv pv pv':Value}(h:Own W (lW b s lv t pv::m) w):Own W (lW b s lv t pv'::m) (w.setCell ⟨b,3,none⟩ pv'):=h.set 3 pv'
theorem Zvv (h:Own W m w)(hc:sI c d e)(hw:xY W m B o N k g c)(i:Nat)(hi:i<c.C) :
 Calls Tryz.prog 34 #[rV B o N k c d e,.int .i64 i] w (Zv3 W m (DI c g i)):=by
 obtain⟨n1,n2,n3,n4,n5,n6⟩:=hc.nums;have h1:=(h.new (.cells #[.slice (some ⟨B,o,none⟩) N k,.int .i64 c.C,.int .i64 c.S,.int .i64 c.O,.int .i64 d,.int .i64 e,.int .u64 c.key] 87)).new (.cells #[.int .i64 0,.slice none 0 0,.int .u64 0,.slice none 0 0] 52);obtain⟨b,hb⟩:=Zx9 (w.heap.size);simp only[World.size_alloc]at h1;rw[hb]at h1;have h1:Own W (lW (b+1) 0 (.slice none 0 0) 0 (.slice none 0 0)::(iQ b B o N k c d e::m)) _:=h1;obtain⟨y0,y1,y2,y3,y4,y5,y6⟩:=iC h1.skip;have hN:=hw.n;unfold Ch.words at hN;have Ny:0≤(i:Int)∧(i:Int)<(c.C:Int):=by omega
 obtain⟨p,hp⟩:∃ p:Nat,4 * i=p:=⟨_,rfl⟩;have rY:4 * (i:Int)=(p:Int):=by omega
 have oz:=ZkQ rY;have D9:p+2<N:=by omega
 have xE:p≤32:=by omega
 have N9:(0:Int)≤(p:Int):=by omega
 have jE:(p:Int)<(N:Int):=by omega
 have mD:(p:Int)+1<(N:Int):=by omega
 have WB:(p:Int)+2<(N:Int):=by omega
 obtain⟨x0,dw⟩:∃ x,g[p]?=some x:=⟨_,Zxp (by rw[hw.len];omega)⟩;obtain⟨x1,qQ⟩:∃ x,g[p+1]?=some x:=⟨_,Zxp (by rw[hw.len];omega)⟩;obtain⟨p2,Od⟩:∃ p2:Nat,p+2=p2:=⟨_,rfl⟩;have hp6:(0:Int)≤(p2:Int):=by omega
 have hp7:(p2:Int)<(N:Int):=by omega
 have Oz:IntKind.i64.wrap ((p:Int)+2)=(p2:Int):=by rw[IntWalk.i64_in]<;>omega
 obtain⟨x2,CJ⟩:∃ x,g[p2]?=some x:=⟨_,Zxp (by rw[hw.len];omega)⟩;have a0:at_ g (4 * i)=x0:=by unfold at_;rw[hp,Zxx,dw];rfl
 have a1:at_ g (4 * i+1)=x1:=by unfold at_;rw[hp,Zxx,qQ];rfl
 have a2:at_ g (4 * i+2)=x2:=by unfold at_;rw[hp,Od,Zxx,CJ];rfl
 have hBlt:B<w.heap.size:=World.block_lt_of_cell? w _ (hw.rd w h p x0 dw);rw[hb]at hBlt;have hBn1:B≠b+1:=by omega
 have hBn2:b+1≠B:=by omega
 have hbn1:b≠b+1:=by omega
 have hbn2:b+1≠b:=by omega
 have hp4:(0:Int)≤(p:Int)+2:=by omega
 have hp5:(0:Int)≤(p:Int)+1:=by omega
 have tK:=fun w=>Zf x0 (hw.CP x0 (Zxz dw)) w;have OZ:Hid (x2<18446744073709551616):=hw.CP x2 (Zxz CJ);have HG:Hid (∀ ws,Own W m ws→ws.cell? ⟨B,o+p,none⟩=some (.int .u64 (x0:Int))∧ws.cell? ⟨B,o+(p+1),none⟩=some (.int .u64 (x1:Int))∧ws.cell? ⟨B,o+p2,none⟩=some (.int .u64 (x2:Int))):=fun ws kX=>⟨hw.rd ws kX p x0 dw,hw.rd ws kX (p+1) x1 qQ,hw.rd ws kX p2 x2 CJ⟩;unfold DI;rw[a0,a1,a2];unfold QK at tK;have HC:=ZkQ hc;have HW:=ZkQ hw;have HI:=ZkQ Ny;have H1:=ZkQ h1;clear Od WB hN hp rY dw qQ CJ a0 a1 a2 hw hc Ny h1 h;obtain⟨q0,q1,q2⟩:=HG.out _ H1.out.skip.skip;cases hh:sO x0 with
 |none =>
  rw[hh]at tK;have HH:=ZkQ tK;clear hh tK;unfold rV
  go_enter Tryz.func34,Tryz.ntmps34
  go_wp2_with fail
  refine(Apart.Cb HC.out.ok HI.out H1.out).mono ?_;rintro r w2 ⟨rfl,h2⟩;rw[oz.out];clear y0 y1 y2 y3 y4 y5 y6 q0 q1 q2;obtain⟨y0,y1,y2,y3,y4,y5,y6⟩:=iC h2.skip;obtain⟨q0,q1,q2⟩:=HG.out _ h2.skip.skip;obtain⟨⟨z0,z1,z2,z3⟩,⟨f0,f1,f2,f3⟩⟩:=kT h2;go_wp2_with (go_at_call 52;refine(HH.out _).mono ?_;rintro r w3 ⟨rfl,rfl⟩)
  have h9:=yJ (s':=0) (jO:=.slice none 0 0) (t':=0) (pv':=.slice none 0 0) h2;obtain⟨⟨e0,e1,e2,e3⟩,-⟩:=kT h9;exact bodyPost_ret (v:=.tuple #[.agg #[.int .i64 0,.slice none 0 0,.int .u64 0,.slice none 0 0],.bool false]) (by simp[results,Tryz.f34,go_sem,e0,e1,e2,e3]) rfl ⟨rfl,h9.skip.skip⟩
 |some v =>
  obtain⟨s,ob⟩:=v;rw[hh]at tK;have eD:=LB hh;simp only at tK ⊢;have HH:=ZkQ tK;clear hh tK;by_cases tN:(c.S:Int)≤s
  ·have xA:vT c g s ob=none:=by
    unfold vT;rw[if_neg (by omega)]
   rw[if_neg (by omega),xA];simp only;clear xA eD;unfold rV
   go_enter Tryz.func34,Tryz.ntmps34
   go_wp2_with fail
   refine(Apart.Cb HC.out.ok HI.out H1.out).mono ?_;rintro r w2 ⟨rfl,h2⟩;rw[oz.out];clear y0 y1 y2 y3 y4 y5 y6 q0 q1 q2;obtain⟨y0,y1,y2,y3,y4,y5,y6⟩:=iC h2.skip;obtain⟨q0,q1,q2⟩:=HG.out _ h2.skip.skip;obtain⟨⟨z0,z1,z2,z3⟩,⟨f0,f1,f2,f3⟩⟩:=kT h2;go_wp2_with (go_at_call 52;refine(HH.out _).mono ?_;rintro r w3 ⟨rfl,rfl⟩)
   have h9:=yJ (s':=0) (jO:=.slice none 0 0) (t':=0) (pv':=.slice none 0 0) h2;obtain⟨⟨e0,e1,e2,e3⟩,-⟩:=kT h9;exact bodyPost_ret (v:=.tuple #[.agg #[.int .i64 0,.slice none 0 0,.int .u64 0,.slice none 0 0],.bool false]) (by simp[results,Tryz.f34,go_sem,e0,e1,e2,e3]) rfl ⟨rfl,h9.skip.skip⟩
  ·have hsn:¬ (c.S:Int)≤s:=tN
   by_cases qO:s = -1
   ·subst qO
    rw[if_pos rfl];simp only;clear eD;cases Ea:DJ c g x2 with
    |none =>
     simp only;have F4:=ZkQ Ea;clear Ea;unfold rV
     go_enter Tryz.func34,Tryz.ntmps34
     go_wp2_with fail
     refine(Apart.Cb HC.out.ok HI.out H1.out).mono ?_;rintro r w2 ⟨rfl,h2⟩;rw[oz.out];clear y0 y1 y2 y3 y4 y5 y6 q0 q1 q2;obtain⟨y0,y1,y2,y3,y4,y5,y6⟩:=iC h2.skip;obtain⟨q0,q1,q2⟩:=HG.out _ h2.skip.skip;obtain⟨⟨z0,z1,z2,z3⟩,⟨f0,f1,f2,f3⟩⟩:=kT h2;go_wp2_with (go_at_call 52;refine(HH.out _).mono ?_;rintro r w3 ⟨rfl,rfl⟩)
     have h5:=yJ (s' := -1) (jO:=.slice none 0 0) (t':=(x1:Int)) (pv':=.slice none 0 0) h2;obtain⟨w5,jN⟩:=Zx9 ((((w2.setCell ⟨b+1,0,none⟩ (.int .i64 (-1))).setCell ⟨b+1,1,none⟩ (.slice none 0 0)).setCell ⟨b+1,2,none⟩ (.int .u64 (x1:Int))).setCell ⟨b+1,3,none⟩ (.slice none 0 0));rw[jN]at h5 ⊢;have H5:Hid (Own W (([]:List (Nat×Obj))++(lW (b+1) (-1) (.slice none 0 0) x1 (.slice none 0 0)::(iQ b B o N k c d e::m))) w5):=h5;clear h5 jN y0 y1 y2 y3 y4 y5 y6 q0 q1 q2 z0 z1 z2 z3 f0 f1 f2 f3 h2;have gM:=fun ws (kX:Own W ([]++(lW (b+1) (-1) (.slice none 0 0) x1 (.slice none 0 0)::(iQ b B o N k c d e::m))) ws)=>QW kX HC.out (((HW.out.more (m':=[iQ b B o N k c d e])).more (m':=[lW (b+1) (-1) (.slice none 0 0) x1 (.slice none 0 0)])).more (m':=[])) x2 OZ.out;have rW:chain xR (nI c g) c.S (c.S+1) [] x2=DJ c g x2:=rfl;rw[rW,F4.out]at gM;have h5:=H5.out;have jN:=h5.bD;obtain⟨y0,y1,y2,y3,y4,y5,y6⟩:=iC jN.skip;obtain⟨q0,q1,q2⟩:=HG.out _ jN.skip.skip;obtain⟨⟨z0,z1,z2,z3⟩,⟨f0,f1,f2,f3⟩⟩:=kT jN;have yV:=ZkQ gM;clear rW gM h5 jN
     go_region_held3 (fun w'=>w'.cell? ⟨b,0,none⟩=some (.slice (some ⟨B,o,none⟩) N k)∧w'.cell? ⟨b,1,none⟩=some (.int .i64 c.C)∧w'.cell? ⟨b,2,none⟩=some (.int .i64 c.S)∧w'.cell? ⟨b,3,none⟩=some (.int .i64 c.O)∧w'.cell? ⟨b,4,none⟩=some (.int .i64 d)∧w'.cell? ⟨b,5,none⟩=some (.int .i64 e)∧w'.cell? ⟨b,6,none⟩=some (.int .u64 c.key)∧w'.cell? ⟨B,o+p2,none⟩=some (.int .u64 (x2:Int))) (first|(refine⟨?_,?_,?_,?_,?_,?_,?_,?_⟩<;>assumption)|go_keep)
      (first|(go_at_call 35;refine(yV.out _ H5.out.drew).mono ?_;rintro r w6 ⟨rfl,h6⟩;have h7:=h6.bD;obtain⟨y0,y1,y2,y3,y4,y5,y6⟩:=iC h7.skip;obtain⟨q0,q1,q2⟩:=HG.out _ h7.skip.skip;obtain⟨⟨z0,z1,z2,z3⟩,⟨f0,f1,f2,f3⟩⟩:=kT h7))
     have h8:=Q6 (pv':=.slice none 0 0) h7;obtain⟨w8,AR⟩:=Zx9 (w6.setCell ⟨b+1,3,none⟩ (.slice none 0 0));rw[AR]at h8 ⊢;clear y0 y1 y2 y3 y4 y5 y6 q0 q1 q2 z0 z1 z2 z3 f0 f1 f2 f3 AR;obtain⟨⟨z0,z1,z2,z3⟩,⟨f0,f1,f2,f3⟩⟩:=kT h8;go_wp2_with fail
     have h9:=yJ (s':=0) (jO:=.slice none 0 0) (t':=0) (pv':=.slice none 0 0) h8;obtain⟨⟨e0,e1,e2,e3⟩,-⟩:=kT h9;exact bodyPost_ret (v:=.tuple #[.agg #[.int .i64 0,.slice none 0 0,.int .u64 0,.slice none 0 0],.bool false]) (by simp[results,Tryz.f34,go_sem,e0,e1,e2,e3]) rfl ⟨rfl,h9.skip.skip⟩
    |some l2 =>
     simp only;have F4:=ZkQ Ea;clear Ea;unfold rV
     go_enter Tryz.func34,Tryz.ntmps34
     go_wp2_with fail
     refine(Apart.Cb HC.out.ok HI.out H1.out).mono ?_;rintro r w2 ⟨rfl,h2⟩;rw[oz.out];clear y0 y1 y2 y3 y4 y5 y6 q0 q1 q2;obtain⟨y0,y1,y2,y3,y4,y5,y6⟩:=iC h2.skip;obtain⟨q0,q1,q2⟩:=HG.out _ h2.skip.skip;obtain⟨⟨z0,z1,z2,z3⟩,⟨f0,f1,f2,f3⟩⟩:=kT h2;go_wp2_with (go_at_call 52;refine(HH.out _).mono ?_;rintro r w3 ⟨rfl,rfl⟩)
     have h5:=yJ (s' := -1) (jO:=.slice none 0 0) (t':=(x1:Int)) (pv':=.slice none 0 0) h2;obtain⟨w5,jN⟩:=Zx9 ((((w2.setCell ⟨b+1,0,none⟩ (.int .i64 (-1))).setCell ⟨b+1,1,none⟩ (.slice none 0 0)).setCell ⟨b+1,2,none⟩ (.int .u64 (x1:Int))).setCell ⟨b+1,3,none⟩ (.slice none 0 0));rw[jN]at h5 ⊢;have H5:Hid (Own W (([]:List (Nat×Obj))++(lW (b+1) (-1) (.slice none 0 0) x1 (.slice none 0 0)::(iQ b B o N k c d e::m))) w5):=h5;clear h5 jN y0 y1 y2 y3 y4 y5 y6 q0 q1 q2 z0 z1 z2 z3 f0 f1 f2 f3 h2;have gM:=fun ws (kX:Own W ([]++(lW (b+1) (-1) (.slice none 0 0) x1 (.slice none 0 0)::(iQ b B o N k c d e::m))) ws)=>QW kX HC.out (((HW.out.more (m':=[iQ b B o N k c d e])).more (m':=[lW (b+1) (-1) (.slice none 0 0) x1 (.slice none 0 0)])).more (m':=[])) x2 OZ.out;have rW:chain xR (nI c g) c.S (c.S+1) [] x2=DJ c g x2:=rfl;rw[rW,F4.out]at gM;have h5:=H5.out;have jN:=h5.bD;obtain⟨y0,y1,y2,y3,y4,y5,y6⟩:=iC jN.skip;obtain⟨q0,q1,q2⟩:=HG.out _ jN.skip.skip;obtain⟨⟨z0,z1,z2,z3⟩,⟨f0,f1,f2,f3⟩⟩:=kT jN;have yV:=ZkQ gM;clear rW gM h5 jN
     go_region_held3 (fun w'=>w'.cell? ⟨b,0,none⟩=some (.slice (some ⟨B,o,none⟩) N k)∧w'.cell? ⟨b,1,none⟩=some (.int .i64 c.C)∧w'.cell? ⟨b,2,none⟩=some (.int .i64 c.S)∧w'.cell? ⟨b,3,none⟩=some (.int .i64 c.O)∧w'.cell? ⟨b,4,none⟩=some (.int .i64 d)∧w'.cell? ⟨b,5,none⟩=some (.int .i64 e)∧w'.cell? ⟨b,6,none⟩=some (.int .u64 c.key)∧w'.cell? ⟨B,o+p2,none⟩=some (.int .u64 (x2:Int))) (first|(refine⟨?_,?_,?_,?_,?_,?_,?_,?_⟩<;>assumption)|go_keep)
      (first|(go_at_call 35;refine(yV.out _ H5.out.drew).mono ?_;rintro r w6 ⟨v6,b6,rfl,K6,h6⟩;obtain⟨A6,c6,WX,-,-⟩:=K6.out.slice;subst WX;have h7:=h6.bD.bD;obtain⟨y0,y1,y2,y3,y4,y5,y6⟩:=iC h7.skip;obtain⟨q0,q1,q2⟩:=HG.out _ h7.skip.skip;obtain⟨⟨z0,z1,z2,z3⟩,⟨f0,f1,f2,f3⟩⟩:=kT h7))
     have hq:Own W (lW (b+1) (-1) (.slice none 0 0) x1 (.slice none 0 0)::(iQ b B o N k c d e::(b6++([]++m)))) w6:=h6.perm (Zvc _ _ _ _ _);have h8:=Q6 (pv':=.slice A6 l2.length c6) hq;obtain⟨w8,AR⟩:=Zx9 (w6.setCell ⟨b+1,3,none⟩ (.slice A6 l2.length c6));rw[AR]at h8 ⊢;clear y0 y1 y2 y3 y4 y5 y6 q0 q1 q2 z0 z1 z2 z3 f0 f1 f2 f3 AR;obtain⟨⟨z0,z1,z2,z3⟩,⟨f0,f1,f2,f3⟩⟩:=kT h8;go_wp2_with fail
     have h9:=yJ (s':=(-1)) (jO:=(.slice none 0 0)) (t':=(x1:Int)) (pv':=.slice A6 l2.length c6) h8;obtain⟨⟨e0,e1,e2,e3⟩,-⟩:=kT h9;exact bodyPost_ret (v:=.tuple #[.agg #[.int .i64 (-1),(.slice none 0 0),.int .u64 x1,.slice A6 l2.length c6],.bool true]) (by simp[results,Tryz.f34,go_sem,e0,e1,e2,e3]) rfl ⟨(.slice none 0 0),[],_,b6,rfl,gI.nil _ _ _,K6,(h9.skip.skip).swap⟩
   ·rw[if_neg qO]
    have IG:(s == -1)=false:=beq_eq_false_iff_ne.2 qO;obtain⟨j,rfl⟩:∃ j:Nat,s=j:=⟨s.toNat,by omega⟩;have Wn:j<c.S:=(by omega);have ow : -1≤ob:=(by omega);have xL:=fun ws (kX:Own W (lW (b+1) j (.slice none 0 0) x1 (.slice none 0 0)::(iQ b B o N k c d e::m)) ws)=>ZuZ kX HC.out ((HW.out.more (m':=[iQ b B o N k c d e])).more (m':=[lW (b+1) j (.slice none 0 0) x1 (.slice none 0 0)])) j Wn ob ow;clear eD;cases hl:vT c g j ob with
    |none =>
     rw[hl]at xL;have Er:=ZkQ xL;simp only;clear hl xL;unfold rV
     go_enter Tryz.func34,Tryz.ntmps34
     go_wp2_with fail
     refine(Apart.Cb HC.out.ok HI.out H1.out).mono ?_;rintro r w2 ⟨rfl,h2⟩;rw[oz.out];clear y0 y1 y2 y3 y4 y5 y6 q0 q1 q2;obtain⟨y0,y1,y2,y3,y4,y5,y6⟩:=iC h2.skip;obtain⟨q0,q1,q2⟩:=HG.out _ h2.skip.skip;obtain⟨⟨z0,z1,z2,z3⟩,⟨f0,f1,f2,f3⟩⟩:=kT h2;go_wp2_with (go_at_call 52;refine(HH.out _).mono ?_;rintro r w3 ⟨rfl,rfl⟩)
     have h5:=yJ (s':=(j:Int)) (jO:=.slice none 0 0) (t':=(x1:Int)) (pv':=.slice none 0 0) h2;refine(Er.out _ h5).mono ?_;rintro r w6 ⟨rfl,h6⟩;clear y0 y1 y2 y3 y4 y5 y6 q0 q1 q2 z0 z1 z2 z3 f0 f1 f2 f3 h2;obtain⟨⟨z0,z1,z2,z3⟩,⟨f0,f1,f2,f3⟩⟩:=kT h6;go_wp2_with fail
     have h8:=Vu (jO:=.slice none 0 0) h6;have h9:=yJ (s':=0) (jO:=.slice none 0 0) (t':=0) (pv':=.slice none 0 0) h8;obtain⟨⟨e0,e1,e2,e3⟩,-⟩:=kT h9;exact bodyPost_ret (v:=.tuple #[.agg #[.int .i64 0,.slice none 0 0,.int .u64 0,.slice none 0 0],.bool false]) (by simp[results,Tryz.f34,go_sem,e0,e1,e2,e3]) rfl ⟨rfl,h9.skip.skip⟩
    |some l1 =>
     rw[hl]at xL;have Er:=ZkQ xL;simp only;clear hl xL;cases Ea:DJ c g x2 with
     |none =>
      simp only;have F4:=ZkQ Ea;clear Ea;unfold rV
      go_enter Tryz.func34,Tryz.ntmps34
      go_wp2_with fail
      refine(Apart.Cb HC.out.ok HI.out H1.out).mono ?_;rintro r w2 ⟨rfl,h2⟩;rw[oz.out];clear y0 y1 y2 y3 y4 y5 y6 q0 q1 q2;obtain⟨y0,y1,y2,y3,y4,y5,y6⟩:=iC h2.skip;obtain⟨q0,q1,q2⟩:=HG.out _ h2.skip.skip;obtain⟨⟨z0,z1,z2,z3⟩,⟨f0,f1,f2,f3⟩⟩:=kT h2;go_wp2_with (go_at_call 52;refine(HH.out _).mono ?_;rintro r w3 ⟨rfl,rfl⟩)
      have h5:=yJ (s':=(j:Int)) (jO:=.slice none 0 0) (t':=(x1:Int)) (pv':=.slice none 0 0) h2;refine(Er.out _ h5).mono ?_;rintro r w6 ⟨v7,b7,rfl,K7,h6⟩;obtain⟨A7,c7,Oy,-,-⟩:=K7.out.slice;subst Oy;clear y0 y1 y2 y3 y4 y5 y6 q0 q1 q2 z0 z1 z2 z3 f0 f1 f2 f3 h2;have h7:Own W (lW (b+1) j (.slice none 0 0) x1 (.slice none 0 0)::(b7++(iQ b B o N k c d e::m))) w6:=h6.perm ZxT;obtain⟨⟨z0,z1,z2,z3⟩,⟨f0,f1,f2,f3⟩⟩:=kT h7;have h8:=Vu (jO:=.slice A7 l1.length c7) h7;obtain⟨w5,jN⟩:=Zx9 (w6.setCell ⟨b+1,1,none⟩ (.slice A7 l1.length c7));have H5:Hid (Own W (b7++(lW (b+1) j (.slice A7 l1.length c7) x1 (.slice none 0 0)::(iQ b B o N k c d e::m))) w5):=(by rw[jN]at h8;exact h8.perm List.perm_middle.symm);go_wp2_with fail
      clear h6 h7 h8 jN z0 z1 z2 z3 f0 f1 f2 f3;have gM:=fun ws (kX:Own W (b7++(lW (b+1) (j) (.slice A7 l1.length c7) x1 (.slice none 0 0)::(iQ b B o N k c d e::m))) ws)=>QW kX HC.out (((HW.out.more (m':=[iQ b B o N k c d e])).more (m':=[lW (b+1) (j) (.slice A7 l1.length c7) x1 (.slice none 0 0)])).more (m':=b7)) x2 OZ.out;have rW:chain xR (nI c g) c.S (c.S+1) [] x2=DJ c g x2:=rfl;rw[rW,F4.out]at gM;have h5:=H5.out;have jN:=h5.bD;obtain⟨y0,y1,y2,y3,y4,y5,y6⟩:=iC jN.skip;obtain⟨q0,q1,q2⟩:=HG.out _ jN.skip.skip;obtain⟨⟨z0,z1,z2,z3⟩,⟨f0,f1,f2,f3⟩⟩:=kT jN;have yV:=ZkQ gM;clear rW gM h5 jN
      go_region_held3 (fun w'=>w'.cell? ⟨b,0,none⟩=some (.slice (some ⟨B,o,none⟩) N k)∧w'.cell? ⟨b,1,none⟩=some (.int .i64 c.C)∧w'.cell? ⟨b,2,none⟩=some (.int .i64 c.S)∧w'.cell? ⟨b,3,none⟩=some (.int .i64 c.O)∧w'.cell? ⟨b,4,none⟩=some (.int .i64 d)∧w'.cell? ⟨b,5,none⟩=some (.int .i64 e)∧w'.cell? ⟨b,6,none⟩=some (.int .u64 c.key)∧w'.cell? ⟨B,o+p2,none⟩=some (.int .u64 (x2:Int))) (first|(refine⟨?_,?_,?_,?_,?_,?_,?_,?_⟩<;>assumption)|go_keep)
       (first|(go_at_call 35;refine(yV.out _ H5.out.drew).mono ?_;rintro r w6 ⟨rfl,h6⟩;have h7:=h6.bD;obtain⟨y0,y1,y2,y3,y4,y5,y6⟩:=iC h7.skip;obtain⟨q0,q1,q2⟩:=HG.out _ h7.skip.skip;obtain⟨⟨z0,z1,z2,z3⟩,⟨f0,f1,f2,f3⟩⟩:=kT h7))
      have h8:=Q6 (pv':=.slice none 0 0) h7;obtain⟨w8,AR⟩:=Zx9 (w6.setCell ⟨b+1,3,none⟩ (.slice none 0 0));rw[AR]at h8 ⊢;clear y0 y1 y2 y3 y4 y5 y6 q0 q1 q2 z0 z1 z2 z3 f0 f1 f2 f3 AR;obtain⟨⟨z0,z1,z2,z3⟩,⟨f0,f1,f2,f3⟩⟩:=kT h8;go_wp2_with fail
      have h9:=yJ (s':=0) (jO:=.slice none 0 0) (t':=0) (pv':=.slice none 0 0) h8;obtain⟨⟨e0,e1,e2,e3⟩,-⟩:=kT h9;exact bodyPost_ret (v:=.tuple #[.agg #[.int .i64 0,.slice none 0 0,.int .u64 0,.slice none 0 0],.bool false]) (by simp[results,Tryz.f34,go_sem,e0,e1,e2,e3]) rfl ⟨rfl,h9.skip.skip⟩
     |some l2 =>
      simp only;have F4:=ZkQ Ea;clear Ea;unfold rV
      go_enter Tryz.func34,Tryz.ntmps34
      go_wp2_with fail
      refine(Apart.Cb HC.out.ok HI.out H1.out).mono ?_;rintro r w2 ⟨rfl,h2⟩;rw[oz.out];clear y0 y1 y2 y3 y4 y5 y6 q0 q1 q2;obtain⟨y0,y1,y2,y3,y4,y5,y6⟩:=iC h2.skip;obtain⟨q0,q1,q2⟩:=HG.out _ h2.skip.skip;obtain⟨⟨z0,z1,z2,z3⟩,⟨f0,f1,f2,f3⟩⟩:=kT h2;go_wp2_with (go_at_call 52;refine(HH.out _).mono ?_;rintro r w3 ⟨rfl,rfl⟩)
      have h5:=yJ (s':=(j:Int)) (jO:=.slice none 0 0) (t':=(x1:Int)) (pv':=.slice none 0 0) h2;refine(Er.out _ h5).mono ?_;rintro r w6 ⟨v7,b7,rfl,K7,h6⟩;obtain⟨A7,c7,Oy,-,-⟩:=K7.out.slice;subst Oy;clear y0 y1 y2 y3 y4 y5 y6 q0 q1 q2 z0 z1 z2 z3 f0 f1 f2 f3 h2;have h7:Own W (lW (b+1) j (.slice none 0 0) x1 (.slice none 0 0)::(b7++(iQ b B o N k c d e::m))) w6:=h6.perm ZxT;obtain⟨⟨z0,z1,z2,z3⟩,⟨f0,f1,f2,f3⟩⟩:=kT h7;have h8:=Vu (jO:=.slice A7 l1.length c7) h7;obtain⟨w5,jN⟩:=Zx9 (w6.setCell ⟨b+1,1,none⟩ (.slice A7 l1.length c7));have H5:Hid (Own W (b7++(lW (b+1) j (.slice A7 l1.length c7) x1 (.slice none 0 0)::(iQ b B o N k c d e::m))) w5):=(by rw[jN]at h8;exact h8.perm List.perm_middle.symm);go_wp2_with fail
      clear h6 h7 h8 jN z0 z1 z2 z3 f0 f1 f2 f3;have gM:=fun ws (kX:Own W (b7++(lW (b+1) (j) (.slice A7 l1.length c7) x1 (.slice none 0 0)::(iQ b B o N k c d e::m))) ws)=>QW kX HC.out (((HW.out.more (m':=[iQ b B o N k c d e])).more (m':=[lW (b+1) (j) (.slice A7 l1.length c7) x1 (.slice none 0 0)])).more (m':=b7)) x2 OZ.out;have rW:chain xR (nI c g) c.S (c.S+1) [] x2=DJ c g x2:=rfl;rw[rW,F4.out]at gM;have h5:=H5.out;have jN:=h5.bD;obtain⟨y0,y1,y2,y3,y4,y5,y6⟩:=iC jN.skip;obtain⟨q0,q1,q2⟩:=HG.out _ jN.skip.skip;obtain⟨⟨z0,z1,z2,z3⟩,⟨f0,f1,f2,f3⟩⟩:=kT jN;have yV:=ZkQ gM;clear rW gM h5 jN
      go_region_held3 (fun w'=>w'.cell? ⟨b,0,none⟩=some (.slice (some ⟨B,o,none⟩) N k)∧w'.cell? ⟨b,1,none⟩=some (.int .i64 c.C)∧w'.cell? ⟨b,2,none⟩=some (.int .i64 c.S)∧w'.cell? ⟨b,3,none⟩=some (.int .i64 c.O)∧w'.cell? ⟨b,4,none⟩=some (.int .i64 d)∧w'.cell? ⟨b,5,none⟩=some (.int .i64 e)∧w'.cell? ⟨b,6,none⟩=some (.int .u64 c.key)∧w'.cell? ⟨B,o+p2,none⟩=some (.int .u64 (x2:Int))) (first|(refine⟨?_,?_,?_,?_,?_,?_,?_,?_⟩<;>assumption)|go_keep)
       (first|(go_at_call 35;refine(yV.out _ H5.out.drew).mono ?_;rintro r w6 ⟨v6,b6,rfl,K6,h6⟩;obtain⟨A6,c6,WX,-,-⟩:=K6.out.slice;subst WX;have h7:=h6.bD.bD;obtain⟨y0,y1,y2,y3,y4,y5,y6⟩:=iC h7.skip;obtain⟨q0,q1,q2⟩:=HG.out _ h7.skip.skip;obtain⟨⟨z0,z1,z2,z3⟩,⟨f0,f1,f2,f3⟩⟩:=kT h7))
      have hq:Own W (lW (b+1) (j) (.slice A7 l1.length c7) x1 (.slice none 0 0)::(iQ b B o N k c d e::(b6++(b7++m)))) w6:=h6.perm (Zvc _ _ _ _ _);have h8:=Q6 (pv':=.slice A6 l2.length c6) hq;obtain⟨w8,AR⟩:=Zx9 (w6.setCell ⟨b+1,3,none⟩ (.slice A6 l2.length c6));rw[AR]at h8 ⊢;clear y0 y1 y2 y3 y4 y5 y6 q0 q1 q2 z0 z1 z2 z3 f0 f1 f2 f3 AR;obtain⟨⟨z0,z1,z2,z3⟩,⟨f0,f1,f2,f3⟩⟩:=kT h8;go_wp2_with fail
      have h9:=yJ (s':=(j)) (jO:=(.slice A7 l1.length c7)) (t':=(x1:Int)) (pv':=.slice A6 l2.length c6) h8;obtain⟨⟨e0,e1,e2,e3⟩,-⟩:=kT h9;exact bodyPost_ret (v:=.tuple #[.agg #[.int .i64 (j),(.slice A7 l1.length c7),.int .u64 x1,.slice A6 l2.length c6],.bool true]) (by simp[results,Tryz.f34,go_sem,e0,e1,e2,e3]) rfl ⟨(.slice A7 l1.length c7),b7,_,b6,rfl,K7,K6,(h9.skip.skip).swap⟩
end
end See
namespace See
open Go.RowKit
open bI (Ok)
attribute [local go_sem ↓] Go.wp_at_zero Go.wp_at_succ
section
variable {W w:World}{M m:List (Nat×Obj)}{B o N k b:Nat}{g:List Nat}{c:Ch}{d e:Int}
def Zv2 (W:World)(m:List (Nat×Obj))(r:Option JJ)(e:Ending)(w':World):Prop:=match r with
 |some x=>∃ v bs,e = .returned (.tuple #[.agg #[.int .i64 x.counts.ay,.int .i64 x.counts.objects,.bool x.counts.frozen,.bool x.counts.live,v],.bool true])∧Hid (lS true v x.first bs)∧Own W (bs++m) w'
 |none=>e = .returned (.tuple #[.agg #[.int .i64 0,.int .i64 0,.bool false,.bool false,.slice none 0 0],.bool false])∧Own W m w'
def yH (b:Nat)(a o:Int)(f l:Bool)(v:Value):Nat×Obj:=(b,.cells #[.int .i64 a,.int .i64 o,.bool f,.bool l,v] 49)
theorem Ck {b:Nat}{a o:Int}{f l:Bool}{v:Value}(h:Own W (yH b a o f l v::m) w):(w.cell? ⟨b,0,none⟩=some (.int .i64 a)∧w.cell? ⟨b,1,none⟩=some (.int .i64 o)∧w.cell? ⟨b,2,none⟩=some (.bool f)∧w.cell? ⟨b,3,none⟩=some (.bool l)∧w.cell? ⟨b,4,none⟩=some v)∧(w.frozen? ⟨b,0,none⟩=false∧w.frozen? ⟨b,1,none⟩=false∧w.frozen? ⟨b,2,none⟩=false∧w.frozen? ⟨b,3,none⟩=false∧w.frozen? ⟨b,4,none⟩=false) :=
 ⟨⟨h.cell ZnJ 0,h.cell ZnJ 1,h.cell ZnJ 2,h.cell ZnJ 3,h.cell ZnJ 4⟩,⟨h.frozen ZnJ 0,h.frozen ZnJ 1,h.frozen ZnJ 2,h.frozen ZnJ 3,h.frozen ZnJ 4⟩⟩
theorem jY {b:Nat}{a o a' o':Int}{f l f' l':Bool}{v v':Value}(h:Own W (yH b a o f l v::m) w):Own W (yH b a' o' f' l' v'::m) (((((w.setCell ⟨b,0,none⟩ (.int .i64 a')).setCell ⟨b,1,none⟩ (.int .i64 o')).setCell ⟨b,2,none⟩ (.bool f')).setCell ⟨b,3,none⟩ (.bool l')).setCell ⟨b,4,none⟩ v'):=by
 have h1:=((((h.set 0 (.int .i64 a')).set 1 (.int .i64 o')).set 2 (.bool f')).set 3 (.bool l')).set 4 v';exact h1
theorem Q4 {b:Nat}{a o a' o':Int}{f l f' l':Bool}{v:Value}(h:Own W (yH b a o f l v::m) w):Own W (yH b a' o' f' l' v::m) ((((w.setCell ⟨b,0,none⟩ (.int .i64 a')).setCell ⟨b,1,none⟩ (.int .i64 o')).setCell ⟨b,2,none⟩ (.bool f')).setCell ⟨b,3,none⟩ (.bool l')):=by
 have h1:=(((h.set 0 (.int .i64 a')).set 1 (.int .i64 o')).set 2 (.bool f')).set 3 (.bool l');exact h1
theorem ZwJ {b:Nat}{a o:Int}{f l:Bool}{v v':Value}(h:Own W (yH b a o f l v::m) w):Own W (yH b a o f l v'::m) (w.setCell ⟨b,4,none⟩ v'):=h.set 4 v'
theorem Zvu (h:Own W m w)(hc:sI c d e)(hw:xY W m B o N k g c)(s:Nat)(hs:s<c.S) :
 Calls Tryz.prog 38 #[rV B o N k c d e,.int .i64 s] w (Zv2 W m (DF c g s)):=by
 obtain⟨n1,n2,n3,n4,n5,n6⟩:=hc.nums;have h1:=(h.new (.cells #[.slice (some ⟨B,o,none⟩) N k,.int .i64 c.C,.int .i64 c.S,.int .i64 c.O,.int .i64 d,.int .i64 e,.int .u64 c.key] 87)).new (.cells #[.int .i64 0,.int .i64 0,.bool false,.bool false,.slice none 0 0] 49);obtain⟨b,hb⟩:=Zx9 (w.heap.size);simp only[World.size_alloc]at h1;rw[hb]at h1;have h1:Own W (yH (b+1) 0 0 false false (.slice none 0 0)::(iQ b B o N k c d e::m)) _:=h1;obtain⟨y0,y1,y2,y3,y4,y5,y6⟩:=iC h1.skip;have hN:=hw.n;unfold Ch.words at hN;have Ny:0≤(s:Int)∧(s:Int)<(c.S:Int):=by omega
 obtain⟨p,hp⟩:∃ p:Nat,4 * c.C+4+4 * s=p:=⟨_,rfl⟩;have rY:4 * (c.C:Int)+4+4 * (s:Int)=(p:Int):=by omega
 have oz:=ZkQ rY;have D9:p+1<N:=by omega
 have N9:(0:Int)≤(p:Int):=by omega
 have jE:(p:Int)<(N:Int):=by omega
 have mD:(p:Int)+1<(N:Int):=by omega
 have hp5:(0:Int)≤(p:Int)+1:=by omega
 have xE:p≤200:=by omega
 obtain⟨x0,dw⟩:∃ x,g[p]?=some x:=⟨_,Zxp (by rw[hw.len];omega)⟩;obtain⟨x1,qQ⟩:∃ x,g[p+1]?=some x:=⟨_,Zxp (by rw[hw.len];omega)⟩;have a0:at_ g (4 * c.C+4+4 * s)=x0:=by unfold at_;rw[hp,Zxx,dw];rfl
 have a1:at_ g (4 * c.C+4+4 * s+1)=x1:=by unfold at_;rw[hp,Zxx,qQ];rfl
 have hcs:=fun ws (kX:Own W (yH (b+1) 0 0 false false (.slice none 0 0)::(iQ b B o N k c d e::m)) ws)=>Ze kX x1 (hw.CP x1 (Zxz qQ));have HG:Hid (∀ ws,Own W m ws→ws.cell? ⟨B,o+p,none⟩=some (.int .u64 (x0:Int))∧ws.cell? ⟨B,o+(p+1),none⟩=some (.int .u64 (x1:Int))):=fun ws kX=>⟨hw.rd ws kX p x0 dw,hw.rd ws kX (p+1) x1 qQ⟩;unfold DF;rw[a0,a1];unfold Qi at hcs;have HC:=ZkQ hc;have HW:=ZkQ hw;have HI:=ZkQ Ny;have H1:=ZkQ h1;clear hN hp rY dw qQ a0 a1 hw hc Ny h1 h;cases hh:sM x1 with
 |none =>
  rw[hh]at hcs;have HH:=ZkQ hcs;simp only;clear hh hcs;unfold rV
  go_enter Tryz.func38,Tryz.ntmps38
  go_wp2_with fail
  refine(Apart.Mk HC.out.ok HI.out H1.out).mono ?_;rintro r w2 ⟨rfl,h2⟩;rw[oz.out];clear y0 y1 y2 y3 y4 y5 y6;obtain⟨y0,y1,y2,y3,y4,y5,y6⟩:=iC h2.skip;obtain⟨q0,q1⟩:=HG.out _ h2.skip.skip;go_wp2_with fail
  refine(HH.out _ h2).mono ?_;rintro r w3 ⟨rfl,h3⟩;clear y0 y1 y2 y3 y4 y5 y6 q0 q1;obtain⟨y0,y1,y2,y3,y4,y5,y6⟩:=iC h3.skip;obtain⟨q0,q1⟩:=HG.out _ h3.skip.skip;obtain⟨⟨z0,z1,z2,z3,z4⟩,⟨f0,f1,f2,f3,f4⟩⟩:=Ck h3;go_wp2_with fail
  have h8:=Q4 (a':=0) (o':=0) (f':=false) (l':=false) h3;have h9:=jY (a':=0) (o':=0) (f':=false) (l':=false) (v':=(.slice none 0 0)) h8;obtain⟨⟨e0,e1,e2,e3,e4⟩,-⟩:=Ck h9;exact bodyPost_ret (v:=.tuple #[.agg #[.int .i64 0,.int .i64 0,.bool false,.bool false,(.slice none 0 0)],.bool false]) (by simp[results,Tryz.f38,go_sem,e0,e1,e2,e3,e4]) rfl ⟨rfl,h9.skip.skip⟩
 |some v =>
  obtain⟨n0,n1',fr,li⟩:=v;rw[hh]at hcs;simp only at hcs ⊢;have HH:=ZkQ hcs;clear hh hcs;by_cases kE:c.O<x0
  ·have M7:(c.O:Int)<(x0:Int):=by omega
   rw[if_pos kE];unfold rV
   go_enter Tryz.func38,Tryz.ntmps38
   go_wp2_with fail
   refine(Apart.Mk HC.out.ok HI.out H1.out).mono ?_;rintro r w2 ⟨rfl,h2⟩;rw[oz.out];clear y0 y1 y2 y3 y4 y5 y6;obtain⟨y0,y1,y2,y3,y4,y5,y6⟩:=iC h2.skip;obtain⟨q0,q1⟩:=HG.out _ h2.skip.skip;go_wp2_with fail
   refine(HH.out _ h2).mono ?_;rintro r w3 ⟨rfl,h3⟩;clear y0 y1 y2 y3 y4 y5 y6 q0 q1;obtain⟨y0,y1,y2,y3,y4,y5,y6⟩:=iC h3.skip;obtain⟨q0,q1⟩:=HG.out _ h3.skip.skip;obtain⟨⟨z0,z1,z2,z3,z4⟩,⟨f0,f1,f2,f3,f4⟩⟩:=Ck h3;go_wp2_with fail
   have h8:=Q4 (a':=(n0:Int)) (o':=(n1':Int)) (f':=fr) (l':=li) h3;have h9:=jY (a':=0) (o':=0) (f':=false) (l':=false) (v':=(.slice none 0 0)) h8;obtain⟨⟨e0,e1,e2,e3,e4⟩,-⟩:=Ck h9;exact bodyPost_ret (v:=.tuple #[.agg #[.int .i64 0,.int .i64 0,.bool false,.bool false,(.slice none 0 0)],.bool false]) (by simp[results,Tryz.f38,go_sem,e0,e1,e2,e3,e4]) rfl ⟨rfl,h9.skip.skip⟩
  ·have M7:¬ (c.O:Int)<(x0:Int):=by omega
   have hx16:(x0:Int)≤16:=(by omega);rw[if_neg kE];have xL:=fun ws (kX:Own W (yH (b+1) n0 n1' fr li (.slice none 0 0)::(iQ b B o N k c d e::m)) ws)=>ZuZ kX HC.out ((HW.out.more (m':=[iQ b B o N k c d e])).more (m':=[yH (b+1) n0 n1' fr li (.slice none 0 0)])) s hs ((x0:Int) - 1) (by omega);cases hl:vT c g s ((x0:Int) - 1) with
   |none =>
    rw[hl]at xL;have Er:=ZkQ xL;simp only;clear hl xL;unfold rV
    go_enter Tryz.func38,Tryz.ntmps38
    go_wp2_with fail
    refine(Apart.Mk HC.out.ok HI.out H1.out).mono ?_;rintro r w2 ⟨rfl,h2⟩;rw[oz.out];clear y0 y1 y2 y3 y4 y5 y6;obtain⟨y0,y1,y2,y3,y4,y5,y6⟩:=iC h2.skip;obtain⟨q0,q1⟩:=HG.out _ h2.skip.skip;go_wp2_with fail
    refine(HH.out _ h2).mono ?_;rintro r w3 ⟨rfl,h3⟩;clear y0 y1 y2 y3 y4 y5 y6 q0 q1;obtain⟨y0,y1,y2,y3,y4,y5,y6⟩:=iC h3.skip;obtain⟨q0,q1⟩:=HG.out _ h3.skip.skip;obtain⟨⟨z0,z1,z2,z3,z4⟩,⟨f0,f1,f2,f3,f4⟩⟩:=Ck h3;go_wp2_with fail
    have h4:=Q4 (a':=(n0:Int)) (o':=(n1':Int)) (f':=fr) (l':=li) h3;refine(Er.out _ h4).mono ?_;rintro r w6 ⟨rfl,h6⟩;clear y0 y1 y2 y3 y4 y5 y6 q0 q1 z0 z1 z2 z3 z4 f0 f1 f2 f3 f4 h2 h3 h4;obtain⟨⟨z0,z1,z2,z3,z4⟩,⟨f0,f1,f2,f3,f4⟩⟩:=Ck h6;go_wp2_with fail
    have h8:=ZwJ (v':=.slice none 0 0) h6;have h9:=jY (a':=0) (o':=0) (f':=false) (l':=false) (v':=(.slice none 0 0)) h8;obtain⟨⟨e0,e1,e2,e3,e4⟩,-⟩:=Ck h9;exact bodyPost_ret (v:=.tuple #[.agg #[.int .i64 0,.int .i64 0,.bool false,.bool false,(.slice none 0 0)],.bool false]) (by simp[results,Tryz.f38,go_sem,e0,e1,e2,e3,e4]) rfl ⟨rfl,h9.skip.skip⟩
   |some l1 =>
    rw[hl]at xL;have Er:=ZkQ xL;simp only;clear hl xL;unfold rV
    go_enter Tryz.func38,Tryz.ntmps38
    go_wp2_with fail
    refine(Apart.Mk HC.out.ok HI.out H1.out).mono ?_;rintro r w2 ⟨rfl,h2⟩;rw[oz.out];clear y0 y1 y2 y3 y4 y5 y6;obtain⟨y0,y1,y2,y3,y4,y5,y6⟩:=iC h2.skip;obtain⟨q0,q1⟩:=HG.out _ h2.skip.skip;go_wp2_with fail
    refine(HH.out _ h2).mono ?_;rintro r w3 ⟨rfl,h3⟩;clear y0 y1 y2 y3 y4 y5 y6 q0 q1;obtain⟨y0,y1,y2,y3,y4,y5,y6⟩:=iC h3.skip;obtain⟨q0,q1⟩:=HG.out _ h3.skip.skip;obtain⟨⟨z0,z1,z2,z3,z4⟩,⟨f0,f1,f2,f3,f4⟩⟩:=Ck h3;go_wp2_with fail
    have h4:=Q4 (a':=(n0:Int)) (o':=(n1':Int)) (f':=fr) (l':=li) h3;refine(Er.out _ h4).mono ?_;rintro r w6 ⟨v7,b7,rfl,K7,h6⟩;obtain⟨A7,c7,Oy,-,-⟩:=K7.out.slice;subst Oy;clear y0 y1 y2 y3 y4 y5 y6 q0 q1 z0 z1 z2 z3 z4 f0 f1 f2 f3 f4 h2 h3 h4;have h7:Own W (yH (b+1) n0 n1' fr li (.slice none 0 0)::(b7++(iQ b B o N k c d e::m))) w6:=h6.perm ZxT;obtain⟨⟨z0,z1,z2,z3,z4⟩,⟨f0,f1,f2,f3,f4⟩⟩:=Ck h7;go_wp2_with fail
    have h8:=ZwJ (v':=.slice A7 l1.length c7) h7;have h9:=jY (a':=(n0:Int)) (o':=(n1':Int)) (f':=fr) (l':=li) (v':=(.slice A7 l1.length c7)) h8;obtain⟨⟨e0,e1,e2,e3,e4⟩,-⟩:=Ck h9;exact bodyPost_ret (v:=.tuple #[.agg #[.int .i64 (n0:Int),.int .i64 (n1':Int),.bool fr,.bool li,(.slice A7 l1.length c7)],.bool true]) (by simp[results,Tryz.f38,go_sem,e0,e1,e2,e3,e4]) rfl ⟨_,b7,rfl,K7,h9.skip.drop1⟩
end
end See
end Go.Proofs.YtfcpdlbkmkhhcaaGreatDoor
