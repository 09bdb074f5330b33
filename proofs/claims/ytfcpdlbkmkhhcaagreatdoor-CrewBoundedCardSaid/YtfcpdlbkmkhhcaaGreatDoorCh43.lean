/-
  Texts of this claim, joined. No condition.
-/
import Derived.Test.YtfcpdlbkmkhhcaaGreatDoorCh1
import Derived.Test.YtfcpdlbkmkhhcaaGreatDoorCh42
import Derived.Test.YtfcpdlbkmkhhcaaGreatDoorCh27
import Derived.Test.YtfcpdlbkmkhhcaaGreatDoorCh41
import Derived.Test.YtfcpdlbkmkhhcaaGreatDoorCh23
import Derived.Test.YtfcpdlbkmkhhcaaGreatDoorCh13
import Derived.Test.YtfcpdlbkmkhhcaaGreatDoorCh18
namespace Go.Proofs.YtfcpdlbkmkhhcaaGreatDoor
set_option maxRecDepth 100000
set_option maxHeartbeats 40000000
namespace Cw
open Go Mem See
open Go.RowKit
attribute [local go_sem ↓] Go.wp_at_zero Go.wp_at_succ
section
variable {W w w':World}{m l:List (Nat×Obj)}{br bc b0 b1 bt:Nat}{c:Ch}{mn cp cnt n k:Nat}{r:Cv.Rn}{jv pv:Value}{pb:List (Nat×Obj)}{aj:List Int}{st st':Cv.St}{t t':Tk}{g':List Nat}
theorem Zms (h:bE W br bc b0 b1 bt c mn cp jv r true cnt n pv pb m w)(I:Cv.RI c mn cp r st)(aV:c.key<18446744073709551616)(hk:k<c.C)(dI:r.tk k=some t)(hw:t.want=2)(hT:Ex.jR aJ.gs W)(hs:kY { t with want:=0 }=some t')(ai:t'.aB=t.aB){r6:Cv.Rn}(he:LV W br bc b0 b1 bt c mn cp jv { r with tk:=Cv.upd r.tk k (Cv.stop t') } t' r6) :
 Calls Tryz.prog 12 #[.pointer (some ⟨br,0,Option.none⟩),.int .i64 (k:Int)] w fun e w'=>e = .returned (.bool true)∧∃ pv' pb',bE W br bc b0 b1 bt c mn cp jv r6 true cnt (n+1) pv' pb' m w':=by
 have HW:=ZkQ hw;have R9:=ZkQ hT;have HS:=ZkQ hs;have FW:=ZkQ ai;have HE:=ZkQ he;have H:=ZkQ h;have HI:=ZkQ I;have pX:=ZkQ dI;have HKK:=ZkQ hk;have HKEY:=ZkQ aV;obtain⟨⟨y0,y1,y2,y3,y4,y5,y6,y7,y8,y9,dL,bQ⟩,-,-⟩:=h.box;have fF:=Lp h.o I.Z.C.2 hk;rw[dI]at fF;have vH:=ZkQ fF;clear h I dI hk fF aV hw hT hs ai he
 go_enter Tryz.func12,Tryz.ntmps12
 go_wp2_with fail
 clear y0 y1 y2 y3 y4 y5 y6 y7 y8 y9 dL bQ;refine vH.out.mono ?_;rintro e w2 ⟨rfl,h2⟩;have h2:bE W br bc b0 b1 bt c mn cp jv r true cnt n pv pb m w2:=⟨H.out.p,h2⟩;have h3:=h2.alloc z17;obtain⟨B,hB⟩:=Zx9 (w2.heap.size);rw[hB]at h3;obtain⟨M0,hM0,pE⟩:=h3.Dv;have vD:=ZkQ hM0;have vC:=ZkQ pE;have HT0:=ZkQ (jU t);clear h2 h3 hM0 pE vH H;have q1:(t.want==1)=false:=by rw[HW.out];rfl
 have q2:(t.want==2)=true:=by rw[HW.out];rfl
 simp only[Option.getD_some,Option.isSome_some]
 go_wp2_with (first
  |(refine jm (t:=59) (new:=dm (t)) rfl _ _ rfl rfl rfl gQ vD.out rfl HT0.out ?_;intro w3 hS;have h3:bE W br bc b0 b1 bt c mn cp jv r true cnt n pv pb (tB B (t)::m) w3:=vC.out _ _ hS;have H3:=ZkQ h3;obtain⟨Mt,hMt⟩:=h3.aU;obtain⟨⟨x0,x1,x2,x3,x4,x5,x6,x7,x8,x9,x10,gz,gB,gD,gG,gH,fT⟩,-⟩:=iV (t:=t) hMt;obtain⟨⟨y0,y1,y2,y3,y4,y5,y6,y7,y8,y9,dL,bQ⟩,-,fz⟩:=h3.box;have oJ:=fz 522;clear hS h3 hMt fz hB vD vC))
 refine(Zm6 HI.out.Z R9.out HI.out.tk H3.out.o pX.out HW.out HS.out FW.out).mono ?_;rintro e w5 ⟨rfl,h5⟩;have h5:bE W br bc b0 b1 bt c mn cp jv { r with tk:=Cv.upd r.tk k (Cv.stop t') } true cnt (n+1) pv pb (tB B t::m) w5:=⟨H3.out.p,h5⟩;obtain⟨M5,vZ,zX⟩:=h5.Dv;have za:=ZkQ vZ;have yX:=ZkQ zX;have F5:=ZkQ (jU t');clear h5 vZ zX H3 x0 x1 x2 x3 x4 x5 x6 x7 x8 x9 x10 gz gB gD gG gH fT y0 y1 y2 y3 y4 y5 y6 y7 y8 y9 dL bQ
 go_upto_region 14 with(first
  |(refine jm (t:=59) (new:=dm t') rfl _ _ rfl rfl rfl gQ za.out rfl F5.out ?_;intro w7 hS;have h7:bE W br bc b0 b1 bt c mn cp jv { r with tk:=Cv.upd r.tk k (Cv.stop t') } true cnt (n+1) pv pb (tB B t'::m) w7:=yX.out _ _ hS;have H7:=ZkQ h7;have zb:Hid (Own W (tB B t'::M5) w7):=ZkQ hS;obtain⟨⟨-,-,-,x3,-⟩,-⟩:=iV (t:=t') zb.out;clear hS h7 za yX))
 rcases HE.out with⟨hf,Az⟩|⟨hf,hE⟩
 ·have qf:(t'.fin != 0)=false:=by simpa using hf
  have H8:=ZkQ (H7.out.sub (ZxC _ _));rw[← Az]at H8;clear hf Az;go_wp2_with fail
  go_ret;exact⟨rfl,pv,pb,H8.out⟩
 ·have qf:(t'.fin != 0)=true:=by simpa using hf
  have HC:=ZkQ (hE _ _ _ _ _ _ H7.out);clear hf hE
  go_wp2_with (first
   |(refine qC (t:=59) (old:=dm t') rfl _ rfl rfl Tryz.underlying59 zb.out gQ ?_))
  refine HC.out.mono ?_;rintro e w8 ⟨rfl,pv',pb',h8⟩;have H8:=ZkQ (h8.sub (ZxC _ _));clear h8;go_wp2_with fail
  go_ret;exact⟨rfl,pv',pb',H8.out⟩
end
end Cw
namespace Cw
open Go Mem See
open Go.RowKit
attribute [local go_sem ↓] Go.wp_at_zero Go.wp_at_succ
section
variable {W w w':World}{m l:List (Nat×Obj)}{br bc b0 b1 bt:Nat}{c:Ch}{mn cp cnt n k:Nat}{r:Cv.Rn}{jv pv:Value}{pb:List (Nat×Obj)}{aj:List Int}{st st':Cv.St}{t t':Tk}{g':List Nat}
theorem ZjL (h:bE W br bc b0 b1 bt c mn cp jv r true cnt n pv pb m w)(I:Cv.RI c mn cp r st)(aV:c.key<18446744073709551616)(hk:k<c.C)(dI:r.tk k=some t)(hw:t.want=1)(hn:n<1000000000)(FH:r.none<1000000000){s:Nat}(hs:Cv.oF c r.g r.tk=some s)(u7:t'={ t with want:=0,aA:=(s:Int),many:=0,pc:=43 }){r6:Cv.Rn}(he:LV W br bc b0 b1 bt c mn cp jv { r with tk:=Cv.upd r.tk k (Cv.stop t') } t' r6) :
 Calls Tryz.prog 12 #[.pointer (some ⟨br,0,Option.none⟩),.int .i64 (k:Int)] w fun e w'=>e = .returned (.bool true)∧∃ pv' pb',bE W br bc b0 b1 bt c mn cp jv r6 true cnt (n+1) pv' pb' m w':=by
 have HW:=ZkQ hw;have HS:=ZkQ hs;have HN:=ZkQ hn;have Xx:=ZkQ FH;have zf:=ZkQ u7;have HE:=ZkQ he;have H:=ZkQ h;have HI:=ZkQ I;have pX:=ZkQ dI;have HKK:=ZkQ hk;have HKEY:=ZkQ aV;obtain⟨⟨y0,y1,y2,y3,y4,y5,y6,y7,y8,y9,dL,bQ⟩,-,-⟩:=h.box;have fF:=Lp h.o I.Z.C.2 hk;rw[dI]at fF;have vH:=ZkQ fF;clear h I dI hk fF aV hw hs hn FH u7 he
 go_enter Tryz.func12,Tryz.ntmps12
 go_wp2_with fail
 clear y0 y1 y2 y3 y4 y5 y6 y7 y8 y9 dL bQ;refine vH.out.mono ?_;rintro e w2 ⟨rfl,h2⟩;have h2:bE W br bc b0 b1 bt c mn cp jv r true cnt n pv pb m w2:=⟨H.out.p,h2⟩;have h3:=h2.alloc z17;obtain⟨B,hB⟩:=Zx9 (w2.heap.size);rw[hB]at h3;obtain⟨M0,hM0,pE⟩:=h3.Dv;have vD:=ZkQ hM0;have vC:=ZkQ pE;have HT0:=ZkQ (jU t);clear h2 h3 hM0 pE vH H;have q1:(t.want==1)=true:=by rw[HW.out];rfl
 simp only[Option.getD_some,Option.isSome_some]
 go_wp2_with (first
  |(refine jm (t:=59) (new:=dm (t)) rfl _ _ rfl rfl rfl gQ vD.out rfl HT0.out ?_;intro w3 hS;have h3:bE W br bc b0 b1 bt c mn cp jv r true cnt n pv pb (tB B (t)::m) w3:=vC.out _ _ hS;have H3:=ZkQ h3;obtain⟨Mt,hMt⟩:=h3.aU;obtain⟨⟨x0,x1,x2,x3,x4,x5,x6,x7,x8,x9,x10,gz,gB,gD,gG,gH,fT⟩,-⟩:=iV (t:=t) hMt;obtain⟨⟨y0,y1,y2,y3,y4,y5,y6,y7,y8,y9,dL,bQ⟩,-,fz⟩:=h3.box;have oJ:=fz 522;clear hS h3 hMt fz hB vD vC))
 refine(Y2 HI.out.Z HKEY.out HI.out.tk H3.out.o HN.out).mono ?_;rintro e w4 ⟨rfl,h4⟩;have pV:=fun (m':List (Nat×Obj)) (w':World) (h:jF W bc b0 b1 bt c mn cp r.g r.tk cnt n m' w')=>YA (t':=t') HI.out.Z HKEY.out HI.out.tk h HN.out pX.out HW.out (by rw[HS.out];exact zf.out);have pV:=ZkQ pV;rw[HS.out]at pV ⊢;have h4:bE W br bc b0 b1 bt c mn cp jv r true cnt n pv pb (tB B t::m) w4:=⟨H3.out.p,h4⟩;have H4:=ZkQ h4;clear h4 H3 x0 x1 x2 x3 x4 x5 x6 x7 x8 x9 x10 gz gB gD gG gH fT y0 y1 y2 y3 y4 y5 y6 y7 y8 y9 dL bQ oJ;obtain⟨⟨y0,y1,y2,y3,y4,y5,y6,y7,y8,y9,dL,bQ⟩,-,fz⟩:=H4.out.box;have oJ:=fz 522;clear fz;go_wp2_with fail
 have H3:=H4;clear H4;refine(pV.out _ _ H3.out.o).mono ?_;rintro e w5 ⟨rfl,h5⟩;have h5:bE W br bc b0 b1 bt c mn cp jv { r with tk:=Cv.upd r.tk k (Cv.stop t') } true cnt (n+1) pv pb (tB B t::m) w5:=⟨H3.out.p,h5⟩;obtain⟨M5,vZ,zX⟩:=h5.Dv;have za:=ZkQ vZ;have yX:=ZkQ zX;have F5:=ZkQ (jU t');clear h5 vZ zX H3 oJ y0 y1 y2 y3 y4 y5 y6 y7 y8 y9 dL bQ
 go_upto_region 14 with(first
  |(refine jm (t:=59) (new:=dm t') rfl _ _ rfl rfl rfl gQ za.out rfl F5.out ?_;intro w7 hS;have h7:bE W br bc b0 b1 bt c mn cp jv { r with tk:=Cv.upd r.tk k (Cv.stop t') } true cnt (n+1) pv pb (tB B t'::m) w7:=yX.out _ _ hS;have H7:=ZkQ h7;have zb:Hid (Own W (tB B t'::M5) w7):=ZkQ hS;obtain⟨⟨-,-,-,x3,-⟩,-⟩:=iV (t:=t') zb.out;clear hS h7 za yX))
 rcases HE.out with⟨hf,Az⟩|⟨hf,hE⟩
 ·have qf:(t'.fin != 0)=false:=by simpa using hf
  have H8:=ZkQ (H7.out.sub (ZxC _ _));rw[← Az]at H8;clear hf Az;go_wp2_with fail
  go_ret;exact⟨rfl,pv,pb,H8.out⟩
 ·have qf:(t'.fin != 0)=true:=by simpa using hf
  have HC:=ZkQ (hE _ _ _ _ _ _ H7.out);clear hf hE
  go_wp2_with (first
   |(refine qC (t:=59) (old:=dm t') rfl _ rfl rfl Tryz.underlying59 zb.out gQ ?_))
  refine HC.out.mono ?_;rintro e w8 ⟨rfl,pv',pb',h8⟩;have H8:=ZkQ (h8.sub (ZxC _ _));clear h8;go_wp2_with fail
  go_ret;exact⟨rfl,pv',pb',H8.out⟩
end
end Cw
namespace Cw
open Go Mem See
open Go.RowKit
attribute [local go_sem ↓] Go.wp_at_zero Go.wp_at_succ
section
variable {W w w':World}{m l:List (Nat×Obj)}{br bc b0 b1 bt:Nat}{c:Ch}{mn cp cnt n k:Nat}{r:Cv.Rn}{jv pv:Value}{pb:List (Nat×Obj)}{aj:List Int}{st st':Cv.St}{t t':Tk}{g':List Nat}
theorem ZjK (h:bE W br bc b0 b1 bt c mn cp jv r true cnt n pv pb m w)(I:Cv.RI c mn cp r st)(aV:c.key<18446744073709551616)(hk:k<c.C)(dI:r.tk k=some t)(hw:t.want=1)(hn:n<1000000000)(FH:r.none<1000000000)(hs:Cv.oF c r.g r.tk=Option.none)(u7:t'={ t with want:=0,fin:=2 }){r6:Cv.Rn}(he:LV W br bc b0 b1 bt c mn cp jv { r with none:=r.none+1,tk:=Cv.upd r.tk k (Cv.stop t') } t' r6) :
 Calls Tryz.prog 12 #[.pointer (some ⟨br,0,Option.none⟩),.int .i64 (k:Int)] w fun e w'=>e = .returned (.bool true)∧∃ pv' pb',bE W br bc b0 b1 bt c mn cp jv r6 true cnt (n+1) pv' pb' m w':=by
 have HW:=ZkQ hw;have HS:=ZkQ hs;have HN:=ZkQ hn;have Xx:=ZkQ FH;have zf:=ZkQ u7;have HE:=ZkQ he;have H:=ZkQ h;have HI:=ZkQ I;have pX:=ZkQ dI;have HKK:=ZkQ hk;have HKEY:=ZkQ aV;obtain⟨⟨y0,y1,y2,y3,y4,y5,y6,y7,y8,y9,dL,bQ⟩,-,-⟩:=h.box;have fF:=Lp h.o I.Z.C.2 hk;rw[dI]at fF;have vH:=ZkQ fF;clear h I dI hk fF aV hw hs hn FH u7 he
 go_enter Tryz.func12,Tryz.ntmps12
 go_wp2_with fail
 clear y0 y1 y2 y3 y4 y5 y6 y7 y8 y9 dL bQ;refine vH.out.mono ?_;rintro e w2 ⟨rfl,h2⟩;have h2:bE W br bc b0 b1 bt c mn cp jv r true cnt n pv pb m w2:=⟨H.out.p,h2⟩;have h3:=h2.alloc z17;obtain⟨B,hB⟩:=Zx9 (w2.heap.size);rw[hB]at h3;obtain⟨M0,hM0,pE⟩:=h3.Dv;have vD:=ZkQ hM0;have vC:=ZkQ pE;have HT0:=ZkQ (jU t);clear h2 h3 hM0 pE vH H;have q1:(t.want==1)=true:=by rw[HW.out];rfl
 simp only[Option.getD_some,Option.isSome_some]
 go_wp2_with (first
  |(refine jm (t:=59) (new:=dm (t)) rfl _ _ rfl rfl rfl gQ vD.out rfl HT0.out ?_;intro w3 hS;have h3:bE W br bc b0 b1 bt c mn cp jv r true cnt n pv pb (tB B (t)::m) w3:=vC.out _ _ hS;have H3:=ZkQ h3;obtain⟨Mt,hMt⟩:=h3.aU;obtain⟨⟨x0,x1,x2,x3,x4,x5,x6,x7,x8,x9,x10,gz,gB,gD,gG,gH,fT⟩,-⟩:=iV (t:=t) hMt;obtain⟨⟨y0,y1,y2,y3,y4,y5,y6,y7,y8,y9,dL,bQ⟩,-,fz⟩:=h3.box;have oJ:=fz 522;clear hS h3 hMt fz hB vD vC))
 refine(Y2 HI.out.Z HKEY.out HI.out.tk H3.out.o HN.out).mono ?_;rintro e w4 ⟨rfl,h4⟩;have pV:=fun (m':List (Nat×Obj)) (w':World) (h:jF W bc b0 b1 bt c mn cp r.g r.tk cnt n m' w')=>YA (t':=t') HI.out.Z HKEY.out HI.out.tk h HN.out pX.out HW.out (by rw[HS.out];exact zf.out);have pV:=ZkQ pV;rw[HS.out]at pV ⊢;have h4:bE W br bc b0 b1 bt c mn cp jv r true cnt n pv pb (tB B t::m) w4:=⟨H3.out.p,h4⟩;have H4:=ZkQ h4;clear h4 H3 x0 x1 x2 x3 x4 x5 x6 x7 x8 x9 x10 gz gB gD gG gH fT y0 y1 y2 y3 y4 y5 y6 y7 y8 y9 dL bQ oJ;obtain⟨⟨y0,y1,y2,y3,y4,y5,y6,y7,y8,y9,dL,bQ⟩,-,fz⟩:=H4.out.box;have oJ:=fz 522;clear fz;go_wp2_with fail
 have H3:Hid (bE W br bc b0 b1 bt c mn cp jv { r with none:=r.none+1 } true cnt n pv pb (tB B t::m) (w4.setCell ⟨br,522,Option.none⟩ (.int .i64 ((r.none+1:Nat):Int)))):=⟨H4.out.p,q9 H4.out.o fun M hM=>Zk2 hM (r.none+1)⟩;rw[show wrap64 ((r.none:Int)+1)=((r.none+1:Nat):Int) from ZxD _ (by have:=Xx.out;omega)];clear H4;refine(pV.out _ _ H3.out.o).mono ?_;rintro e w5 ⟨rfl,h5⟩;have h5:bE W br bc b0 b1 bt c mn cp jv { r with none:=r.none+1,tk:=Cv.upd r.tk k (Cv.stop t') } true cnt (n+1) pv pb (tB B t::m) w5:=⟨H3.out.p,h5⟩;obtain⟨M5,vZ,zX⟩:=h5.Dv;have za:=ZkQ vZ;have yX:=ZkQ zX;have F5:=ZkQ (jU t');clear h5 vZ zX H3 oJ y0 y1 y2 y3 y4 y5 y6 y7 y8 y9 dL bQ
 go_upto_region 14 with(first
  |(refine jm (t:=59) (new:=dm t') rfl _ _ rfl rfl rfl gQ za.out rfl F5.out ?_;intro w7 hS;have h7:bE W br bc b0 b1 bt c mn cp jv { r with none:=r.none+1,tk:=Cv.upd r.tk k (Cv.stop t') } true cnt (n+1) pv pb (tB B t'::m) w7:=yX.out _ _ hS;have H7:=ZkQ h7;have zb:Hid (Own W (tB B t'::M5) w7):=ZkQ hS;obtain⟨⟨-,-,-,x3,-⟩,-⟩:=iV (t:=t') zb.out;clear hS h7 za yX))
 rcases HE.out with⟨hf,Az⟩|⟨hf,hE⟩
 ·have qf:(t'.fin != 0)=false:=by simpa using hf
  have H8:=ZkQ (H7.out.sub (ZxC _ _));rw[← Az]at H8;clear hf Az;go_wp2_with fail
  go_ret;exact⟨rfl,pv,pb,H8.out⟩
 ·have qf:(t'.fin != 0)=true:=by simpa using hf
  have HC:=ZkQ (hE _ _ _ _ _ _ H7.out);clear hf hE
  go_wp2_with (first
   |(refine qC (t:=59) (old:=dm t') rfl _ rfl rfl Tryz.underlying59 zb.out gQ ?_))
  refine HC.out.mono ?_;rintro e w8 ⟨rfl,pv',pb',h8⟩;have H8:=ZkQ (h8.sub (ZxC _ _));clear h8;go_wp2_with fail
  go_ret;exact⟨rfl,pv',pb',H8.out⟩
end
end Cw
namespace Cw
open See
section
variable {c:Ch}{mn cp:Nat}{g:List Nat}{t:Tk}{k:Nat}
def Kp (k:Nat)(o:Out):Prop:=∀ t' g',o=some (t',g')→t'.aB=k
theorem Bv:Kp k none:=fun _ _ h=>by cases h
theorem yu {t':Tk}{g':List Nat}(h:t'.aB=k):Kp k (some (t',g')):=fun _ _ e=>by
 cases e;exact h
theorem Gw {p:Prop}[Decidable p]{a b:Out}(h1:Kp k a)(h2:Kp k b):Kp k (if p then a else b):=by
 split
 ·exact h1
 ·exact h2
theorem Jp {p:Prop}[Decidable p]{o:Out}(h:Kp k o):Kp k (need p o):=Gw h Bv
theorem ET {i:Nat}{f:Nat→Out}(h:∀ x,Kp k (f x)):Kp k (rd g i f):=by
 unfold rd;split
 ·exact h _
 ·exact Bv
theorem QD {i x:Nat}{t':Tk}(h:t'.aB=k):Kp k (wr g i x t'):=ET fun _=>yu h
theorem Jo {i a b x y:Nat}{t1 t2:Tk}(h1:t1.aB=k)(h2:t2.aB=k):Kp k (mK g i a b x y t1 t2):=ET fun _=>ET fun _=>Gw (yu h1) (yu h2)
theorem P6 {w:Nat}{f:Int→Int→Out}(h:∀ x y,Kp k (f x y)):Kp k (Dq w f):=by
 unfold Dq;split
 ·exact h _ _
 ·exact Bv
theorem P7 {w:Nat}{f:Int→Int→Out}(h:∀ x y,Kp k (f x y)):Kp k (ut w f):=by
 unfold ut;split
 ·exact h _ _
 ·exact Bv
theorem Jq {w:Nat}{f:Nat→Nat→Bool→Out}(h:∀ x y z,Kp k (f x y z)):Kp k (sW w f):=by
 unfold sW;split
 ·exact Gw (h _ _ _) Bv
 ·exact Bv
theorem PE {t t':Tk}(hg:kY t=some t'):t'.aB=t.aB:=by
 unfold kY at hg;repeat' split at hg
 all_goals first
  |cases hg;rfl
  |cases hg
theorem P9 {i:Nat}{p:Int}:Kp t.aB (uw g t i p):=ET fun _=>yu rfl
theorem P5 {s o:Nat}{f1 f2:Bool}{y n:Nat→Tk}(h1:∀ x,(y x).aB=k)(h2:∀ x,(n x).aB=k):Kp k (zH c g t s o f1 f2 y n):=Jq fun _ _ _=>Jp (Jo (h1 _) (h2 _))
theorem P8 {s:Nat}{f1 f2 f3:Bool}{y n:Tk}(h1:y.aB=k)(h2:n.aB=k):Kp k (BV c g t s f1 f2 f3 y n):=Jq fun _ _ _=>Jp (Jo h1 h2)
theorem ZoW:Kp t.aB (jq c g t):=by
 unfold jq
 repeat' first
  |exact Bv
  |exact yu rfl
  |exact QD rfl
  |exact Jo rfl rfl
  |exact P9
  |refine P5 (fun _=>rfl) (fun _=>rfl)
  |exact P8 rfl rfl
  |refine Jp ?_
  |refine ET fun _ => ?_
  |refine qy fun _ => ?_
  |refine vo fun _ => ?_
  |refine P6 fun _ _ => ?_
  |refine P7 fun _ _ => ?_
  |refine Jq fun _ _ _ => ?_
  |refine Gw ?_ ?_
  |exact yu (PE (by assumption))
  |split
theorem ZoX:Kp t.aB (dD c g t):=by
 unfold dD
 repeat' first
  |exact Bv
  |exact yu rfl
  |exact QD rfl
  |exact Jo rfl rfl
  |exact P9
  |refine P5 (fun _=>rfl) (fun _=>rfl)
  |exact P8 rfl rfl
  |refine Jp ?_
  |refine ET fun _ => ?_
  |refine qy fun _ => ?_
  |refine vo fun _ => ?_
  |refine P6 fun _ _ => ?_
  |refine P7 fun _ _ => ?_
  |refine Jq fun _ _ _ => ?_
  |refine Gw ?_ ?_
  |exact yu (PE (by assumption))
  |split
theorem ZoV:Kp t.aB (dZ c mn cp g t):=by
 unfold dZ
 repeat' first
  |exact Bv
  |exact yu rfl
  |exact QD rfl
  |exact Jo rfl rfl
  |exact P9
  |refine P5 (fun _=>rfl) (fun _=>rfl)
  |exact P8 rfl rfl
  |refine Jp ?_
  |refine ET fun _ => ?_
  |refine qy fun _ => ?_
  |refine vo fun _ => ?_
  |refine P6 fun _ _ => ?_
  |refine P7 fun _ _ => ?_
  |refine Jq fun _ _ _ => ?_
  |refine Gw ?_ ?_
  |exact yu (PE (by assumption))
  |split
theorem Znx:Kp t.aB (bG c mn g t):=by
 unfold bG
 repeat' first
  |exact Bv
  |exact yu rfl
  |exact QD rfl
  |exact Jo rfl rfl
  |exact P9
  |refine P5 (fun _=>rfl) (fun _=>rfl)
  |exact P8 rfl rfl
  |refine Jp ?_
  |refine ET fun _ => ?_
  |refine qy fun _ => ?_
  |refine vo fun _ => ?_
  |refine P6 fun _ _ => ?_
  |refine P7 fun _ _ => ?_
  |refine Jq fun _ _ _ => ?_
  |refine Gw ?_ ?_
  |exact yu (PE (by assumption))
  |split
theorem Zpp {t':Tk}{g':List Nat}(h:Cv.iO c mn cp g t=some (t',g')):t'.aB=t.aB:=by
 unfold Cv.iO at h;split at h
 ·exact ZoW _ _ h
 ·split at h
  ·exact ZoX _ _ h
  ·split at h
   ·exact ZoV _ _ h
   ·exact Znx _ _ h
end
end Cw
namespace Cw
open Go Mem See
open Go.RowKit
section
variable {W w w':World}{m l:List (Nat×Obj)}{br bc b0 b1 bt:Nat}{c:Ch}{mn cp cnt n k:Nat}{r r':Cv.Rn}{jv pv:Value}{pb:List (Nat×Obj)}{aj:List Int}{st st':Cv.St}{t t':Tk}{g':List Nat}{b:Bool}
theorem Tp {r5:Cv.Rn}(h1:t'.fin≠0)(h3:t'.fin≠3)(h:¬(t'.job=1∧t'.fin=1)):LV W br bc b0 b1 bt c mn cp jv r5 t' r5 :=
 .inr ⟨h1,fun _ _ pv pb _ _ hR=>(Zm9 hR h3 h).mono fun _ _ ⟨h5,h6⟩=>⟨h5,pv,pb,h6⟩⟩
theorem Zkw {aj:List Int}(h:r.next≤120):(Cv.l5 c aj r k).1.next≤120∧(Cv.l5 c aj r k).1.none=r.none:=by
 unfold Cv.l5;split
 ·rename_i h2
  split
  ·exact⟨by show r.next+1≤120;omega,rfl⟩
  ·exact⟨by show r.next+1≤120;omega,rfl⟩
 ·exact⟨h,rfl⟩
theorem SF (h:bE W br bc b0 b1 bt c mn cp jv r true cnt n pv pb m w)(hj:jP W jv aj)(lG:∀ j∈aj,(Lit.int .i64 j).wf=true)(hn:r.next≤120)(I:Cv.RI c mn cp r st)(aV:c.key<18446744073709551616)(hk:k<c.C)(hT:Ex.jR aJ.gs W)
 (aW:st.n<1000000000) (DX:cnt<1000000000) (D8:n<1000000000) (FH:r.none<1000000000) (hp:Cv.yC c mn cp aj r k=some (r',b)) :
 r'.next≤120∧r'.none≤r.none+1∧Calls Tryz.prog 12 #[.pointer (some ⟨br,0,Option.none⟩),.int .i64 (k:Int)] w fun e w'=>e = .returned (.bool b)∧∃ pv' pb' cnt' n',cnt'≤cnt+1∧n'≤n+1∧bE W br bc b0 b1 bt c mn cp jv r' true cnt' n' pv' pb' m w':=by
 unfold Cv.yC at hp;cases dI:r.tk k with
 |none =>
  rw[dI]at hp;have hp:=ZxZ hp;have e1:(Cv.l5 c aj r k).1=r':=congrArg Prod.fst hp;have e2:(Cv.l5 c aj r k).2=b:=congrArg Prod.snd hp;have hb:=Zkw (c:=c) (k:=k) (aj:=aj) hn;rw[e1]at hb;refine⟨hb.1,by omega,(ZnX h I aV hk dI hj lG hn).mono ?_⟩;rintro e w' ⟨rfl,pv',pb',n',qP,h'⟩;rw[e1]at h';rw[e2];exact⟨rfl,pv',pb',cnt,n',Nat.le_succ _,qP,h'⟩
 |some t =>
  have ht:st.tk k=some t:=by rw[I.tk];exact dI
  obtain⟨-,hL⟩:=I.Z.I.loc k t ht;rw[dI]at hp;dsimp only at hp;by_cases h1:t.want=1
  ·rw[if_pos h1]at hp
   cases hf:Cv.oF c r.g r.tk with
   |some s =>
    rw[hf]at hp;dsimp only at hp;simp only[ZlP,ZxA]at hp;obtain⟨rfl,rfl⟩:=hp;refine⟨hn,Nat.le_succ _,(ZjL (t':={ t with want:=0,aA:=(s:Int),many:=0,pc:=43 }) (r6:={ r with tk:=Cv.upd r.tk k (some { t with want:=0,aA:=(s:Int),many:=0,pc:=43 }) }) h I aV hk dI h1 D8 FH hf rfl (.inl ⟨hL.fin,?_⟩)).mono ?_⟩
    ·have:Cv.stop { t with want:=0,aA:=(s:Int),many:=0,pc:=43 }=some { t with want:=0,aA:=(s:Int),many:=0,pc:=43 }:=if_pos hL.fin
     rw[this]
    ·rintro e w' ⟨rfl,pv',pb',h'⟩
     exact⟨rfl,pv',pb',cnt,n+1,Nat.le_succ _,Zxt _,h'⟩
   |none =>
    rw[hf]at hp;dsimp only at hp;simp only[ZlP,ZxA]at hp;obtain⟨rfl,rfl⟩:=hp;refine⟨hn,Zxt _,(ZjK (t':={ t with want:=0,fin:=2 }) (r6:={ r with none:=r.none+1,tk:=Cv.upd r.tk k Option.none }) h I aV hk dI h1 D8 FH hf rfl ?_).mono ?_⟩
    ·have:Cv.stop { t with want:=0,fin:=2 }=Option.none:=if_neg (show ¬(2:Int)=0 by decide)
     rw[this];exact Tp (show(2:Int)≠0 by decide) (show(2:Int)≠3 by decide) (fun e=>absurd e.2 (show(2:Int)≠1 by decide))
    ·rintro e w' ⟨rfl,pv',pb',h'⟩
     exact⟨rfl,pv',pb',cnt,n+1,Nat.le_succ _,Zxt _,h'⟩
  ·rw[if_neg h1]at hp
   by_cases h2:t.want=2
   ·rw[if_pos h2]at hp
    obtain⟨t',hg,-,-,aI,jH,qM,-⟩:=Cv.ZG I.Z ht h2;rw[hg]at hp;dsimp only at hp;simp only[ZlP,ZxA]at hp;obtain⟨rfl,rfl⟩:=hp;have ai:t'.aB=t.aB:=by
     unfold kY at hg;dsimp only at hg;split at hg
     ·cases hg;rfl
     ·split at hg
      ·cases hg;rfl
      ·split at hg
       ·cases hg;rfl
       ·split at hg
        ·split at hg
         ·cases hg;rfl
         ·cases hg;rfl
        ·cases hg
    refine⟨hn,Nat.le_succ _,(Zms (r6:={ r with tk:=Cv.upd r.tk k (Cv.stop t') }) h I aV hk dI h2 hT hg ai ?_).mono ?_⟩
    ·rcases aI with hf|hf
     ·exact .inl ⟨hf,rfl⟩
     ·exact Tp (by omega) (by omega) (fun e=>qM (by rw[← jH];exact e.1))
    ·rintro e w' ⟨rfl,pv',pb',h'⟩
     exact⟨rfl,pv',pb',cnt,n+1,Nat.le_succ _,Zxt _,h'⟩
   ·rw[if_neg h2]at hp
    have h0:t.want=0:=by
     rcases hL.want with h|h|h
     ·exact h
     ·exact absurd h.2 h1
     ·exact absurd h.2 h2
    obtain⟨t',g',st',hR⟩:=Cv.step_ok (I.Z.cx ht aW) h0;rw[hR.step]at hp;dsimp only at hp;simp only[ZlP,ZxA]at hp;obtain⟨rfl,rfl⟩:=hp;have ai:t'.aB=t.aB:=Zpp hR.step;have ou:∀ r5:Cv.Rn,(Cv.rf r5 t').next=r5.next∧(Cv.rf r5 t').none=r5.none:=fun r5=>by
     unfold Cv.rf;split<;>exact⟨rfl,rfl⟩
    refine⟨by rw[(ou _).1];exact hn,by rw[(ou _).2];exact Nat.le_succ _,(ZnY (r6:=Cv.rf { r with g:=g',tk:=Cv.upd r.tk k (Cv.stop t') } t') h I aV hk dI h0 hT DX hR.step ai ?_).mono ?_⟩
    ·rcases hR.fin with hf|hf
     ·exact .inl ⟨hf,if_neg (fun e=>by rw[hf]at e;cases e.2)⟩
     ·by_cases NC:t'.job=1
      ·refine .inr ⟨by omega,fun cnt n pv pb m w hS => ?_⟩
       have fB:=hR.out;rw[if_pos ⟨hR.job ▸ NC,hf⟩]at fB;obtain⟨s0,o0,e1,e2,cO,Kb,fJ,-⟩:=fB;have xq:Cv.rf { r with g:=g',tk:=Cv.upd r.tk k (Cv.stop t') } t'={ g:=g',tk:=Cv.upd r.tk k (Cv.stop t'),next:=r.next,out:=fun x=>if x=16 * s0+o0 then true else r.out x,pile:=r.pile++[16 * s0+o0],none:=r.none }:=by
         unfold Cv.rf;rw[if_pos ⟨NC,hf⟩,show 16 * t'.aA.toNat+t'.obj.toNat=16 * s0+o0 by omega]
       rw[xq];have hO:=I.Z.O;have hSS:=I.Z.S;have hfl:r.out (16 * s0+o0)=false:=by
         cases hx:r.out (16 * s0+o0) with
         |false=>rfl
         |true=>exact absurd ((I.out s0 o0 (by omega)).1 hx) fJ
       exact Zna hS NC hf e1 e2 cO Kb ⟨hSS.2,hO.2⟩ hfl (by have:=Zp I;show r.pile.length≤1000;omega)
      ·have xq:Cv.rf { r with g:=g',tk:=Cv.upd r.tk k (Cv.stop t') } t'={ r with g:=g',tk:=Cv.upd r.tk k (Cv.stop t') }:=if_neg (fun e=>NC e.1)
       rw[xq];exact Tp (by omega) (by omega) (fun e=>NC e.1)
    ·rintro e w' ⟨rfl,pv',pb',h'⟩
     exact⟨rfl,pv',pb',cnt+1,n+1,Zxt _,Zxt _,h'⟩
end
end Cw
namespace Cw
open Go Mem See
open Go.RowKit
section
variable {bc:Nat}{c:Ch}{mn cp:Nat}{A:Option Addr}{nj kj:Nat}
theorem ZjS (w:World):(Instr.build 35 #[(0,.pointer (some ⟨bc,0,Option.none⟩)),(1,qd c mn cp),(2,.slice A nj kj),(7,.bool true)]).run Tryz.prog w = .ok (.agg (nG bc c mn cp (.slice A nj kj) 0 (fun _=>false) (.slice Option.none 0 0) 0 true).toArray) w:=by kernel_rfl
theorem Zmy (w:World):(Instr.box 35 (.agg (nG bc c mn cp (.slice A nj kj) 0 (fun _=>false) (.slice Option.none 0 0) 0 true).toArray)).run Tryz.prog w = .ok (.pointer (some ⟨w.heap.size,0,Option.none⟩)) (w.alloc (gJ 0 bc c mn cp (.slice A nj kj) 0 (fun _=>false) (.slice Option.none 0 0) 0 true).2):=by kernel_rfl
end
end Cw
namespace Cw
open Go Mem See
open Go.RowKit
open Apart (tF uH tC Vb)
attribute [local go_sem ↓] Go.wp_at_zero Go.wp_at_succ
section
variable {W w:World}{m:List (Nat×Obj)}{c:Ch}{mn cp:Nat}
theorem Zua {α:Type}(a b d x y:α)(l:List α):(a::b::x::y::d::l).Perm (a::x::y::b::d::l):=by
 classical
 rw[List.perm_iff_count];intro q;simp only[Zxv];omega
theorem Zm1 (h:Own W m w)(hc:sI c (mn:Int) (cp:Int))(hw:c.words≤4096)(ve:1≤c.words) :
 Calls Tryz.prog 11 #[qd c mn cp] w fun e w'=>∃ bc b0 b1 bt,e = .returned (.tuple #[.pointer (some ⟨bc,0,Option.none⟩),.int .i64 0])∧Own W (aY bc b0 bt c mn cp::mB b0 b1 c.words 0::wB b1 (List.replicate c.words 0)::(bt,.map #[] 0)::m) w':=by
 have h1:=h.new (.cells #[.int .i64 c.C,.int .i64 c.S,.int .i64 c.O,.int .i64 (mn:Int),.int .i64 (cp:Int),.int .u64 c.key] 24);obtain⟨b,hb⟩:=Zx9 (w.heap.size);rw[hb]at h1;have h1:Own W (uH b c.C c.S c.O mn cp c.key::m) _:=h1;obtain⟨y0,y1,y2,y3,y4,y5⟩:=tC h1;have HC:=ZkQ hc;have H1:=ZkQ h1;have HW:=ZkQ hw;have HW1:=ZkQ ve;have Bo:=ZkQ (Zpv c);clear h h1 hc hw ve;unfold qd
 go_enter Tryz.func11,Tryz.ntmps11
 go_wp2_with fail
 refine(Apart.Zox HC.out.ok H1.out).mono ?_;rintro r w2 ⟨rfl,h2⟩;clear y0 y1 y2 y3 y4 y5;obtain⟨y0,y1,y2,y3,y4,y5⟩:=tC h2;go_wp2_with fail
 refine(Apart.Zpw HC.out.ok h2).mono ?_;rintro r w3 ⟨rfl,h3⟩;rw[Bo.out];clear y0 y1 y2 y3 y4 y5 h2;go_wp2_with fail
 refine(Zo5 h3 HW1.out HW.out).mono ?_;rintro r w4 ⟨b0,b1,rfl,h4⟩;obtain⟨y0,y1,y2,y3,y4,y5⟩:=tC h4.skip.skip;have H4:=ZkQ h4;clear h3 h4 hb;have pO:=fun w:World=>run_makeMap (P:=Tryz.prog) 69 w;go_wp2_with fail
 have h6:=(H4.out.new (.map #[] 0)).new (.cells #[.int .i64 (c.C:Int),.int .i64 (c.S:Int),.int .i64 (c.O:Int),.int .i64 (mn:Int),.int .i64 (cp:Int),.int .u64 (c.key:Int),.pointer (some ⟨b0,0,Option.none⟩),.map (some w4.heap.size)] 71);rw[World.size_alloc]at h6;have h7:Own W (aY (w4.heap.size+1) b0 w4.heap.size c mn cp::mB b0 b1 c.words 0::wB b1 (List.replicate c.words 0)::(w4.heap.size,.map #[] 0)::m) _:=(h6.perm (Zua _ _ _ _ _ _)).sub (((((List.Sublist.refl m).cons _).cons_cons _).cons_cons _).cons_cons _ |>.cons_cons _)
 go_ret2
 exact⟨_,_,_,_,rfl,h7⟩
end
end Cw
end Go.Proofs.YtfcpdlbkmkhhcaaGreatDoor
