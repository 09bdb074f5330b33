/-
  Texts of this claim, joined. No condition.
-/
import Derived.Test.YtfcpdlbkmkhhcaaGreatDoorCh1
import Derived.Test.YtfcpdlbkmkhhcaaGreatDoorCh41
import Derived.Test.YtfcpdlbkmkhhcaaGreatDoorCh16
import Derived.BigQuiet
import Derived.Deep.RegionHeld3
import Derived.Deep.RegionLaw
namespace Go.Proofs.YtfcpdlbkmkhhcaaGreatDoor
set_option maxRecDepth 100000
set_option maxHeartbeats 40000000
namespace Cw
open Go Mem See
open Go.RowKit
attribute [local go_sem ↓] Go.wp_at_zero Go.wp_at_succ
section
variable {W w w':World}{m l:List (Nat×Obj)}{br bc b0 b1 bt:Nat}{c:Ch}{mn cp cnt n k:Nat}{r:Cv.Rn}{jv pv:Value}{pb:List (Nat×Obj)}{aj:List Int}{j J:Int}
theorem Zkv (h:bE W br bc b0 b1 bt c mn cp jv r true cnt n pv pb m w)(hj:jP W jv aj)(hn:r.next<120)(jA:aj[r.next]?=some j)(lG:(Lit.int .i64 j).wf=true)(hJ:j % 16=J)(rJ:J≠15)(rH:J≠14)(Fj:8≤J)(MX:0<r.pile.length)(MW:r.pile.length≤1000)(hXB:∀ x∈r.pile,x<512)(hXS:∀ x∈r.pile,x / 16<c.S∧x % 16<c.O)(hCO:sI c (mn:Int) (cp:Int))(hC:c.C≤5)(hk:k<c.C)(dI:r.tk k=Option.none) :
 Calls Tryz.prog 23 #[.pointer (some ⟨br,0,Option.none⟩),.int .i64 (k:Int)] w fun e w'=>e = .returned (.bool true)∧∃ pv' pb',bE W br bc b0 b1 bt c mn cp jv { r with next:=r.next+1,tk:=Cv.upd r.tk k (some (Cv.GH k (r.pile.getD (Cv.eZ (j.tdiv 16) r.pile.length) 0))),pile:=Cv.zC r.pile (Cv.eZ (j.tdiv 16) r.pile.length),out:=fun y=>if y=r.pile.getD (Cv.eZ (j.tdiv 16) r.pile.length) 0 then false else r.out y } true cnt (n+1) pv' pb' m w':=by
 have zh:=ZkQ rH;have zi:=ZkQ rJ;have F6:=ZkQ Fj;have lJ:=ZkQ MX;have Ep:=ZkQ MW;have HXB:=ZkQ hXB;have HXS:=ZkQ hXS;have I7:=ZkQ hCO;obtain⟨PA,PK,rfl,pR⟩:=h.pile;have F3:=ZkQ pR;clear pR;have OS:=ZkQ hj;obtain⟨M0,hM0⟩:=C8 h.o;have aX:jP w jv aj:=Src.GG hj hM0;rcases aX.2 with⟨rfl,mW⟩|⟨a,K,rfl,hcell⟩
 ·rw[List.eq_nil_of_length_eq_zero mW]at jA
  cases jA
 have cy:=hcell r.next _ (wX jA);have aK:r.next<aj.length:=(List.getElem?_eq_some_iff.1 jA).1;have i1:(0:Int)≤(r.next:Int):=by omega
 have i2:(r.next:Int)<(aj.length:Int):=by omega
 have d1:decide (aj.length≤r.next)=false:=Zx7 (by omega);have d2:decide ((120:Int)≤(r.next:Int))=false:=Zx7 (by omega);have mH:=ZkQ lG;have sJ:=ZkQ hJ;have H:=ZkQ h;have qV:=ZkQ hC;have HKK:=ZkQ hk;have pX:=ZkQ dI;have HN:=ZkQ hn;clear h hj hn jA lG hJ hC hk dI aX hcell aK hM0 rH rJ Fj MX MW hXB hXS hCO
 go_enter Tryz.func23,Tryz.ntmps23
 obtain⟨⟨y0,y1,y2,y3,y4,y5,y6,y7,y8,y9,dL,bQ⟩,-,-⟩:=H.out.box;go_wp2_with fail
 go_quiet (fail)
 clear y0 y1 y2 y3 y4 y5 y6 y7 y8 y9 dL bQ;have H1:=ZkQ (H.out.drewN nq);have cy:(w.drewN nq).cell? (a.add r.next)=some (.int .i64 j):=cy;clear H;generalize w.drewN nq=w1 at H1 cy ⊢;obtain⟨⟨y0,y1,y2,y3,y4,y5,y6,y7,y8,y9,dL,bQ⟩,-,-⟩:=H1.out.box;go_wp2_with fail
 go_quiet (fail)
 clear y0 y1 y2 y3 y4 y5 y6 y7 y8 y9 dL bQ cy d1 d2 i1 i2;have H2:=ZkQ (H1.out.drewN nq);clear H1;generalize w1.drewN nq=w2 at H2 ⊢;obtain⟨⟨y0,y1,y2,y3,y4,y5,y6,y7,y8,y9,dL,bQ⟩,-,f⟩:=H2.out.box;have f8:=f 8;clear f;go_wp2_with fail
 clear y0 y1 y2 y3 y4 y5 y6 y7 y8 y9 dL bQ f8;rw[show wrap64 ((r.next:Int)+1)=((r.next+1:Nat):Int) from ZxD _ (by have:=HN.out;omega)];have H3:Hid (bE W br bc b0 b1 bt c mn cp (.slice (some a) aj.length K) { r with next:=r.next+1 } true cnt n (.slice PA r.pile.length PK) pb m (w2.setCell ⟨br,8,Option.none⟩ (.int .i64 ((r.next+1:Nat):Int)))):=⟨H2.out.p,q9 H2.out.o fun M hM=>KX hM (r.next+1)⟩;clear H2;generalize w2.setCell ⟨br,8,Option.none⟩ (.int .i64 ((r.next+1:Nat):Int))=w3 at H3 ⊢;obtain⟨⟨y0,y1,y2,y3,y4,y5,y6,y7,y8,y9,dL,bQ⟩,-,-⟩:=H3.out.box;have Kq:(J==15)=false:=by simpa using zi.out
 have OJ:(J==14)=false:=by simpa using zh.out
 refine(oC j 16 (by omega) (by omega) mH.out _).mono ?_;rintro e w4 ⟨rfl,rfl⟩;rw[sJ.out];go_wp2_with fail
 refine(oC j 16 (by omega) (by omega) mH.out _).mono ?_;rintro e w4 ⟨rfl,rfl⟩;rw[sJ.out];go_wp2_with fail
 refine(oC j 16 (by omega) (by omega) mH.out _).mono ?_;rintro e w4 ⟨rfl,rfl⟩;rw[sJ.out];have q8:decide ((8:Int)≤J)=true:=Zx8 F6.out;obtain⟨gp,rfl,hpc,hpf⟩:=F3.out lJ.out;have HPC:=ZkQ hpc;have NI:(0:Int)<(r.pile.length:Int):=by have:=lJ.out;omega
 have d9:decide ((0:Int)<(r.pile.length:Int))=true:=Zx8 NI;have d10:decide (0<r.pile.length)=true:=Zx8 lJ.out;have hwr:=Zi mH.out;have OP:Hid ((j.tdiv 16) % (r.pile.length:Int)=((Cv.eZ (j.tdiv 16) r.pile.length:Nat):Int)):=Dj lJ.out;have Bo:Hid ((Lit.int .i64 (j.tdiv 16)).wf=true):=Uo mH.out;have eH:Hid (Cv.eZ (j.tdiv 16) r.pile.length<r.pile.length):=Cv.ul lJ.out;clear hpc hpf;go_wp2_with fail
 refine(oC (j.tdiv 16) (r.pile.length:Int) (by have:=lJ.out;omega) (by have:=Ep.out;omega) Bo.out _).mono ?_;rintro e w4 ⟨rfl,rfl⟩;rw[OP.out];obtain⟨i,hi⟩:=Zx9 (Cv.eZ (j.tdiv 16) r.pile.length);have HI:=ZkQ hi;rw[hi]at eH ⊢;obtain⟨x,hx⟩:∃ x,r.pile[i]?=some x:=⟨_,Zxp eH.out⟩;obtain⟨z,hz⟩:∃ z,r.pile[r.pile.length - 1]?=some z:=⟨_,Zxp (by have:=lJ.out;omega)⟩;have Cz:=H3.out.ZpR;have c1:=Cz.1 i x hx;have i1:(0:Int)≤(i:Int):=by omega
 have i2:(i:Int)<(r.pile.length:Int):=by have:=eH.out;omega
 have HX:=ZkQ hx;have HZ:=ZkQ hz;clear hi hx hz Cz hwr OP Bo q8 d9 d10 OJ Kq;go_upto_region 14 with fail
 have RH:=ZkQ H3.out.drew;clear y0 y1 y2 y3 y4 y5 y6 y7 y8 y9 dL bQ c1;obtain⟨⟨y0,y1,y2,y3,y4,y5,y6,y7,y8,y9,dL,bQ⟩,-,-⟩:=H3.out.box;have Cz:=H3.out.ZpR;have c2:=Cz.1 _ z HZ.out;have c1:=Cz.1 i x HX.out;have f1:=Cz.2 i;have e1:IntKind.i64.wrap ((r.pile.length:Int) - 1)=((r.pile.length - 1:Nat):Int):=by
  have:=lJ.out;have:=Ep.out;rw[Ex.wS (by omega) (by omega)];omega
 have i3:(0:Int)≤((r.pile.length - 1:Nat):Int):=by omega
 have i4:((r.pile.length - 1:Nat):Int)<(r.pile.length:Int):=by have:=lJ.out;omega
 clear Cz
 go_region
 clear y0 y1 y2 y3 y4 y5 y6 y7 y8 y9 dL bQ c1 c2 f1 i1 i2;obtain⟨Xf,h4⟩:=H3.out.Zrf (j:=i) eH.out z;have H4:=ZkQ h4.drew;clear h4 H3 RH;generalize (w3.setCell ⟨gp,i,Option.none⟩ (.int .i64 (z:Int))).drew=w4 at H4 ⊢;obtain⟨⟨y0,y1,y2,y3,y4,y5,y6,y7,y8,y9,dL,bQ⟩,-,f⟩:=H4.out.box;have VE:=f 521;have i5:((r.pile.length - 1:Nat):Int)≤(PK:Int):=by
  have h:=H4.out.Zrd;have h:(r.pile.set i z).length≤PK:=h;rw[List.length_set]at h;omega
 clear f;go_upto_region 15 with fail
 go_region
 clear y0 y1 y2 y3 y4 y5 y6 y7 y8 y9 dL bQ VE e1 i3 i4 i5;have h5:=H4.out.Zre (k:=r.pile.length - 1) (by show _≤(r.pile.set i z).length;rw[List.length_set];omega);have H5:=ZkQ h5.drew;clear h5 H4;generalize (w4.setCell ⟨br,521,Option.none⟩ (.slice (some ⟨gp,0,Option.none⟩) (r.pile.length - 1) PK)).drew=w5 at H5 ⊢;obtain⟨⟨y0,y1,y2,y3,y4,y5,y6,y7,y8,y9,dL,bQ⟩,yo,f⟩:=H5.out.box;have AY:=HXB.out x (Zxz HX.out);have yx:=yo x AY;have fx:=f (9+x);have i1:(0:Int)≤(x:Int):=by omega
 have i2:(x:Int)<512:=by omega
 clear f yo;go_wp2_with fail
 clear y0 y1 y2 y3 y4 y5 y6 y7 y8 y9 dL bQ yx fx i1 i2;have H6:Hid (bE W br bc b0 b1 bt c mn cp (.slice (some a) aj.length K) { r with next:=r.next+1,pile:=(r.pile.set i z).take (r.pile.length - 1),out:=fun y=>if y=x then false else r.out y } true cnt n (.slice (some ⟨gp,0,Option.none⟩) (r.pile.length - 1) PK) Xf m (w5.setCell ⟨br,9+x,Option.none⟩ (.bool false))):=⟨H5.out.p,q9 H5.out.o fun M hM=>Yn hM AY false⟩;clear H5 AY;generalize w5.setCell ⟨br,9+x,Option.none⟩ (.bool false)=w6 at H6 ⊢;obtain⟨hs,ho⟩:=HXS.out x (Zxz HX.out);rw[show(x:Int) / 16=((x / 16:Nat):Int) by omega,show(x:Int) % 16=((x % 16:Nat):Int) by omega];refine(Zoz I7.out H6.out.o HKK.out hs ho pX.out).mono ?_;rintro e w7 ⟨rfl,h7⟩;have H7:Hid (bE W br bc b0 b1 bt c mn cp (.slice (some a) aj.length K) { r with next:=r.next+1,tk:=Cv.upd r.tk k (some (Cv.GH k x)),pile:=(r.pile.set i z).take (r.pile.length - 1),out:=fun y=>if y=x then false else r.out y } true cnt (n+1) (.slice (some ⟨gp,0,Option.none⟩) (r.pile.length - 1) PK) Xf m w7):=⟨H6.out.p,h7⟩;clear h7 H6 hs ho;obtain⟨⟨y0,y1,y2,y3,y4,y5,y6,y7,y8,y9,dL,bQ⟩,-,f⟩:=H7.out.box;have uK:=f 523;clear f;go_wp2_with fail
 go_ret;refine⟨rfl,.slice (some ⟨gp,0,Option.none⟩) (r.pile.length - 1) PK,Xf,?_⟩;have ex:r.pile.getD i 0=x:=by rw[Zxx,HX.out];rfl
 have ez:Cv.zC r.pile i=(r.pile.set i z).take (r.pile.length - 1):=by
  unfold Cv.zC;rw[Zxx,HZ.out];rfl
 rw[HI.out,ex,ez];exact⟨H7.out.p,q9 H7.out.o fun M hM=>EB hM true⟩
end
end Cw
namespace Cw
open Go Mem See
open Go.RowKit
section
variable {W w w':World}{m l:List (Nat×Obj)}{br bc b0 b1 bt:Nat}{c:Ch}{mn cp cnt n k:Nat}{r:Cv.Rn}{jv pv:Value}{pb:List (Nat×Obj)}{aj:List Int}{st:Cv.St}
theorem Ui (I:Cv.RI c mn cp r st):∀ x∈r.pile,x<512∧x / 16<c.S∧x % 16<c.O:=by
 intro x hx;have h1:=(I.mem x).1 hx;have e:x=16 * (x / 16)+x % 16:=by omega
 rw[e]at h1;have h2:=(I.out _ _ (by omega)).1 h1;have h3:=I.Z.I.G.ob _ _ (by rw[h2];intro h;cases h);have h4:=I.Z.S;exact⟨by omega,h3.1,h3.2⟩
theorem Zp (I:Cv.RI c mn cp r st):r.pile.length≤512:=by
 have:=Cv.Jv (m:=List.range 512) I.nd fun x hx=>List.mem_range.2 (Ui I x hx).1
 rwa [List.length_range]at this
theorem ZrY {j:Int}{n:Nat}(h:1≤n):j % (n:Int)=((Cv.eZ j n:Nat):Int):=Dj h
theorem Zl7 (h:bE W br bc b0 b1 bt c mn cp jv r true cnt n pv pb m w)(hj:jP W jv aj)(lG:∀ j∈aj,(Lit.int .i64 j).wf=true)(hn:r.next≤120)(I:Cv.RI c mn cp r st)(aV:c.key<18446744073709551616)(hk:k<c.C)(dI:r.tk k=Option.none) :
 Calls Tryz.prog 23 #[.pointer (some ⟨br,0,Option.none⟩),.int .i64 (k:Int)] w fun e w'=>e = .returned (.bool (Cv.l5 c aj r k).2)∧∃ pv' pb' n',n'≤n+1∧bE W br bc b0 b1 bt c mn cp jv (Cv.l5 c aj r k).1 true cnt n' pv' pb' m w':=by
 have hC:=I.Z.C;by_cases dK:r.next<aj.length∧r.next<120
 ·obtain⟨j,jA⟩:∃ j,aj[r.next]?=some j:=⟨_,Zxp dK.1⟩
  have hw:=lG j (Zxz jA);have hJ:j % 16=((Cv.eZ j 16:Nat):Int):=ZrY (n:=16) (by omega);have jw:aj.getD r.next 0=j:=by rw[Zxx,jA];rfl
  have aK:=Cv.ul (i:=j) (n:=16) (by omega);by_cases zW:Cv.eZ j 16=15
  ·refine(Zkx h hj dK.2 jA hw hJ (by rw[zW];rfl) hC.2 hk dI).mono ?_
   rintro e w' ⟨rfl,h'⟩;have hb:Cv.l5 c aj r k=({ r with next:=r.next+1,tk:=Cv.upd r.tk k (some (Cv.JB k)) },true):=by
    unfold Cv.l5 Cv.zO;rw[if_pos dK,jw,if_pos zW]
   rw[hb];exact⟨rfl,pv,pb,n+1,Zxt _,h'⟩
  ·by_cases DR:Cv.eZ j 16=14
   ·refine(Zi0 h hj dK.2 jA hw hJ (by rw[DR];rfl) hC.1 hC.2 hk dI).mono ?_
    rintro e w' ⟨rfl,h'⟩;have hb:Cv.l5 c aj r k=({ r with next:=r.next+1,tk:=Cv.upd r.tk k (some (Cv.Jt k (Cv.eZ (j.tdiv 16) c.C))) },true):=by
     unfold Cv.l5 Cv.zO;rw[if_pos dK,jw,if_neg zW,if_pos DR]
    rw[hb];exact⟨rfl,pv,pb,n+1,Zxt _,h'⟩
   ·by_cases h8:8≤Cv.eZ j 16
    ·by_cases hp:r.pile=[]
     ·refine(ZhY h hj dK.2 jA hw hJ (by omega) (by omega) (by omega) hp hC.2 hk dI).mono ?_
      rintro e w' ⟨rfl,h'⟩;have hb:Cv.l5 c aj r k=({ r with next:=r.next+1,tk:=Cv.upd r.tk k (some (Cv.Dn k)) },true):=by
        unfold Cv.l5 Cv.zO;rw[if_pos dK,jw,if_neg zW,if_neg DR,if_neg (fun e=>e.2 hp)]
      rw[hb];exact⟨rfl,pv,pb,n+1,Zxt _,h'⟩
     ·have pR:0<r.pile.length:=List.length_pos_iff.2 hp
      refine(Zkv h hj dK.2 jA hw hJ (by omega) (by omega) (by omega) pR (by have:=Zp I;omega) (fun x hx=>(Ui I x hx).1) (fun x hx=>(Ui I x hx).2) (MH I.Z aV) hC.2 hk dI).mono ?_;rintro e w' ⟨rfl,pv',pb',h'⟩;have hb:Cv.l5 c aj r k=({ r with next:=r.next+1,tk:=Cv.upd r.tk k (some (Cv.GH k (r.pile.getD (Cv.eZ (j.tdiv 16) r.pile.length) 0))),pile:=Cv.zC r.pile (Cv.eZ (j.tdiv 16) r.pile.length),out:=fun y=>if y=r.pile.getD (Cv.eZ (j.tdiv 16) r.pile.length) 0 then false else r.out y },true):=by
        unfold Cv.l5 Cv.zO;rw[if_pos dK,jw,if_neg zW,if_neg DR,if_pos ⟨h8,hp⟩]
      rw[hb];exact⟨rfl,pv',pb',n+1,Zxt _,h'⟩
    ·refine(ZiZ h hj dK.2 jA hw hJ (by omega) (by omega) (by omega) hC.2 hk dI).mono ?_
     rintro e w' ⟨rfl,h'⟩;have hb:Cv.l5 c aj r k=({ r with next:=r.next+1,tk:=Cv.upd r.tk k (some (Cv.Dn k)) },true):=by
      unfold Cv.l5 Cv.zO;rw[if_pos dK,jw,if_neg zW,if_neg DR,if_neg (fun e=>h8 e.1)]
     rw[hb];exact⟨rfl,pv,pb,n+1,Zxt _,h'⟩
 ·refine(ZmU h hj hn dK).mono ?_
  rintro e w' ⟨rfl,h'⟩;have hb:Cv.l5 c aj r k=(r,false):=if_neg dK;rw[hb];exact⟨rfl,pv,pb,n,Nat.le_succ _,h'⟩
end
end Cw
namespace Cw
open Go Mem See
open Go.RowKit
attribute [local go_sem ↓] Go.wp_at_zero Go.wp_at_succ
section
variable {W w w':World}{m l:List (Nat×Obj)}{br bc b0 b1 bt:Nat}{c:Ch}{mn cp cnt n k:Nat}{r:Cv.Rn}{jv pv:Value}{pb:List (Nat×Obj)}{t:Tk}
theorem bE.aU {B:Nat}{good:Bool}(h:bE W br bc b0 b1 bt c mn cp jv r good cnt n pv pb (tB B t::m) w):∃ M,Own W (tB B t::M) w:=by
 obtain⟨M,hM⟩:=h.own;exact⟨_,hM⟩
theorem bE.neB {B:Nat}{o:Obj}{good:Bool}(h:bE W br bc b0 b1 bt c mn cp jv r good cnt n pv pb ((B,o)::m) w):B≠br:=by
 obtain⟨es,ck,hv,hO⟩:=h.o;exact hO.skip.skip.skip.skip.ne (o':=o) (by simp)
theorem Zm9 (h:bE W br bc b0 b1 bt c mn cp jv r true cnt n pv pb m w)(aI:t.fin≠3)(fJ:¬(t.job=1∧t.fin=1)) :
 Calls Tryz.prog 27 #[.pointer (some ⟨br,0,Option.none⟩),bH t] w fun e w'=>e = .returned (.tuple #[])∧bE W br bc b0 b1 bt c mn cp jv r true cnt n pv pb m w':=by
 have h1:=h.alloc (.cells (dm t) 59);obtain⟨B,hB⟩:=Zx9 (w.heap.size);rw[hB]at h1;obtain⟨wa,eQ⟩:=Zx9 (w.alloc (.cells (dm t) 59));rw[eQ]at h1;have h1:bE W br bc b0 b1 bt c mn cp jv r true cnt n pv pb (tB B t::m) wa:=h1;have H1:=ZkQ h1;obtain⟨⟨y0,y1,y2,y3,y4,y5,y6,y7,y8,y9,dL,bQ⟩,-,f⟩:=h1.box;have uK:=f 523;obtain⟨M1,hM1⟩:=h1.aU;obtain⟨⟨x0,x1,x2,x3,x4,x5,x6,x7,x8,x9,x10,gz,gB,gD,gG,gH,fT⟩,-⟩:=iV (t:=t) hM1;have d3:(t.fin != 3)=true:=by simpa using aI
 have HNE:=ZkQ h1.neB;unfold dm at eQ;clear h h1 f hM1 aI;unfold bH
 go_enter Tryz.func27,Tryz.ntmps27
 by_cases hj:t.job=1
 ·have q1:(t.job != 1)=false:=by simpa using hj
  have q2:(t.fin != 1)=true:=by
   have:t.fin≠1:=fun e=>fJ ⟨hj,e⟩;simpa using this
  clear hj fJ;go_upto_region 2 with fail
  clear hB eQ;have H2:Hid (bE W br bc b0 b1 bt c mn cp jv r true cnt n pv pb (tB B t::m) (wa.setCell ⟨br,523,Option.none⟩ (.bool true))):=⟨H1.out.p,q9 H1.out.o fun M hM=>EB hM true⟩;generalize wa.setCell ⟨br,523,Option.none⟩ (.bool true)=wb at H2 ⊢;clear x0 x1 x2 x3 x4 x5 x6 x7 x8 x9 x10 gz gB gD gG gH fT;obtain⟨M1,hM1⟩:=H2.out.aU;obtain⟨⟨x0,x1,x2,x3,x4,x5,x6,x7,x8,x9,x10,gz,gB,gD,gG,gH,fT⟩,-⟩:=iV (t:=t) hM1;clear hM1;go_wp2_with fail
  exact bodyPost_ret (v:=.tuple #[]) (by simp[results,Tryz.f27,go_sem]) rfl ⟨rfl,H2.out.sub (ZxC _ _)⟩
 ·have q1:(t.job != 1)=true:=by simpa using hj
  clear hj fJ;go_upto_region 2 with fail
  clear hB eQ;have H2:Hid (bE W br bc b0 b1 bt c mn cp jv r true cnt n pv pb (tB B t::m) (wa.setCell ⟨br,523,Option.none⟩ (.bool true))):=⟨H1.out.p,q9 H1.out.o fun M hM=>EB hM true⟩;generalize wa.setCell ⟨br,523,Option.none⟩ (.bool true)=wb at H2 ⊢;clear x0 x1 x2 x3 x4 x5 x6 x7 x8 x9 x10 gz gB gD gG gH fT;obtain⟨M1,hM1⟩:=H2.out.aU;obtain⟨⟨x0,x1,x2,x3,x4,x5,x6,x7,x8,x9,x10,gz,gB,gD,gG,gH,fT⟩,-⟩:=iV (t:=t) hM1;clear hM1;go_wp2_with fail
  exact bodyPost_ret (v:=.tuple #[]) (by simp[results,Tryz.f27,go_sem]) rfl ⟨rfl,H2.out.sub (ZxC _ _)⟩
theorem Zna {s o:Nat}(h:bE W br bc b0 b1 bt c mn cp jv r true cnt n pv pb m w)(hj:t.job=1)(hf:t.fin=1)(hs:t.aA=(s:Int))(ho:t.obj=(o:Int))(hS:s<c.S)(hO:o<c.O)(hc:c.S≤32∧c.O≤16)(fB:r.out (16 * s+o)=false)(MW:r.pile.length≤1000) :
 Calls Tryz.prog 27 #[.pointer (some ⟨br,0,Option.none⟩),bH t] w fun e w'=>e = .returned (.tuple #[])∧∃ pv' pb',bE W br bc b0 b1 bt c mn cp jv { r with out:=fun y=>if y=16 * s+o then true else r.out y,pile:=r.pile++[16 * s+o] } true cnt n pv' pb' m w':=by
 have aI:t.fin≠3:=by omega
 have h1:=h.alloc (.cells (dm t) 59);obtain⟨B,hB⟩:=Zx9 (w.heap.size);rw[hB]at h1;obtain⟨wa,eQ⟩:=Zx9 (w.alloc (.cells (dm t) 59));rw[eQ]at h1;have h1:bE W br bc b0 b1 bt c mn cp jv r true cnt n pv pb (tB B t::m) wa:=h1;have H1:=ZkQ h1;obtain⟨⟨y0,y1,y2,y3,y4,y5,y6,y7,y8,y9,dL,bQ⟩,-,f⟩:=h1.box;have uK:=f 523;obtain⟨M1,hM1⟩:=h1.aU;obtain⟨⟨x0,x1,x2,x3,x4,x5,x6,x7,x8,x9,x10,gz,gB,gD,gG,gH,fT⟩,-⟩:=iV (t:=t) hM1;have d3:(t.fin != 3)=true:=by simpa using aI
 have HNE:=ZkQ h1.neB;unfold dm at eQ;clear h h1 f hM1 aI;have q1:(t.job != 1)=false:=by rw[hj];rfl
 have q2:(t.fin != 1)=false:=by rw[hf];rfl
 have OX:=ZkQ hs;have RQ:=ZkQ ho;have Ep:=ZkQ MW;have HSc:=ZkQ hS;have RV:=ZkQ hO;have HC:=ZkQ hc;have RU:=ZkQ fB;clear hs ho MW hS hO hc fB hj hf;unfold bH
 go_enter Tryz.func27,Tryz.ntmps27
 go_upto_region 2 with fail
 clear hB eQ;have H2:Hid (bE W br bc b0 b1 bt c mn cp jv r true cnt n pv pb (tB B t::m) (wa.setCell ⟨br,523,Option.none⟩ (.bool true))):=⟨H1.out.p,q9 H1.out.o fun M hM=>EB hM true⟩;generalize wa.setCell ⟨br,523,Option.none⟩ (.bool true)=wb at H2 ⊢;clear x0 x1 x2 x3 x4 x5 x6 x7 x8 x9 x10 gz gB gD gG gH fT y0 y1 y2 y3 y4 y5 y6 y7 y8 y9 dL bQ uK H1;obtain⟨M1,hM1⟩:=H2.out.aU;obtain⟨⟨x0,x1,x2,x3,x4,x5,x6,x7,x8,x9,x10,gz,gB,gD,gG,gH,fT⟩,-⟩:=iV (t:=t) hM1;clear hM1;go_upto_region 3 with fail
 obtain⟨p1,jE⟩:=Zx9 (16 * s);obtain⟨p2,mD⟩:=Zx9 (p1+o);have RX:Hid (16 * s+o=p2):=by rw[jE];exact ZkQ mD
 have Hf:p2<512:=by
  have:=HSc.out;have:=RV.out;have:=HC.out;omega
 have e1:IntKind.i64.wrap (16 * (s:Int))=(p1:Int):=by rw[Ex.wS (by omega) (by omega)];omega
 have e2:IntKind.i64.wrap ((p1:Int)+(o:Int))=(p2:Int):=by rw[Ex.wS (by omega) (by omega)];omega
 have i1:(0:Int)≤(p2:Int):=by omega
 have i2:(p2:Int)<512:=by omega
 have g1:decide ((s:Int)<0)=false:=Zx7 (by omega);have g2:decide ((o:Int)<0)=false:=Zx7 (by omega);have g3:decide (c.S≤s)=false:=Zx7 (by have:=HSc.out;omega);have g4:decide (c.O≤o)=false:=Zx7 (by have:=RV.out;omega);have g5:decide ((c.S:Int)≤(s:Int))=false:=Zx7 (by have:=HSc.out;omega);have g6:decide ((c.O:Int)≤(o:Int))=false:=Zx7 (by have:=RV.out;omega);rw[OX.out]at x5;rw[RQ.out]at x6;have O0:Hid (t.aA=(s:Int)):=OX;have Ky:=ZkQ Hf;obtain⟨⟨y0,y1,y2,y3,y4,y5,y6,y7,y8,y9,dL,bQ⟩,yo,-⟩:=H2.out.box;have yp:=yo p2 Hf;rw[← RX.out,RU.out,RX.out]at yp;clear x0 x1 x2 x3 x4 x7 x8 x9 x10 gz gB gD gG gH fT jE mD Hf yo y0 y4 y5 y6 y7 y8 y9 dL bQ q1 q2 d3
 go_quiet (fail)
 have H3:=ZkQ (H2.out.drewN nq);clear H2 x5 x6 y1 y2 y3 yp g1 g2 g3 g4 g5 g6;generalize wb.drewN nq=wc at H3 ⊢;obtain⟨M1,hM1⟩:=H3.out.aU;obtain⟨⟨-,-,-,-,-,x5,x6,-⟩,-⟩:=iV (t:=t) hM1;rw[OX.out]at x5;rw[RQ.out]at x6;obtain⟨-,yo,f⟩:=H3.out.box;have yp:=yo p2 Ky.out;have fp:=f (9+p2);clear hM1 yo f;go_upto_region 5 with fail
 go_region
 have H4:Hid (bE W br bc b0 b1 bt c mn cp jv { r with out:=fun y=>if y=p2 then true else r.out y } true cnt n pv pb (tB B t::m) (wc.setCell ⟨br,9+p2,Option.none⟩ (.bool true)).drew):=⟨H3.out.p,Zy (q9 H3.out.o fun M hM=>Yn hM Ky.out true)⟩;clear H3 x5 x6 yp fp;generalize (wc.setCell ⟨br,9+p2,Option.none⟩ (.bool true)).drew=wd at H4 ⊢;obtain⟨M1,hM1⟩:=H4.out.aU;obtain⟨⟨-,-,-,-,-,x5,x6,-⟩,-⟩:=iV (t:=t) hM1;rw[OX.out]at x5;rw[RQ.out]at x6;obtain⟨⟨y0,y1,y2,y3,y4,y5,y6,y7,y8,y9,dL,bQ⟩,-,f⟩:=H4.out.box;clear hM1 y0 y1 y2 y3 y4 y5 y6 y7 y8 dL bQ f;go_upto_region 6 with fail
 have HP:=ZkQ H4.out.p;obtain⟨es,ck,hv,hO4⟩:=H4.out.o;have HV:=ZkQ hv;have HA:=ZkQ (hO4.drew.perm (m':=pb++(aY bc b0 bt c mn cp::(bt,.map es ck)::mB b0 b1 r.g.length cnt::wB b1 r.g::gJ br bc c mn cp jv r.next (fun y=>if y=p2 then true else r.out y) pv r.none true::tB B t::m)) (fO fun _ q=>by simp only[Zxv,ZxO];omega));have y9a:(wd.drew.alloc (.cells #[.int .i64 (p2:Int)] 3)).cell? ⟨br,521,Option.none⟩=some pv:=(BN (HA.out.alloc _ |>.bD.skip.skip.skip.skip)).1.2.2.2.2.2.2.2.2.2.1;have y9b:((wd.alloc (.cells #[.int .i64 (p2:Int)] 3)).drew).cell? ⟨br,521,Option.none⟩=some pv:=y9a;clear hv hO4 i1 i2
 go_region_law (first
  |((refine ZiC (l':=[(p2:Int)]) rfl _ _ rfl rfl rfl HP.out (HA.out.alloc _) (QE _ _) (by rw[wV];have:=Ep.out;show r.pile.length+1≤60000;omega) ?_);intro v' w6 bs' k1 k2;obtain⟨A6,c6,rfl,-,-⟩:=gI.slice k1;have K1:=ZkQ k1;have Xo:Hid (Own W (gJ br bc c mn cp jv r.next (fun y=>if y=p2 then true else r.out y) pv r.none true::aY bc b0 bt c mn cp::(bt,.map es ck)::mB b0 b1 r.g.length cnt::wB b1 r.g::tB B t::(bs'++m)) w6):=k2.perm (fO fun _ q=>by simp only[Zxv,ZxO];omega);obtain⟨⟨-,-,-,-,-,-,-,-,-,u9,-,-⟩,-,uf⟩:=BN Xo.out;have uf521:=uf 521;clear k1 k2 uf))
 all_goals
  refine bodyPost_end (v:=.tuple #[]) (by simp[results,Tryz.f27,go_sem]) rfl ⟨rfl,.slice A6 ((pI r.pile).length+1) c6,bs',?_⟩;have aI:bE W br bc b0 b1 bt c mn cp jv { r with out:=fun y=>if y=p2 then true else r.out y,pile:=r.pile++[p2] } true cnt n (.slice A6 ((pI r.pile).length+1) c6) bs' m (w6.setCell ⟨br,521,Option.none⟩ (.slice A6 ((pI r.pile).length+1) c6)):=by
   refine⟨?_,es,ck,HV.out,?_⟩
   ·show lS true _ (pI (r.pile++[p2])) bs'
    rw[show pI (r.pile++[p2])=pI r.pile++[(p2:Int)] by simp[pI]];have e:(pI r.pile).length+1=(pI r.pile++[(p2:Int)]).length:=(by simp);rw[e];exact K1.out
   ·have k:=XB Xo.out (.slice A6 ((pI r.pile).length+1) c6)
    exact(k.perm (m':=tB B t::aY bc b0 bt c mn cp::(bt,.map es ck)::mB b0 b1 r.g.length cnt::wB b1 r.g::gJ br bc c mn cp jv r.next (fun y=>if y=p2 then true else r.out y) (.slice A6 ((pI r.pile).length+1) c6) r.none true::(bs'++m)) (fO fun _ q=>by simp only[Zxv,ZxO];omega)).skip
  rw[RX.out];exact aI
end
end Cw
namespace Cw
open Go Mem See
open Go.RowKit
attribute [local go_sem ↓] Go.wp_at_zero Go.wp_at_succ
section
variable {W w w':World}{m l:List (Nat×Obj)}{br bc b0 b1 bt:Nat}{c:Ch}{mn cp cnt n k:Nat}{r:Cv.Rn}{jv pv:Value}{pb:List (Nat×Obj)}{aj:List Int}{st st':Cv.St}{t t':Tk}{g':List Nat}
theorem bE.Dv {x:Nat×Obj}{good:Bool}(h:bE W br bc b0 b1 bt c mn cp jv r good cnt n pv pb (x::m) w):∃ M,Own W (x::M) w∧∀ y w',Own W (y::M) w'→bE W br bc b0 b1 bt c mn cp jv r good cnt n pv pb (y::m) w':=by
 obtain⟨es,ck,hv,hO⟩:=h.o;refine⟨aY bc b0 bt c mn cp::(bt,.map es ck)::mB b0 b1 r.g.length cnt::wB b1 r.g::gJ br bc c mn cp jv r.next r.out pv r.none good::(pb++m),hO.perm (fO fun _ q=>by simp only[Zxv,ZxO];omega),fun y w' h'=>⟨h.p,es,ck,hv,h'.perm (fO fun _ q=>by simp only[Zxv,ZxO];omega)⟩⟩
theorem ZnX (h:bE W br bc b0 b1 bt c mn cp jv r true cnt n pv pb m w)(I:Cv.RI c mn cp r st)(aV:c.key<18446744073709551616)(hk:k<c.C)(dI:r.tk k=Option.none)(hj:jP W jv aj)(lG:∀ j∈aj,(Lit.int .i64 j).wf=true)(hn:r.next≤120) :
 Calls Tryz.prog 12 #[.pointer (some ⟨br,0,Option.none⟩),.int .i64 (k:Int)] w fun e w'=>e = .returned (.bool (Cv.l5 c aj r k).2)∧∃ pv' pb' n',n'≤n+1∧bE W br bc b0 b1 bt c mn cp jv (Cv.l5 c aj r k).1 true cnt n' pv' pb' m w':=by
 have HJ:=ZkQ hj;have jh:=ZkQ lG;have HN:=ZkQ hn;have H:=ZkQ h;have HI:=ZkQ I;have pX:=ZkQ dI;have HKK:=ZkQ hk;have HKEY:=ZkQ aV;obtain⟨⟨y0,y1,y2,y3,y4,y5,y6,y7,y8,y9,dL,bQ⟩,-,-⟩:=h.box;have fF:=Lp h.o I.Z.C.2 hk;rw[dI]at fF;have vH:=ZkQ fF;clear h I dI hk fF aV hj lG hn
 go_enter Tryz.func12,Tryz.ntmps12
 go_wp2_with fail
 clear y0 y1 y2 y3 y4 y5 y6 y7 y8 y9 dL bQ;refine vH.out.mono ?_;rintro e w2 ⟨rfl,h2⟩;have h2:bE W br bc b0 b1 bt c mn cp jv r true cnt n pv pb m w2:=⟨H.out.p,h2⟩;have h3:=h2.alloc z17;obtain⟨B,hB⟩:=Zx9 (w2.heap.size);rw[hB]at h3;obtain⟨M0,hM0,pE⟩:=h3.Dv;have vD:=ZkQ hM0;have vC:=ZkQ pE;have HT0:=ZkQ (jU mZ);clear h2 h3 hM0 pE vH H;simp only[Option.getD_none,Option.isSome_none]
 go_wp2_with (first
  |(refine jm (t:=59) (new:=dm (mZ)) rfl _ _ rfl rfl rfl gQ vD.out rfl HT0.out ?_;intro w3 hS;have h3:bE W br bc b0 b1 bt c mn cp jv r true cnt n pv pb (tB B (mZ)::m) w3:=vC.out _ _ hS;have H3:=ZkQ h3;obtain⟨Mt,hMt⟩:=h3.aU;obtain⟨⟨x0,x1,x2,x3,x4,x5,x6,x7,x8,x9,x10,gz,gB,gD,gG,gH,fT⟩,-⟩:=iV (t:=mZ) hMt;obtain⟨⟨y0,y1,y2,y3,y4,y5,y6,y7,y8,y9,dL,bQ⟩,-,fz⟩:=h3.box;have oJ:=fz 522;clear hS h3 hMt fz hB vD vC))
 refine(Zl7 H3.out HJ.out jh.out HN.out HI.out HKEY.out HKK.out pX.out).mono ?_;rintro e w5 ⟨rfl,pv',pb',n',qP,h5⟩;have H5:=ZkQ (h5.sub (ZxC _ _));have HN':=ZkQ qP;clear h5 qP;go_wp2_with fail
 go_ret;exact⟨rfl,pv',pb',n',HN'.out,H5.out⟩
end
end Cw
namespace Cw
open Go Mem See
open Go.RowKit
attribute [local go_sem ↓] Go.wp_at_zero Go.wp_at_succ
section
variable {W w w':World}{m l:List (Nat×Obj)}{br bc b0 b1 bt:Nat}{c:Ch}{mn cp cnt n k:Nat}{r:Cv.Rn}{jv pv:Value}{pb:List (Nat×Obj)}{aj:List Int}{st st':Cv.St}{t t':Tk}{g':List Nat}
def LV (W:World)(br bc b0 b1 bt:Nat)(c:Ch)(mn cp:Nat)(jv:Value)(r5:Cv.Rn)(t':Tk)(r6:Cv.Rn):Prop :=
 (t'.fin=0∧r6=r5)∨(t'.fin≠0∧∀ (cnt n:Nat) (pv:Value) (pb m:List (Nat×Obj)) (w:World),bE W br bc b0 b1 bt c mn cp jv r5 true cnt n pv pb m w→Calls Tryz.prog 27 #[.pointer (some ⟨br,0,Option.none⟩),bH t'] w fun e w'=>e = .returned (.tuple #[])∧∃ pv' pb',bE W br bc b0 b1 bt c mn cp jv r6 true cnt n pv' pb' m w')
theorem ZnY (h:bE W br bc b0 b1 bt c mn cp jv r true cnt n pv pb m w)(I:Cv.RI c mn cp r st)(aV:c.key<18446744073709551616)(hk:k<c.C)(dI:r.tk k=some t)(hw:t.want=0)(hT:Ex.jR aJ.gs W)(DX:cnt<1000000000)(hs:Cv.iO c mn cp r.g t=some (t',g'))(ai:t'.aB=t.aB){r6:Cv.Rn}(he:LV W br bc b0 b1 bt c mn cp jv { r with g:=g',tk:=Cv.upd r.tk k (Cv.stop t') } t' r6) :
 Calls Tryz.prog 12 #[.pointer (some ⟨br,0,Option.none⟩),.int .i64 (k:Int)] w fun e w'=>e = .returned (.bool true)∧∃ pv' pb',bE W br bc b0 b1 bt c mn cp jv r6 true (cnt+1) (n+1) pv' pb' m w':=by
 have HW:=ZkQ hw;have R9:=ZkQ hT;have Eo:=ZkQ DX;have HS:=ZkQ hs;have FW:=ZkQ ai;have HE:=ZkQ he;have H:=ZkQ h;have HI:=ZkQ I;have pX:=ZkQ dI;have HKK:=ZkQ hk;have HKEY:=ZkQ aV;obtain⟨⟨y0,y1,y2,y3,y4,y5,y6,y7,y8,y9,dL,bQ⟩,-,-⟩:=h.box;have fF:=Lp h.o I.Z.C.2 hk;rw[dI]at fF;have vH:=ZkQ fF;clear h I dI hk fF aV hw hT DX hs ai he
 go_enter Tryz.func12,Tryz.ntmps12
 go_wp2_with fail
 clear y0 y1 y2 y3 y4 y5 y6 y7 y8 y9 dL bQ;refine vH.out.mono ?_;rintro e w2 ⟨rfl,h2⟩;have h2:bE W br bc b0 b1 bt c mn cp jv r true cnt n pv pb m w2:=⟨H.out.p,h2⟩;have h3:=h2.alloc z17;obtain⟨B,hB⟩:=Zx9 (w2.heap.size);rw[hB]at h3;obtain⟨M0,hM0,pE⟩:=h3.Dv;have vD:=ZkQ hM0;have vC:=ZkQ pE;have HT0:=ZkQ (jU t);clear h2 h3 hM0 pE vH H;have q1:(t.want==1)=false:=by rw[HW.out];rfl
 have q2:(t.want==2)=false:=by rw[HW.out];rfl
 simp only[Option.getD_some,Option.isSome_some]
 go_wp2_with (first
  |(refine jm (t:=59) (new:=dm (t)) rfl _ _ rfl rfl rfl gQ vD.out rfl HT0.out ?_;intro w3 hS;have h3:bE W br bc b0 b1 bt c mn cp jv r true cnt n pv pb (tB B (t)::m) w3:=vC.out _ _ hS;have H3:=ZkQ h3;obtain⟨Mt,hMt⟩:=h3.aU;obtain⟨⟨x0,x1,x2,x3,x4,x5,x6,x7,x8,x9,x10,gz,gB,gD,gG,gH,fT⟩,-⟩:=iV (t:=t) hMt;obtain⟨⟨y0,y1,y2,y3,y4,y5,y6,y7,y8,y9,dL,bQ⟩,-,fz⟩:=h3.box;have oJ:=fz 522;clear hS h3 hMt fz hB vD vC))
 refine(ZoA HI.out.Z HKEY.out R9.out HI.out.tk H3.out.o Eo.out pX.out HW.out HS.out FW.out).mono ?_;rintro e w5 ⟨rfl,h5⟩;have h5:bE W br bc b0 b1 bt c mn cp jv { r with g:=g',tk:=Cv.upd r.tk k (Cv.stop t') } true (cnt+1) (n+1) pv pb (tB B t::m) w5:=⟨H3.out.p,h5⟩;obtain⟨M5,vZ,zX⟩:=h5.Dv;have za:=ZkQ vZ;have yX:=ZkQ zX;have F5:=ZkQ (jU t');clear h5 vZ zX H3 x0 x1 x2 x3 x4 x5 x6 x7 x8 x9 x10 gz gB gD gG gH fT y0 y1 y2 y3 y4 y5 y6 y7 y8 y9 dL bQ
 go_upto_region 14 with(first
  |(refine jm (t:=59) (new:=dm t') rfl _ _ rfl rfl rfl gQ za.out rfl F5.out ?_;intro w7 hS;have h7:bE W br bc b0 b1 bt c mn cp jv { r with g:=g',tk:=Cv.upd r.tk k (Cv.stop t') } true (cnt+1) (n+1) pv pb (tB B t'::m) w7:=yX.out _ _ hS;have H7:=ZkQ h7;have zb:Hid (Own W (tB B t'::M5) w7):=ZkQ hS;obtain⟨⟨-,-,-,x3,-⟩,-⟩:=iV (t:=t') zb.out;clear hS h7 za yX))
 rcases HE.out with⟨hf,Az⟩|⟨hf,hE⟩
 ·have qf:(t'.fin != 0)=false:=by simpa using hf
  have H8:=ZkQ (H7.out.sub (ZxC _ _));rw[← Az]at H8;clear hf Az;go_wp2_with fail
  go_ret;exact⟨rfl,pv,pb,H8.out⟩
 ·have qf:(t'.fin != 0)=true:=by simpa using hf
  have HC:=ZkQ (hE _ _ _ _ _ _ H7.out);clear hf hE
  go_wp2_with (first
   |(refine qC (t:=59) (old:=dm t') rfl _ rfl rfl Tryz.underlying59 zb.out gQ ?_))
  refine HC.out.mono ?_;rintro e w8 ⟨rfl,pv',pb',h8⟩;have H8:=ZkQ (h8.sub (ZxC _ _));clear h8;go_wp2_with fail
  go_ret;exact⟨rfl,pv',pb',H8.out⟩
end
end Cw
end Go.Proofs.YtfcpdlbkmkhhcaaGreatDoor
