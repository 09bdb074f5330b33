/-
  Texts of this claim, joined. No condition.
-/
import Derived.Test.YtfcpdlbkmkhhcaaGreatDoorCh1
import Derived.Test.YtfcpdlbkmkhhcaaGreatDoorCh45
import Derived.Test.YtfcpdlbkmkhhcaaGreatDoorCh39
import Derived.Test.YtfcpdlbkmkhhcaaGreatDoorCh37
import Derived.StillTailTactics
namespace Go.Proofs.YtfcpdlbkmkhhcaaGreatDoor
set_option maxRecDepth 100000
set_option maxHeartbeats 40000000
namespace Cw
open Go Mem See
open Go.RowKit
attribute [local go_sem ↓] Go.wp_at_zero Go.wp_at_succ
section
variable {W w:World}{m:List (Nat×Obj)}{a0 a1 a2 a3 a4:Int}{key:Nat}{jv qv:Value}{aj picks:List Int}
theorem Zvz:Ex.iA Tryz.prog 41=some 4:=by kernel_rfl
def lV (b:Nat)(A0 A1 A2:Option Addr)(c0 c1 c2 n0 n1 n2:Nat)(lk:Bool):Nat×Obj:=(b,.cells #[.slice A0 n0 c0,.slice A1 n1 c1,.bool lk,.slice A2 n2 c2] 41)
theorem xh {b:Nat}{A0 A1 A2:Option Addr}{c0 c1 c2 n0 n1 n2:Nat}{lk:Bool}{l:List (Nat×Obj)}(h:Own W (lV b A0 A1 A2 c0 c1 c2 n0 n1 n2 lk::l) w) :
 w.cell? ⟨b,0,Option.none⟩=some (.slice A0 n0 c0)∧w.cell? ⟨b,1,Option.none⟩=some (.slice A1 n1 c1)∧w.cell? ⟨b,2,Option.none⟩=some (.bool lk)∧w.cell? ⟨b,3,Option.none⟩=some (.slice A2 n2 c2):=by
 have:=h.cell (b:=b) ZnJ;exact⟨this 0,this 1,this 2,this 3⟩
theorem ZvE (hT:Ex.jR aJ.gs W)(hj:jP W jv aj)(hq:jP W qv picks)(FO:∀ j∈aj,(Lit.int .i64 j).wf=true)(yP:∀ j∈picks,(Lit.int .i64 j).wf=true)(aV:key<18446744073709551616)
 (w0:(Lit.int .i64 a0).wf=true) (w1:(Lit.int .i64 a1).wf=true) (w2:(Lit.int .i64 a2).wf=true) (w3:(Lit.int .i64 a3).wf=true) (w4:(Lit.int .i64 a4).wf=true) :
 Calls Tryz.prog 4 #[QM a0 a1 a2 a3 a4 key jv qv] W fun e w'=>e = .returned (.bool true)∧Own W [] w':=by
 have h:=Own.self W;obtain⟨A1,K1,rfl⟩:=BG hj;obtain⟨A2,K2,rfl⟩:=BG hq;have h1:=h.new (lu 0 a0 a1 a2 a3 a4 key (.slice A1 aj.length K1) (.slice A2 picks.length K2)).2;obtain⟨B,hB⟩:=Zx9 (W.heap.size);rw[hB]at h1;have h1:Own W [lu B a0 a1 a2 a3 a4 key (.slice A1 aj.length K1) (.slice A2 picks.length K2)] _:=h1;obtain⟨wa,eQ⟩:=Zx9 (W.alloc (lu 0 a0 a1 a2 a3 a4 key (.slice A1 aj.length K1) (.slice A2 picks.length K2)).2);rw[eQ]at h1;unfold lu at eQ;have H1:=ZkQ h1;have yZ:=ZkQ (Yf h1 hT hj hq FO yP aV w0 w1 w2 w3 w4);have HT:=ZkQ hT;clear h h1 hj hq FO yP hT w0 w1 w2 w3 w4;have eF:=ZkQ (UT (a0:=a0) (a1:=a1) (a2:=a2) (key:=key));have KD:Hid ((tQ a0 a1 a2 key).key<18446744073709551616):=aV;clear aV;obtain⟨c,hc⟩:=Zx9 (tQ a0 a1 a2 key);rw[hc]at eF yZ KD;clear hc;unfold QM
 go_enter Tryz.func4,Tryz.ntmps4
 go_wp2_with (first
  |(refine qC (t:=27) (old:=#[.int .i64 a0,.int .i64 a1,.int .i64 a2,.int .i64 a3,.int .i64 a4,.int .u64 (key:Int),.slice A1 aj.length K1,.slice A2 picks.length K2]) rfl _ rfl rfl Tryz.underlying27 H1.out Znz ?_))
 refine yZ.out.mono ?_;rintro e w2 ⟨br,rfl,hv⟩;obtain⟨mn,bP⟩:=Zx9 (Cv.eZ a3 3);obtain⟨cp,bN⟩:=Zx9 (Cv.eZ a4 3);rw[bP,bN]at hv;obtain⟨bc,b0,b1,bt,cnt,n,N,pv,pb,r,st,Hg,hNb,aI,hR⟩:=hv.ex;have Q:Cv.Quiet c mn cp st r.g:=Cv.quiet_of Hg.I fun k hk=>(aI k hk).1;have HQ:=ZkQ Q;have HI:=ZkQ Hg.I;obtain⟨⟨y0,-⟩,-,-⟩:=hR.box;obtain⟨es,ck,-,h2⟩:=hR.o;have h3:Own W (aY bc b0 bt c mn cp::mB b0 b1 r.g.length cnt::wB b1 r.g::gJ br bc c mn cp (.slice A1 aj.length K1) r.next r.out pv r.none true::((bt,.map es ck)::(pb++[lu B a0 a1 a2 a3 a4 key (.slice A1 aj.length K1) (.slice A2 picks.length K2)]))) w2:=h2.perm (fO fun _ q=>by simp only[Zxv,ZxO];omega);have HS:=ZkQ (ZvA h3 (MH Q.Z KD.out) (EO Q.Z).1 (EO Q.Z).2.2 Q.Z.W (Cv.ZwE Q.Z));clear h2 h3 hR Hg hNb aI hv eQ hB bP bN H1 yZ Q;go_wp2_with fail
 refine HS.out.mono ?_;rintro e w3 ⟨v,bs,rfl,Fp,h3⟩;obtain⟨A0,B1,B2,c0,c1,c2,Ls,Ll,rfl,P1⟩:=Zvs Fp.out;have HP:=ZkQ P1;have mW:(Cv.jl c st).slots.length=c.C:=by simp[Cv.jl]
 have jT:(Cv.jl c st).mQ.length=c.S:=by simp[Cv.jl]
 have qN:(Cv.jl c st).nE=false:=by
  show st.hold.isSome=false;rw[HQ.out.hold];rfl
 obtain⟨n1,mr⟩:∃ n,(Cv.jl c st).shelf.length=n:=⟨_,rfl⟩;rw[mW,mr,jT,qN];have h4:=h3.new (.cells #[.slice Option.none 0 0,.slice Option.none 0 0,.bool false,.slice Option.none 0 0] 41);obtain⟨B4,hB4⟩:∃ B,w3.heap.size=B:=⟨_,rfl⟩;rw[hB4]at h4;have H4:=ZkQ h4;have I9:Hid (∀ u∈(#[.slice A0 c.C c0,.slice B1 n1 c1,.bool false,.slice B2 c.S c2]:Array Value).toList,u.oneCell'=true):=by
  intro u hu;simp only[ZxF,List.not_mem_nil,or_false]at hu;rcases hu with rfl|rfl|rfl|rfl<;>rfl
 clear P1 Fp h3 h4 HS y0 mW mr jT qN;obtain⟨ia,xw,Xc,_,_⟩:=Gs Zwd
 go_wp2_with (first
  |(refine jm (t:=41) (new:=#[.slice A0 c.C c0,.slice B1 n1 c1,.bool false,.slice B2 c.S c2]) rfl _ _ rfl rfl rfl Zvz H4.out rfl I9.out ?_;intro w5 hS;have H5:Hid (Own W (lV B4 A0 B1 B2 c0 c1 c2 c.C n1 c.S false::(bs++(aY bc b0 bt c mn cp::mB b0 b1 r.g.length cnt::wB b1 r.g::gJ br bc c mn cp (.slice A1 aj.length K1) r.next r.out pv r.none true::((bt,.map es ck)::(pb++[lu B a0 a1 a2 a3 a4 key (.slice A1 aj.length K1) (.slice A2 picks.length K2)]))))) w5):=hS;obtain⟨y0,y1,y2,y3⟩:=xh H5.out;clear hS hB4 H4)
  |(refine Zvx (by rfl) 45 (by rfl) _ _ xw Xc ?_))
 have h6:=H5.out.new (.cells (Array.replicate 512 (.int .i64 0)) 45);obtain⟨bd,M4⟩:∃ b,w5.heap.size=b:=⟨_,rfl⟩;rw[M4]at h6 ⊢;rw[Zwb]at h6 ⊢;obtain⟨w6,OA⟩:=Zx9 (w5.alloc (.cells (zQ []).toArray 45));rw[OA]at h6 ⊢;have h6:Own W (hadB bd (og st 0 0)::lV B4 A0 B1 B2 c0 c1 c2 c.C n1 c.S false::(bs++(aY bc b0 bt c mn cp::mB b0 b1 r.g.length cnt::wB b1 r.g::gJ br bc c mn cp (.slice A1 aj.length K1) r.next r.out pv r.none true::((bt,.map es ck)::(pb++[lu B a0 a1 a2 a3 a4 key (.slice A1 aj.length K1) (.slice A2 picks.length K2)]))))) w6:=h6;obtain⟨M,h7⟩:∃ M,Own W (hadB bd (og st 0 0)::lV B4 A0 B1 B2 c0 c1 c2 c.C n1 c.S false::gJ br bc c mn cp (.slice A1 aj.length K1) r.next r.out pv r.none true::(bs++M)) w6 :=
  ⟨_,h6.perm (m':=hadB bd (og st 0 0)::lV B4 A0 B1 B2 c0 c1 c2 c.C n1 c.S false::gJ br bc c mn cp (.slice A1 aj.length K1) r.next r.out pv r.none true::(bs++(aY bc b0 bt c mn cp::mB b0 b1 r.g.length cnt::wB b1 r.g::((bt,.map es ck)::(pb++[lu B a0 a1 a2 a3 a4 key (.slice A1 aj.length K1) (.slice A2 picks.length K2)]))))) (fO fun _ q=>by simp only[Zxv,ZxO];omega)⟩
 have H7:=ZkQ h7;clear h6 h7 OA M4 y0 y1 y2 y3 H5
 go_loopw [8] (fun sv wr=>∃ s:Nat,sv = .int .i64 (s:Int)∧s≤c.S∧Own W (hadB bd (og st s 0)::lV B4 A0 B1 B2 c0 c1 c2 c.C n1 c.S false::gJ br bc c mn cp (.slice A1 aj.length K1) r.next r.out pv r.none true::(bs++M)) wr) (fun sv _=>c.S - (intOf sv).toNat)
 case atStart=>exact⟨0,rfl,ZxV _,H7.out⟩
 case round =>
  obtain⟨s,rfl,hs,hO⟩:=hrel;have HO:=ZkQ hO;obtain⟨y0,y1,y2,y3⟩:=xh hO.skip;have hS8:c.S≤8:=eF.out.2.2.2.1;by_cases aK:s<c.S
  ·have i0:(0:Int)≤(s:Int):=by omega
   have i1:(s:Int)<(c.S:Int):=(by omega);have i2:(s:Int)<32:=(by omega);obtain⟨⟨x,v,b⟩,hx⟩:∃ x,Ll[s]?=some x:=⟨_,Zxp (by have:=congrArg List.length HP.out.el;rw[List.length_map]at this;rw[this];simpa [Cv.jl] using aK)⟩;have he:x=Cv.pu c st s:=by
    have e1:=congrArg (fun l=>l[s]?) HP.out.el;simp only[List.getElem?_map,hx,Option.map_some,Cv.jl,List.getElem?_range aK,ZlP]at e1;exact e1
   subst he;obtain⟨⟨g1,rfl,p0,p1,p2,p3,p4,gl⟩,aX⟩:=HP.out.mQ hO.skip.skip.skip hx (by simpa [Cv.jl] using aK);simp only at p4 aX;obtain⟨E,k,rfl⟩:=BG aX;have hn:(Cv.pu c st s).first.length=(st.ol s .first).length:=(by simp[Cv.pu,Cv.ints]);rw[hn]at p4;have HX:=ZkQ hx;have eH:=ZkQ aK;obtain⟨len,hlen⟩:=Zx9 ((st.ol s .first).length);have qX:=ZkQ hlen;rw[hlen]at p4;clear hO hx hn aX p0 p1 p2 p3 aK hlen H7 y0 y1 y2 hS8 hs gl;go_wp2_with fail
   clear y3 p4 i2
   go_loopw [9] (fun iv wr2=>∃ i:Nat,iv = .int .i64 (i:Int)∧i≤len∧Own W (hadB bd (og st s i)::lV B4 A0 B1 (some ⟨g1,0,Option.none⟩) c0 c1 c2 c.C n1 c.S false::gJ br bc c mn cp (.slice A1 aj.length K1) r.next r.out pv r.none true::(bs++M)) wr2) (fun iv _=>len - (intOf iv).toNat)
   case atStart=>exact⟨0,rfl,ZxV _,HO.out⟩
   case round =>
    obtain⟨i,rfl,hi,hO2⟩:=hrel;clear HO;have HO:=ZkQ hO2;obtain⟨y0,y1,y2,y3⟩:=xh hO2.skip;obtain⟨⟨g2,e2,p0,p1,p2,p3,p4,MQ⟩,aX⟩:=HP.out.mQ hO2.skip.skip.skip HX.out (by simpa [Cv.jl] using eH.out);obtain rfl:g1=g2:=(by cases e2;rfl);have hn:(Cv.pu c st s).first.length=len:=(by rw[← qX.out];simp[Cv.pu,Cv.ints]);have aX:Src wr 1 (.slice E (Cv.pu c st s).first.length k) (Cv.pu c st s).first.length (ints (Cv.ints (st.ol s .first))):=aX;rw[hn]at aX;simp only[hn]at p4;by_cases pK:i<len
    ·rcases aX.2 with⟨_,h0⟩|⟨ad,k1,HY,mU⟩
     ·omega
     cases HY;obtain⟨x,hx⟩:∃ x,(st.ol s .first)[i]?=some x:=⟨_,Zxp (by have:=qX.out;omega)⟩;have cx:=mU i (.int .i64 (x:Int)) (wX (by simp[Cv.ints,hx]));have hx8:x<8:=by
      have:=(Cv.ru HQ.out.Z.I.G (x:=.first) rfl (Zxz hx)).2;have:=eF.out;omega
     have j0:(0:Int)≤(i:Int):=(by omega);have j1:(i:Int)<(len:Int):=(by omega);obtain⟨hcell,bT⟩:=QU hO2;obtain⟨K,hK⟩:=Zx9 (16 * s+x);have vY:K<512:=(by have:=eF.out;omega);have d0:=hcell K vY;have d1:=bT K;have k0:(0:Int)≤(K:Int):=(by omega);have k1:(K:Int)<512:=(by omega);have e1:wrap64 (16 * (s:Int))=16 * (s:Int):=ZxD _ (by have:=eF.out;omega);have e2:wrap64 (16 * (s:Int)+(x:Int))=(K:Int):=(ZxD _ (by have:=eF.out;omega)).trans (by omega);have E2:=ZkQ e2;have XA:=ZkQ hx;have HK:=ZkQ hK;have OT:=ZkQ vY;have F6:=ZkQ hx8;clear hx mU hcell bT hK vY hx8 p0 p1 p2 p3 aX hn hO2 y0 y1 y2 e2 MQ hi;go_wp2_with fail
     refine(JN (x:Int) 16 (by omega) (by have:=F6.out;omega) (by omega) _).mono ?_;rintro e w7 ⟨rfl,rfl⟩;have e2:=E2.out;clear e1;go_wp2_with fail
     clear e2;have Rz:x<c.O:=(Cv.ru HQ.out.Z.I.G (x:=.first) rfl (Zxz XA.out)).2;have hl8:len≤8:=(by rw[← qX.out];exact ZxL (Cv.Qv HQ.out.Z.I.G s) eF.out.2.2.2.2.2);have Ad:(og st s i).count K≤1:=by
      refine ZxL ((Zv7 eH.out).count_le _) ?_;rw[← HK.out,(Cv.Vr HQ.out eH.out Rz).1];split<;>omega
     rw[show wrap64 (((og st s i).count K:Int)+1)=(((og st s i).count K+1:Nat):Int) from ZxD _ (by omega),show wrap64 ((i:Int)+1)=((i+1:Nat):Int) from ZxD _ (by omega)];refine⟨⟨i+1,rfl,by omega,?_⟩,by simp[intOf];omega⟩;have mE:=ZvD HO.out OT.out;rw[Zv6 XA.out,HK.out];exact mE
    ·have j1:¬ (i:Int)<(len:Int):=by omega
     clear p0 p1 p2 p3 aX hn hO2 y0 y1 y2 MQ;go_wp2_with fail
     rw[show wrap64 ((s:Int)+1)=((s+1:Nat):Int) from ZxD _ (by have:=eH.out;have:=eF.out;omega)];refine⟨⟨s+1,rfl,eH.out,?_⟩,by have:=eH.out;simp[intOf];omega⟩;obtain rfl:i=len:=(by omega);rw[← Zvh,qX.out];exact HO.out
  ·obtain rfl:s=c.S:=by omega
   have i1:¬ (c.S:Int)<(c.S:Int):=(by omega);clear H7 aK hs hO;go_wp2_with fail
   clear y0 y1 y2 y3 i1;have h8:Own W (hadB bd (oI c st 0 0)::lV B4 A0 B1 B2 c0 c1 c2 c.C n1 c.S false::gJ br bc c mn cp (.slice A1 aj.length K1) r.next r.out pv r.none true::(bs++M)) wr:=by
    rw[← Zv5];exact HO.out
   have H8:=ZkQ h8;clear h8 HO
   go_loopw [10] (fun kv wr=>∃ k:Nat,kv = .int .i64 (k:Int)∧k≤c.C∧Own W (hadB bd (oI c st k 0)::lV B4 A0 B1 B2 c0 c1 c2 c.C n1 c.S false::gJ br bc c mn cp (.slice A1 aj.length K1) r.next r.out pv r.none true::(bs++M)) wr) (fun kv _=>c.C - (intOf kv).toNat)
   case atStart=>exact⟨0,rfl,ZxV _,H8.out⟩
   case round =>
    obtain⟨k,rfl,hk,hO⟩:=hrel;have HO:=ZkQ hO;obtain⟨y0,y1,y2,y3⟩:=xh hO.skip;have hC5:c.C≤5:=eF.out.2.1;by_cases aK:k<c.C
    ·have i0:(0:Int)≤(k:Int):=by omega
     have i1:(k:Int)<(c.C:Int):=(by omega);obtain⟨⟨x,lv,lb,pv1,pb1⟩,hx⟩:∃ x,Ls[k]?=some x:=⟨_,Zxp (by have:=congrArg List.length HP.out.es;rw[List.length_map]at this;rw[this];simpa [Cv.jl] using aK)⟩;have he:x=Cv.mh st k:=by
      have e1:=congrArg (fun l=>l[k]?) HP.out.es;simp only[List.getElem?_map,hx,Option.map_some,Cv.jl,List.getElem?_range aK,ZlP]at e1;exact e1
     subst he;obtain⟨⟨g1,rfl,p0,p1,p2,p3,gl⟩,aX,-⟩:=HP.out.slots hO.skip.skip.skip hx (by simpa [Cv.jl] using aK);simp only at p0 p1 aX;obtain⟨E,ke,rfl⟩:=BG aX;have HX:=ZkQ hx;have eH:=ZkQ aK;obtain⟨len,hlen⟩:=Zx9 ((Cv.mh st k).list.length);have qX:=ZkQ hlen;rw[hlen]at p1;clear hO hx aX p0 p2 p3 aK hlen H8 y1 y2 y3 hC5 hk gl;go_wp2_with fail
     clear y0 p1
     go_loopw [11] (fun IV wr2=>∃ j:Nat,IV = .int .i64 (j:Int)∧j≤len∧Own W (hadB bd (oI c st k j)::lV B4 (some ⟨g1,0,Option.none⟩) B1 B2 c0 c1 c2 c.C n1 c.S false::gJ br bc c mn cp (.slice A1 aj.length K1) r.next r.out pv r.none true::(bs++M)) wr2) (fun IV _=>len - (intOf IV).toNat)
     case atStart=>exact⟨0,rfl,ZxV _,HO.out⟩
     case round =>
      obtain⟨j,rfl,hj,hO2⟩:=hrel;clear HO;have HO:=ZkQ hO2;obtain⟨y0,y1,y2,y3⟩:=xh hO2.skip;obtain⟨⟨g2,e2,p0,p1,p2,p3,MQ⟩,aX,-⟩:=HP.out.slots hO2.skip.skip.skip HX.out (by simpa [Cv.jl] using eH.out);obtain rfl:g1=g2:=(by cases e2;rfl);have aX:Src wr 1 (.slice E (Cv.mh st k).list.length ke) (Cv.mh st k).list.length (ints (Cv.mh st k).list):=aX;rw[qX.out]at aX;simp only[qX.out]at p0 p1;have ja:(Cv.qJ st k).length=len:=(by rw[← qX.out];exact Zva.1.symm);by_cases pK:j<len
      ·obtain⟨s,x,q1,q2,q3,q4,q5⟩:=Zva.2 j (by rw[ja];exact pK)
       rcases aX.2 with⟨_,h0⟩|⟨ad,k1,HY,mU⟩
       ·omega
       cases HY;have cx:=mU j (.int .i64 (x:Int)) (wX q3);rw[q1]at p0;obtain⟨tN,Rz⟩:=Cv.ru HQ.out.Z.I.G (x:=.head k) rfl q4;have j0:(0:Int)≤(j:Int):=(by omega);have j1:(j:Int)<(len:Int):=(by omega);obtain⟨hcell,bT⟩:=QU hO2;obtain⟨K,hK⟩:=Zx9 (16 * s+x);have vY:K<512:=(by have:=eF.out;omega);have d0:=hcell K vY;have d1:=bT K;have k0:(0:Int)≤(K:Int):=(by omega);have k1:(K:Int)<512:=(by omega);have E3:Hid (IntKind.i64.wrap (((oI c st k j).count K:Int)+1)=(((oI c st k j).count K+1:Nat):Int)):=ZkQ (IntWalk.i64_in _ (by
        have:(oI c st k j).count K≤1:=by
         refine ZxL ((Zwa eH.out).count_le _) ?_;rw[← hK,(Cv.Vr HQ.out tN Rz).1];split<;>omega
        omega))
       have HB1:=ZkQ (fun (v:World)=>(JN (s:Int) 32 (by omega) (by have:=eF.out;omega) (by omega) v).mono fun _ _ h=>And.intro h.1 h.2.symm);have HB2:=ZkQ (fun (v:World)=>(JN (x:Int) 16 (by omega) (by have:=eF.out;omega) (by omega) v).mono fun _ _ h=>And.intro h.1 h.2.symm);have E1:Hid (IntKind.i64.wrap (16 * (s:Int))=16 * (s:Int)):=ZkQ (IntWalk.i64_in _ (by have:=eF.out;omega));have E2:Hid (IntKind.i64.wrap (16 * (s:Int)+(x:Int))=(K:Int)):=ZkQ ((IntWalk.i64_in _ (by have:=eF.out;omega)).trans (by omega));have HIN:=ZkQ ja;have Q5:=ZkQ q5;have HK:=ZkQ hK;have OT:=ZkQ vY;have kQ:=ZkQ pK;clear mU hcell bT hK vY p2 p3 aX ja hO2 y1 y2 y3 MQ hj q1 q2 q3 q4 q5 tN Rz pK;go_upto_region 21 with fail
       go_still_tail 23,(by kernel_rfl)
       still_call (HB1.out _)
       have e1:=E1.out
       still_step
       clear e1;repeat still_step
       still_call (HB2.out _)
       have e2:=E2.out
       still_step
       clear e2;have e3:=E3.out;repeat still_step
       refine wpStill_nil ?_;change wpList _ _ _ _ _ wr.drew;clear e3;have RP:=ZkQ HO.out.drew;generalize wr.drew=wd at RP ⊢;obtain⟨hcell,bT⟩:=QU RP.out;have d0:=hcell K OT.out;have d1:=bT K;clear hcell bT p0 p1 cx;go_wp2_with fail
       rw[show wrap64 ((j:Int)+1)=((j+1:Nat):Int) from ZxD _ (by
           have:=kQ.out;have:len≤8:=by
            rw[← HIN.out];exact ZxL (ZvF HQ.out.Z.I.G k) eF.out.2.2.2.2.2
           omega)]
       refine⟨⟨j+1,rfl,kQ.out,?_⟩,by have:=kQ.out;simp[intOf];omega⟩;have mE:=ZvD RP.out OT.out;rw[Zv9 Q5.out,HK.out];exact mE
      ·have j1:¬ (j:Int)<(len:Int):=by omega
       clear p2 p3 aX hO2 y1 y2 y3 MQ;go_wp2_with fail
       rw[show wrap64 ((k:Int)+1)=((k+1:Nat):Int) from ZxD _ (by have:=eH.out;have:=eF.out;omega)];refine⟨⟨k+1,rfl,eH.out,?_⟩,by have:=eH.out;simp[intOf];omega⟩;obtain rfl:j=len:=(by omega);rw[← Zvi,ja];exact HO.out
    ·obtain rfl:k=c.C:=by omega
     have i1:¬ (c.C:Int)<(c.C:Int):=(by omega);clear H8 aK hk hO;go_wp2_with fail
     clear y0 y1 y2 y3 i1;have h9:Own W (hadB bd (Cv.Cj c st)::lV B4 A0 B1 B2 c0 c1 c2 c.C n1 c.S false::gJ br bc c mn cp (.slice A1 aj.length K1) r.next r.out pv r.none true::(bs++M)) wr:=by
      rw[← Zv8];exact HO.out
     have H9:=ZkQ h9;clear h9 HO
     go_loopw [12] (fun sv wr=>∃ s:Nat,sv = .int .i64 (s:Int)∧s≤c.S∧Own W (hadB bd (Cv.Cj c st)::lV B4 A0 B1 B2 c0 c1 c2 c.C n1 c.S false::gJ br bc c mn cp (.slice A1 aj.length K1) r.next r.out pv r.none true::(bs++M)) wr) (fun sv _=>c.S - (intOf sv).toNat)
     case atStart=>exact⟨0,rfl,ZxV _,H9.out⟩
     case round =>
      obtain⟨s,rfl,hs,hO⟩:=hrel;have HO:=ZkQ hO;obtain⟨y0,y1,y2,y3⟩:=xh hO.skip;obtain⟨⟨-,-,x2,x3,-⟩,-,-⟩:=BN hO.skip.skip;by_cases aK:s<c.S
      ·have i0:(0:Int)≤(s:Int):=by omega
       have i1:(s:Int)<(c.S:Int):=(by omega);have eH:=ZkQ aK;clear hO aK H9 y0 y1 y2 x3 hs;go_wp2_with fail
       clear y3 x2 i0 i1
       go_loopw [13] (fun iv wr2=>∃ i:Nat,iv = .int .i64 (i:Int)∧i≤c.O∧Own W (hadB bd (Cv.Cj c st)::lV B4 A0 B1 B2 c0 c1 c2 c.C n1 c.S false::gJ br bc c mn cp (.slice A1 aj.length K1) r.next r.out pv r.none true::(bs++M)) wr2) (fun iv _=>c.O - (intOf iv).toNat)
       case atStart=>exact⟨0,rfl,ZxV _,HO.out⟩
       case round =>
        obtain⟨i,rfl,hi,hO2⟩:=hrel;clear HO;have HO:=ZkQ hO2;obtain⟨y0,y1,y2,y3⟩:=xh hO2.skip;obtain⟨⟨x0,-,x2,x3,-⟩,xo,-⟩:=BN hO2.skip.skip;by_cases pK:i<c.O
        ·obtain⟨⟨x,v,b⟩,hx⟩:∃ x,Ll[s]?=some x:=⟨_,Zxp (by have:=congrArg List.length HP.out.el;rw[List.length_map]at this;rw[this];simpa [Cv.jl] using eH.out)⟩
         have he:x=Cv.pu c st s:=by
          have e1:=congrArg (fun l=>l[s]?) HP.out.el;simp only[List.getElem?_map,hx,Option.map_some,Cv.jl,List.getElem?_range eH.out,ZlP]at e1;exact e1
         subst he;obtain⟨⟨g1,rfl,p0,p1,p2,p3,p4,gl⟩,aX⟩:=HP.out.mQ hO2.skip.skip.skip hx (by simpa [Cv.jl] using eH.out);have ic:(Cv.pu c st s).counts.live=st.lv s:=by
          unfold Cv.pu Cv.MI;cases st.lv s<;>rfl
         simp only[ic]at p3;obtain⟨mU,DW⟩:=Cv.Vr HQ.out eH.out pK;have fB:r.out (16 * s+i)=true↔st.loc s i = .out:=HI.out.out s i (by have:=eF.out;omega);have j0:(0:Int)≤(i:Int):=(by omega);have j1:(i:Int)<(c.O:Int):=(by omega);have i0:(0:Int)≤(s:Int):=(by omega);have i1:(s:Int)<(c.S:Int):=(by have:=eH.out;omega);obtain⟨hcell,-⟩:=QU hO2;obtain⟨K,hK⟩:=Zx9 (16 * s+i);have vY:K<512:=(by have:=eF.out;have:=eH.out;omega);rw[hK]at mU fB;have d0:=hcell K vY;have d2:=xo K vY;rw[mU]at d0;have k0:(0:Int)≤(K:Int):=(by omega);have k1:(K:Int)<512:=(by omega);have vG:Hid (wrap64 ((i:Int)+1)=((i+1:Nat):Int)):=ZkQ (ZxD _ (by have:=eF.out;omega));have e1:wrap64 (16 * (s:Int))=16 * (s:Int):=ZxD _ (by have:=eF.out;have:=eH.out;omega);have e2:wrap64 (16 * (s:Int)+(i:Int))=(K:Int):=(ZxD _ (by have:=eF.out;have:=eH.out;omega)).trans (by omega);have kQ:=ZkQ pK;clear hcell xo hK vY p0 p1 p2 p4 aX hO2 y0 y1 y2 gl hi mU pK hx ic;cases hl:st.lv s with
         |false =>
          have fJ:r.out K=false:=by
           cases ho:r.out K with
           |false=>rfl
           |true=>rw[DW (fB.1 ho)]at hl;cases hl
          rw[hl]at p3 d0;rw[fJ]at d2;simp only[Bool.false_eq_true,false_and,if_false]at d0;clear fB DW fJ hl;go_wp2_with fail
          rw[vG.out];exact⟨⟨i+1,rfl,kQ.out,HO.out⟩,by have:=kQ.out;simp[intOf];omega⟩
         |true =>
          cases ho:r.out K with
          |true =>
           rw[hl]at p3;rw[if_neg (fun h=>h.2 (fB.1 ho))]at d0;rw[ho]at d2;clear fB DW ho hl;go_wp2_with fail
           rw[vG.out];exact⟨⟨i+1,rfl,kQ.out,HO.out⟩,by have:=kQ.out;simp[intOf];omega⟩
          |false =>
           rw[hl]at p3;rw[if_pos ⟨hl,fun h=>by rw[fB.2 h]at ho;cases ho⟩]at d0;rw[ho]at d2;clear fB DW ho hl;go_wp2_with fail
           rw[vG.out];exact⟨⟨i+1,rfl,kQ.out,HO.out⟩,by have:=kQ.out;simp[intOf];omega⟩
        ·have j1:¬ (i:Int)<(c.O:Int):=by omega
         clear hO2 y0 y1 y2 y3 xo x2;go_wp2_with fail
         rw[show wrap64 ((s:Int)+1)=((s+1:Nat):Int) from ZxD _ (by have:=eH.out;have:=eF.out;omega)];exact⟨⟨s+1,rfl,eH.out,HO.out⟩,by have:=eH.out;simp[intOf];omega⟩
      ·have i1:¬ (s:Int)<(c.S:Int):=by omega
       clear aK hs hO H9 y0 y1 y2 x3;go_wp2_with fail
       refine(Zh (HO.out.sub (List.nil_sublist _)) HT.out).mono ?_;rintro e w8 ⟨rfl,h8⟩;have H8:=ZkQ h8;clear h8;go_wp2_with fail
       go_ret;exact⟨rfl,H8.out⟩
end
end Cw
end Go.Proofs.YtfcpdlbkmkhhcaaGreatDoor
