/-
  Texts of this claim, joined. No condition.
-/
import Derived.Test.YtfcpdlbkmkhhcaaGreatDoorCh1
import Derived.Test.YtfcpdlbkmkhhcaaGreatDoorCh27
import Derived.Test.YtfcpdlbkmkhhcaaGreatDoorCh30
import Derived.Test.YtfcpdlbkmkhhcaaGreatDoorCh31
import Derived.Test.YtfcpdlbkmkhhcaaGreatDoorCh32
namespace Go.Proofs.YtfcpdlbkmkhhcaaGreatDoor
set_option maxRecDepth 100000
set_option maxHeartbeats 40000000
namespace Cv
open See Cw
section
variable {c:Ch}{mn cp:Nat}{st st1 st':St}{g g':List Nat}{k:Nat}{t t':Tk}
theorem p81 (X:Cx c mn cp st g k t)(hpc:t.pc=81):∃ t' g' st',aM c mn cp st g k t t' g' st':=by
 have hA:=X.at_;unfold At at hA;rw[hpc]at hA;have ai:=X.aB;have aL:=X.w0 (by omega) (by omega);have hC:=X.C;have hS:=X.S;have hO:=X.O;obtain⟨l,ch,h1,h2,h3,h5,h6,h7,h8,p,a,q,h9,lX,uM⟩:=hA;have bY:∀ o∈l,o<c.O:=fun o ho=>(ru X.I.G (x:=.aU k) (s:=sn t) rfl (by rw[h1.at_];exact ho)).2;have D7:l.length≤c.O:=zP (h1.at_ ▸ X.I.G.od (sn t) (.aU k) rfl) bY;have ha:a<c.O:=bY a (by rw[h9];simp);have hk:=h7;rw[h9,KU]at hk;have pR:p.length<c.O:=by
  rw[h9]at D7;simp at D7;omega
 have pM:0≤t.last∧t.last<c.O:=by omega
 have jJ:t.last.toNat=a:=by omega
 have hr:=X.Bg (dG h2) ha;cases q with
 |nil =>
  refine aM.read X (t':={ t with many:=t.many+1,pc:=84 }) (pc:=81) (pc':=84) hpc rfl rfl ?_ ?_ rfl rfl rfl aL ?_
  ·rw[iP (by omega)]
   unfold bG;rw[hpc];refine(fM h2).trans ((pY pM).trans ((dQ (by omega)).trans ?_));rw[jJ];refine(dM hr).trans ?_;rw[UA (ZqV hk.2) (by omega) (by omega)];exact if_pos rfl
  ·unfold At
   exact⟨l,ch,h1,h2,h3,h5,h6,⟨-1,h7⟩,h8,by show t.many+1=_;rw[h9,uM];simp,.inr ⟨p,a,h9,lX⟩⟩
  ·unfold aF base pen
   simp[hpc,ai];all_goals (try(repeat' split))<;>omega
 |cons b q =>
  have hb:b<c.O:=bY b (by rw[h9];simp);refine aM.read X (t':={ t with many:=t.many+1,last:=(b:Int),pc:=81 }) (pc:=81) (pc':=81) hpc rfl rfl ?_ ?_ rfl rfl rfl aL ?_
  ·rw[iP (by omega)]
   unfold bG;rw[hpc];refine(fM h2).trans ((pY pM).trans ((dQ (by omega)).trans ?_));rw[jJ];refine(dM hr).trans ?_;rw[UA (ZqW hk.2) (by omega) (by omega)];show(if (b:Int) = -1 then _ else need (0≤(b:Int)∧(b:Int)<c.O) _)=_;rw[if_neg (by omega),dQ (by omega)]
  ·unfold At
   exact⟨l,ch,h1,h2,h3,h5,h6,h7,h8,p++[a],b,q,by rw[h9];simp,rfl,by show t.many+1=_;rw[uM];simp⟩
  ·unfold aF base pen
   simp[hpc,ai];all_goals (try(repeat' split))<;>omega
theorem p84 (X:Cx c mn cp st g k t)(hpc:t.pc=84):∃ t' g' st',aM c mn cp st g k t t' g' st':=by
 have hA:=X.at_;unfold At at hA;rw[hpc]at hA;have ai:=X.aB;have aL:=X.w0 (by omega) (by omega);have hC:=X.C;have hS:=X.S;have hO:=X.O;obtain⟨l,ch,h1,h2,h3,h5,h6,h7,h8,h9⟩:=hA;have hF:=Ml X.I.G (sn t);refine aM.read X (t':={ t with F:=fr st (sn t),pc:=85 }) (pc:=84) (pc':=85) hpc rfl rfl ?_ ?_ rfl rfl rfl aL ?_
 ·rw[iP (by omega)]
  unfold bG;rw[hpc];refine(fM h2).trans ((dM (X.xU (dG h2))).trans ?_);rw[dQ hF]
 ·unfold At
  exact⟨l,ch,h1,h2,h3,h5,h6,h7,h8,h9.1,h9.2,hF⟩
 ·unfold aF base pen
  simp[hpc,ai];all_goals (try(repeat' split))<;>omega
theorem p85 (X:Cx c mn cp st g k t)(hpc:t.pc=85):∃ t' g' st',aM c mn cp st g k t t' g' st':=by
 have hA:=X.at_;unfold At at hA;rw[hpc]at hA;have ai:=X.aB;have aL:=X.w0 (by omega) (by omega);have hC:=X.C;have hS:=X.S;have hO:=X.O;obtain⟨l,ch,h1,h2,h3,h5,h6,h7,h8,h9,lX,uM⟩:=hA;have qL:=vL (c:=c) h3.1 h3.2;have Cr:=Jc X.I.G h1.at_;have hr:=X.vw (dG h2);by_cases ow:t.obj<0
 ·have hl:l=[]:=Tv (h6 ▸ ow)
  refine aM.read X (t':={ t with K:=ct c st (sn t),pc:=87 }) (pc:=85) (pc':=87) hpc rfl rfl ?_ ?_ rfl rfl rfl aL ?_
  ·rw[iP (by omega)]
   unfold bG;rw[hpc];refine(fM h2).trans ((dM hr).trans ?_);rw[qL];refine(o8 (by omega) hO.1 hO.2).trans ?_;rw[dQ ⟨rfl,by omega,by omega⟩,if_pos ow]
  ·unfold At
   exact⟨l,ch,h1,h2,h3,h5,h6,by rw[hl];trivial,h8,h9,.inl hl,uM,_,_,qL,by omega,rfl,by omega⟩
  ·unfold aF base pen
   simp[hpc,ai];all_goals (try(repeat' split))<;>omega
 ·have hl:l≠[]:=by
   intro e;rw[e]at h6;have:t.obj = -1:=h6;omega
  refine aM.read X (t':={ t with K:=ct c st (sn t),pc:=86 }) (pc:=85) (pc':=86) hpc rfl rfl ?_ ?_ rfl rfl rfl aL ?_
  ·rw[iP (by omega)]
   unfold bG;rw[hpc];refine(fM h2).trans ((dM hr).trans ?_);rw[qL];refine(o8 (by omega) hO.1 hO.2).trans ?_;rw[dQ ⟨rfl,by omega,by omega⟩,if_neg ow]
  ·unfold At
   exact⟨l,ch,h1,h2,h3,h5,h6,h7,h8,h9,lX.resolve_left hl,uM,_,_,qL,by omega,rfl,by omega⟩
  ·unfold aF base pen
   simp[hpc,ai];all_goals (try(repeat' split))<;>omega
theorem p88 (X:Cx c mn cp st g k t)(hpc:t.pc=88):∃ t' g' st',aM c mn cp st g k t t' g' st':=by
 have hA:=X.at_;unfold At at hA;rw[hpc]at hA;have ai:=X.aB;have aL:=X.w0 (by omega) (by omega);have hC:=X.C;have hS:=X.S;have hO:=X.O;obtain⟨ch,h1,h2,h3,h4,h5,h6,h7⟩:=hA;have hh:=h6.held;by_cases hm:st.held<mn
 ·refine aM.read X (t':={ t with pc:=90 }) (pc:=88) (pc':=90) hpc rfl rfl ?_ ?_ rfl rfl rfl aL ?_
  ·rw[iP (by omega)]
   unfold bG;rw[hpc];exact(dM X.yD).trans (if_pos hm)
  ·unfold At
   exact⟨ch,h1,h2,h3,by intro e;unfold Full at h4;rw[e]at h4;simp at h4;omega,fun _=>by omega,h6,h7⟩
  ·unfold aF base pen
   simp[hpc,ai];all_goals (try(repeat' split))<;>omega
 ·refine aM.read X (t':={ t with pc:=76 }) (pc:=88) (pc':=76) hpc rfl rfl ?_ ?_ rfl rfl rfl aL ?_
  ·rw[iP (by omega)]
   unfold bG;rw[hpc];exact(dM X.yD).trans (if_neg hm)
  ·unfold At
   exact⟨ch,h1,h2,h3,h4,h5,h6,h7⟩
  ·have Ad:t.back=95→cont c st t.back k=2 * c.S+12:=by
    intro e;simp[cont,e]
   unfold aF base pen;simp[hpc,ai];split
   ·rename_i e
    rw[Ad e];omega
   ·omega
theorem p90 (X:Cx c mn cp st g k t)(hpc:t.pc=90):∃ t' g' st',aM c mn cp st g k t t' g' st':=by
 have hA:=X.at_;unfold At at hA;rw[hpc]at hA;have ai:=X.aB;have aL:=X.w0 (by omega) (by omega);have hC:=X.C;have hS:=X.S;have hO:=X.O;obtain⟨ch,h1,h2,h3,h4,h5,h6,h7⟩:=hA;have iF:=Mm X.I.G (q:=st.sl .shelf) (fun s hs=>hs);refine aM.read X (t':={ t with N:=sw (st.sl .shelf),pc:=91 }) (pc:=90) (pc':=91) hpc rfl rfl ?_ ?_ rfl rfl rfl aL ?_
 ·rw[iP (by omega)]
  unfold bG;rw[hpc];refine(dM X.Dm).trans ?_;exact dQ iF
 ·unfold At
  exact⟨ch,h1,h2,h3,h4,h5,h6,h7,rfl⟩
 ·unfold aF base pen
  simp[hpc,ai];all_goals (try(repeat' split))<;>omega
theorem p96 (X:Cx c mn cp st g k t)(hpc:t.pc=96):∃ t' g' st',aM c mn cp st g k t t' g' st':=by
 have hA:=X.at_;unfold At at hA;rw[hpc]at hA;have ai:=X.aB;have aL:=X.w0 (by omega) (by omega);have hC:=X.C;have hS:=X.S;have hO:=X.O;obtain⟨h1,h2⟩:=hA;have hr:=X.Dm;have hlen:=Gi X.I.G;cases hP:st.sl .shelf with
 |nil =>
  refine aM.read X (t':={ t with N:=0,bS := -1,pc:=99 }) (pc:=96) (pc':=99) hpc rfl rfl ?_ ?_ rfl rfl rfl aL ?_
  ·rw[iP (by omega)]
   unfold bG;rw[hpc];refine(dM hr).trans ?_;rw[hP];exact dQ (ZxV _)
  ·unfold At
   exact⟨h1,h2⟩
  ·unfold aF base pen
   simp[hpc];all_goals (try(repeat' split))<;>omega
 |cons s r =>
  have hs:=Ji X.I.G (p:=[]) hP;refine aM.read X (t':={ t with N:=s+1,bS := -1,aA:=(s:Int),pc:=97 }) (pc:=96) (pc':=97) hpc rfl rfl ?_ ?_ rfl rfl rfl aL ?_
  ·rw[iP (by omega)]
   unfold bG;rw[hpc];refine(dM hr).trans ?_;rw[hP];show need (s+1≤c.S) (if s+1=0 then _ else some ({ t with N:=s+1,bS := -1,aA:=((s+1:Nat):Int) - 1,pc:=97 },g))=_;rw[dQ (by omega),if_neg (by omega),show(((s+1:Nat):Int) - 1)=(s:Int) by omega]
  ·unfold At
   exact⟨h1,h2,⟨by show(0:Int)≤s;omega,by show(s:Int)<c.S;omega⟩,[],r,by rw[hP];rfl,rfl⟩
  ·unfold aF base pen
   simp[hpc,ai,shl,h2.hold];all_goals (try(repeat' split))<;>omega
theorem p97 (X:Cx c mn cp st g k t)(hpc:t.pc=97):∃ t' g' st',aM c mn cp st g k t t' g' st':=by
 have hA:=X.at_;unfold At at hA;rw[hpc]at hA;have ai:=X.aB;have aL:=X.w0 (by omega) (by omega);have hC:=X.C;have hS:=X.S;have hO:=X.O;obtain⟨h1,h2,h3,p,q,h4,h5⟩:=hA;have fE:=yh X.I.G h4;obtain⟨h8,h9⟩:=X.I.G.shelf _ fE;have h9:=h9 (by rw[h2.cut];intro e;cases e);have qL:=vL (c:=c) h8 h9.1;have hfl:=Qv X.I.G (sn t);have jZ:=X.I.G.sd .shelf rfl;have pG:(st.sl .shelf).idxOf t.aA.toNat=p.length:=by
  rw[h4]at jZ ⊢;exact LC jZ
 have D7:(st.sl .shelf).length=p.length+1+q.length:=by
  rw[h4];simp;omega
 by_cases jS:c.O - (st.ol (sn t) .first).length=0
 ·refine aM.read X (t':={ t with K:=ct c st (sn t),pc:=100 }) (pc:=97) (pc':=100) hpc rfl rfl ?_ ?_ rfl rfl rfl aL ?_
  ·rw[iP (by omega)]
   unfold bG;rw[hpc];refine(fM h3).trans ((dM (X.vw (dG h3))).trans ?_);rw[qL];refine(o8 (by omega) hO.1 hO.2).trans ?_;rw[if_pos jS]
  ·unfold At
   exact⟨h1,h2,h3,⟨p,q,h4,h5⟩,(show Full c st (sn t) from by unfold Full;omega),rfl⟩
  ·unfold aF base pen
   simp[hpc,ai,shl,Bf,h2.hold,pG];all_goals (try(repeat' split))<;>omega
 ·refine aM.read X (t':={ t with K:=ct c st (sn t),pc:=98 }) (pc:=97) (pc':=98) hpc rfl rfl ?_ ?_ rfl rfl rfl aL ?_
  ·rw[iP (by omega)]
   unfold bG;rw[hpc];refine(fM h3).trans ((dM (X.vw (dG h3))).trans ?_);rw[qL];refine(o8 (by omega) hO.1 hO.2).trans ?_;rw[if_neg jS]
  ·unfold At
   exact⟨h1,h2,h3,p,q,h4,h5⟩
  ·unfold aF base pen
   simp[hpc,ai,shl,Bf,h2.hold,pG];all_goals (try(repeat' split))<;>omega
theorem p98 (X:Cx c mn cp st g k t)(hpc:t.pc=98):∃ t' g' st',aM c mn cp st g k t t' g' st':=by
 have hA:=X.at_;unfold At at hA;rw[hpc]at hA;have ai:=X.aB;have aL:=X.w0 (by omega) (by omega);have hC:=X.C;have hS:=X.S;have hO:=X.O;obtain⟨h1,h2,h3,p,q,h4,h5⟩:=hA;have hc:=Mc (X.I.G.cS |> (h4 ▸ ·));have iF:=Mm X.I.G (q:=q) (fun s hs=>by rw[h4];simp[hs]);have jZ:=X.I.G.sd .shelf rfl;have pG:(st.sl .shelf).idxOf t.aA.toNat=p.length:=by
  rw[h4]at jZ ⊢;exact LC jZ
 have D7:(st.sl .shelf).length=p.length+1+q.length:=by
  rw[h4];simp;omega
 have hr:=X.yR (dG h3);cases q with
 |nil =>
  refine aM.read X (t':={ t with N:=0,bS:=t.aA,pc:=99 }) (pc:=98) (pc':=99) hpc rfl rfl ?_ ?_ rfl rfl rfl aL ?_
  ·rw[iP (by omega)]
   unfold bG;rw[hpc];refine(fM h3).trans ((dM hr).trans ?_);rw[hc];exact dQ (ZxV _)
  ·unfold At
   exact⟨h1,h2⟩
  ·unfold aF base pen
   simp[hpc,ai,shl,Bf,h2.hold,pG];all_goals (try(repeat' split))<;>omega
 |cons s r =>
  have He:st.sl .shelf=(p++[sn t])++s::r:=by
   rw[h4];simp
  have hs:=Ji X.I.G He;have jy:(st.sl .shelf).idxOf s=p.length+1:=by
   rw[He]at jZ ⊢;rw[LC jZ];simp
  simp only[ZxJ]at D7;refine aM.read X (t':={ t with N:=s+1,bS:=t.aA,aA:=(s:Int),pc:=97 }) (pc:=98) (pc':=97) hpc rfl rfl ?_ ?_ rfl rfl rfl aL ?_
  ·rw[iP (by omega)]
   unfold bG;rw[hpc];refine(fM h3).trans ((dM hr).trans ?_);rw[hc];show need (s+1≤c.S) (if s+1=0 then _ else some ({ t with N:=s+1,bS:=t.aA,aA:=((s+1:Nat):Int) - 1,pc:=97 },g))=_;rw[dQ (by omega),if_neg (by omega),show(((s+1:Nat):Int) - 1)=(s:Int) by omega]
  ·unfold At
   exact⟨h1,h2,⟨by show(0:Int)≤s;omega,by show(s:Int)<c.S;omega⟩,_,r,He,by rw[Ye];exact Dt h3⟩
  ·unfold aF base pen
   simp[hpc,ai,shl,Bf,h2.hold,pG,jy];all_goals (try(repeat' split))<;>omega
theorem Zub (X:Cx c mn cp st g k t)(hpc:t.pc=100):∃ t' g' st',aM c mn cp st g k t t' g' st':=by
 have hA:=X.at_;unfold At at hA;rw[hpc]at hA;have ai:=X.aB;have aL:=X.w0 (by omega) (by omega);have hC:=X.C;have hS:=X.S;have hO:=X.O;obtain⟨h1,h2,h3,h4,h5,h6⟩:=hA;refine aM.read X (t':={ t with F:=fr st (sn t),pc:=101 }) (pc:=100) (pc':=101) hpc rfl rfl ?_ ?_ rfl rfl rfl aL ?_
 ·rw[iP (by omega)]
  unfold bG;rw[hpc];exact(fM h3).trans (dM (X.xU (dG h3)))
 ·unfold At
  exact⟨h1,h2,h3,h4,h5,rfl,h6⟩
 ·unfold aF base pen
  simp[hpc];all_goals (try(repeat' split))<;>omega
theorem Zuc (X:Cx c mn cp st g k t)(hpc:t.pc=101):∃ t' g' st',aM c mn cp st g k t t' g' st':=by
 have hA:=X.at_;unfold At at hA;rw[hpc]at hA;have ai:=X.aB;have aL:=X.w0 (by omega) (by omega);have hC:=X.C;have hS:=X.S;have hO:=X.O;obtain⟨h1,h2,h3,⟨p,q,h4,h7⟩,h5,h6⟩:=hA;have hc:=Mc (X.I.G.cS |> (h4 ▸ ·));have iF:=Mm X.I.G (q:=q) (fun s hs=>by rw[h4];simp[hs]);refine aM.read X (t':={ t with N:=sw q,pc:=102 }) (pc:=101) (pc':=102) hpc rfl rfl ?_ ?_ rfl rfl rfl aL ?_
 ·rw[iP (by omega)]
  unfold bG;rw[hpc];refine(fM h3).trans ((dM (X.yR (dG h3))).trans ?_);rw[hc];exact dQ iF
 ·unfold At
  exact⟨h1,h2,h3,⟨p,q,h4,h7,rfl⟩,h5,h6⟩
 ·unfold aF base pen
  simp[hpc];all_goals (try(repeat' split))<;>omega
end
end Cv
namespace Cv
open See Cw
section
variable {c:Ch}{mn cp:Nat}{st st1 st':St}{g g':List Nat}{k:Nat}{t t':Tk}
theorem Zsz (l r:List Nat):fw (l++r)=if l=[] then fw r else fw l:=by
 cases l with
 |nil=>rfl
 |cons a l=>rfl
theorem p87 (X:Cx c mn cp st g k t)(hpc:t.pc=87):∃ t' g' st',aM c mn cp st g k t t' g' st':=by
 have hA:=X.at_;unfold At at hA;rw[hpc]at hA;have ai:=X.aB;have aL:=X.w0 (by omega) (by omega);have hC:=X.C;have hS:=X.S;have hO:=X.O;have G:=X.I.G;obtain⟨l,ch,h1,h2,h3,h5,h6,h7,h8,h9,zV,lX,iu,f,hK,jS,rfl,uM⟩:=hA;have N7 : -1≤t.obj∧t.obj<c.O:=by
  rw[h6];exact⟨Dk (by omega),EL G (x:=.aU k) (s:=sn t) rfl hO.1 (fun o ho=>by rw[h1.at_];exact ho)⟩
 obtain⟨F',hF'⟩:∃ F',F'=if t.obj<0 then t.F else (t.obj+1).toNat:=⟨_,rfl⟩
 obtain⟨K',hK'⟩:∃ K',K'=dF (iu - l.length) c.O false true:=⟨_,rfl⟩;obtain⟨P,hP⟩:∃ P:Int,P=if t.obj<0∧t.F=0 then 94 else if iu - l.length=0 then 88 else 90:=⟨_,rfl⟩
 have bP:t.many.toNat=l.length:=by omega
 have hs:iO c mn cp g t=if fr st (sn t)=t.F∧ct c st (sn t)=t.K then some ({ t with K:=K',F:=F',pc:=P },(g.set (fq c (sn t)) F').set (fq c (sn t)+1) K') else some ({ t with pc:=84 },g):=by
  rw[iP (by omega)];unfold bG;rw[hpc];refine(fM h2).trans ?_
  have hk:=o8 (iu:=iu) (ob:=c.O) (f:=true) (x:=fun iu ob fz=>need (fz=true∧0≤t.many∧t.many≤iu ∧ -1≤t.obj∧t.obj<c.O∧t.F≤c.O)
   (mK g (fq c (sn t)) t.F t.K (if t.obj<0 then t.F else (t.obj+1).toNat) (dF (iu - t.many.toNat) ob false true)
     { t with K:=dF (iu - t.many.toNat) ob false true,F:=if t.obj<0 then t.F else (t.obj+1).toNat,pc:=if t.obj<0∧t.F=0 then 94 else if iu - t.many.toNat=0 then 88 else 90 } { t with pc:=84 })) jS hO.1 hO.2
  rw[← hK]at hk;refine hk.trans ((dQ ⟨rfl,by omega,by omega,N7.1,N7.2,lX⟩).trans ?_);rw[bP,← hF',← hK',← hP];exact uo (X.xU (dG h2)) (X.vw (dG h2))
 have cB:=h1.own G;have hb:base c st t=31+cont c st t.back t.aB:=by
  unfold base;rw[hpc];rfl
 by_cases hc:fr st (sn t)=t.F∧ct c st (sn t)=t.K
 ·rw[if_pos hc]at hs
  obtain⟨e1,e2⟩:=Ms X h3.1 hK jS hc.2;obtain⟨FL,Rb⟩:∃ FL,FL=st.ol (sn t) .first:=⟨_,rfl⟩;have Rm:fw FL=t.F:=by
   rw[← hc.1,Rb];rfl
  have hM:kI c st (sn t) (.aU k) .first l []:=kI.of G rfl (fun e=>by cases e) (by rw[h1.at_,ZxP]) (fun e=>by cases e) (fun _ e=>by cases e) (fun _=>by
   rw[← Rb,← UR,Rm];exact h7) (fun e=>by rw[cB]at e;cases e) (fun _ _ e=>by cases e) (fun x e=>h3.1) (fun _ e=>by rw[cB]at e;cases e)
  obtain⟨s1,aP⟩:∃ s1,s1=bW st (sn t) (.aU k) .first l []:=⟨_,rfl⟩;have G1:dH c mn cp s1:=by rw[aP];exact wQ G hM
  have nP:s1.own (sn t) = .mine k:=by rw[aP];exact cB
  obtain⟨s2,eB⟩:∃ s2,s2=jr s1 (sn t) true false:=⟨_,rfl⟩;have G2:dH c mn cp s2:=by rw[eB];exact KW G1 nP (fun e=>by cases e)
  have R1:∀ j,j≠k→bB c j none none st s1:=fun j hj=>by rw[aP];exact wR (k:=k) hj (fun _ e=>by cases e;rfl) (fun _ e=>by cases e) (fun x e=>by rcases e with e|e<;>cases e) (fun e=>by cases e) (fun e=>by cases e) (fun _ _ _=>.inr (.inl cB))
  have R2:∀ j,j≠k→bB c j none none s1 s2:=fun j hj=>by rw[eB];exact Ld hj nP
  have KS:∀ j,j≠k→bB c j none none st s2:=fun j hj=>(R1 j hj).trans G G1 (R2 j hj);have kW:s2.lv (sn t)=true:=by rw[eB];exact if_pos rfl
  have rR:s2.dh (sn t)=false:=by rw[eB];exact if_pos rfl
  have j4:s2.ol (sn t) .first=l++FL:=by
   rw[eB];show s1.ol (sn t) .first=_;rw[aP,zu,Rb]
  have wF:s2.own=st.own:=by rw[eB,aP];rfl
  have jM:s2.sl=st.sl:=by rw[eB,aP];rfl
  have Ak:s2.loc=s1.loc:=by rw[eB];rfl
  have Cr:=Jc G h1.at_;rw[← Rb]at e1 Cr;have hFw:fw (l++FL)=F':=by
   rw[Zsz,hF',Rm];by_cases kg:l=[]
   ·rw[if_pos kg,if_pos (by rw[h6,kg];show(-1:Int)<0;omega)]
   ·rw[if_neg kg]
    cases l with
    |nil=>exact absurd rfl kg
    |cons a r =>
     have:t.obj=(a:Int):=h6;rw[if_neg (by omega)];show a+1=_;omega
  have hlen:(l++FL).length=l.length+FL.length:=Zxw;have NZ:∀ x,s2.ol x (.aU k)=[]:=fun x=>by
   rw[eB];show s1.ol x (.aU k)=_;rw[aP];by_cases e:x=sn t
   ·rw[e,yw (fun e=>by cases e)]
   ·rw[o6 (fun e2=>e e2.1) (fun e2=>e e2.1),h1.ob,if_neg e]
  have Rf:ct c s2 (sn t)=K':=by
   rw[vL kW rR,j4,hlen,hK']
   congr 1
   omega
  have Rc:fr s2 (sn t)=F':=by
   unfold fr;rw[j4,hFw]
  have hval:∀ i:Ix,i≠.fr (sn t)→i≠.ct (sn t)→val c s2 i=val c st i:=fun i hi jy=>by
   rw[eB,Lc i jy,aP];refine wP i (fun x e=>⟨(fun e2=>by cases e2),fun e2=>by cases e2⟩) (fun x e=>.inl ?_);rintro rfl;rcases e with e|e
   ·exact hi e
   ·exact jy e
  have hW:xX ((g.set (fq c (sn t)) F').set (fq c (sn t)+1) K'):=by
   refine eP (eP X.W ?_) (by rw[hK'];exact ED (by omega) hO.2);rw[hF'];split<;>omega
  have Fs:∀ (z:St),z.sl .shelf=st.sl .shelf→(∀ x,x≠sn t→z.ol x .first=st.ol x .first∧z.dh x=st.dh x)→lT c z≤mn+0:=fun z hz Ee=>by
   refine ZxL (m:=lT c st) ?_ h8.em;unfold lT;rw[hz];refine Ey fun x hx he => ?_;have hne:x≠sn t:=by
    rintro rfl;rw[G.sm _ rfl,cB]at hx;cases hx
   rw[(Ee x hne).1,(Ee x hne).2]at he;exact he
  have N8:∀ x,x≠sn t→s2.ol x .first=st.ol x .first∧s2.dh x=st.dh x:=fun x hne=>by
   constructor
   ·rw[eB]
    show s1.ol x .first=_;rw[aP];exact o6 (fun e2=>hne e2.1) (fun e2=>hne e2.1)
   ·rw[eB,show(jr s1 (sn t) true false).dh x=s1.dh x from if_neg hne,aP]
    rfl
  have Ip:∀ x,x≠sn t→s2.lv x=st.lv x:=fun x hne=>by
   rw[eB,show(jr s1 (sn t) true false).lv x=s1.lv x from if_neg hne,aP];rfl
  have fB:∀ x y,s2.loc x y = .out↔st.loc x y = .out:=fun x y=>by
   rw[Ak,aP];exact Br (fun o ho=>by rw[hM.at_ o ho];intro e;cases e) (fun e=>by cases e) x y
  have Fq:cont c s2 t.back t.aB=cont c st t.back t.aB:=by
   unfold cont;rw[jM]
  have Io:iq s2 (sn t)=iq st (sn t):=by
   unfold iq;rw[kW,h3.1]
  have xu:s2.ht=st.ht:=by rw[eB,aP];rfl
  have xJ:s2.pt=st.pt:=by rw[eB,aP];rfl
  have jT:s2.n=st.n:=by rw[eB,aP];rfl
  have IQ:s2.tk=st.tk:=by rw[eB,aP];rfl
  have Nw:s2.hold=st.hold:=by rw[eB,aP];rfl
  have Nh:s2.cut=st.cut:=by rw[eB,aP];rfl
  have Nu:s2.held=st.held:=by rw[eB,aP];rfl
  by_cases hE:t.obj<0∧t.F=0
  ·
   have kg:l=[]:=Tv (h6 ▸ hE.1);have VI:FL=[]:=T9 (by rw[Rm];exact hE.2);have WA:s2.ol (sn t) .first=[]:=(by rw[j4,kg,VI];rfl);have hP2:P=94:=(by rw[hP,if_pos hE]);rw[hP2]at hs
   have VN:vI c cp s2 (.mine k) .full [sn t] []:={
    ne:=fun e=>by cases e
    src:=fun _=>by rw[jM];exact h1.ms
    at_:=p8 (by rw[wF];exact cB)
    nd:=by simp
    ad:=⟨(fun e=>by cases e),fun e=>by cases e⟩
    bd:=fun e=>by cases e
    lv:=p8 kW
    k:=fun x e=>by rcases e with e|e|e|e<;>cases e
    one:=fun x e=>by rcases e with e|e<;>cases e
    fu:=fun e=>p8 ⟨rR,WA⟩
    sh:=fun e=>by cases e
    hp:=fun x e=>by rcases e with e|e|e<;>cases e
    oh:=fun x e=>by cases e
    cP:=fun x e=>by rcases e with e|e<;>cases e
    cS:=fun e=>by cases e
    cap:=fun x e=>by cases e }
   have R3:∀ j,j≠k→bB c j none none s2 (di s2 (.mine k) .full [sn t] []):=fun j hj=>zn (k:=k) hj (fun _ e=>by rcases e with e|e<;>cases e;rfl) (fun _ e=>by rcases e with e|e<;>cases e) (fun x e=>by rcases e with e|e<;>cases e) (fun x e=>by rcases e with e|e<;>cases e) (fun _ e=>by cases e) (fun e=>by cases e) (fun e=>by cases e) (fun x e=>by cases e);have hR:∀ j,j≠k→bB c j none none st (di s2 (.mine k) .full [sn t] []):=fun j hj=>(KS j hj).trans G G2 (R3 j hj);refine aM.iI X (di s2 (.mine k) .full [sn t] []) (hx:=none) (px:=none) (t':={ t with K:=K',F:=F',pc:=94 }) (pc:=87) (pc':=94) hpc rfl rfl hs rfl rfl rfl (.inl ⟨aL,by decide⟩) (zm G2 VN) hR xu xJ jT IQ ?_ (fun _=>⟨rfl,aL⟩) ?_ hW ?_ fB (fun e=>absurd e (X.rC (by rw[hpc];decide)))
   ·unfold At
    refine⟨ch,⟨?_,fun x => ?_,?_⟩,⟨?_,?_,?_,?_⟩,h5⟩
    ·exact zw (st:=s2) (a:=.mine k) (b:=.full) (l1:=[sn t]) (l2:=[]) (fun e=>by cases e)
    ·refine(NZ x).trans ?_
     split<;>rfl
    ·refine(kJ (st:=s2) (y:=.chain k) (a:=.mine k) (b:=.full) (l1:=[sn t]) (l2:=[]) (fun e=>by cases e) (fun e=>by cases e)).trans ?_
     rw[jM];exact h1.ch
    ·exact Nw.trans h8.hold
    ·exact Nh.trans h8.cut
    ·show s2.held+0=((di s2 (.mine k) .full [sn t] []).sl .shelf).length+0
     rw[kJ (fun e=>by cases e) (fun e=>by cases e),jM,Nu];exact h8.held
    ·refine Fs (tick (di s2 (.mine k) .full [sn t] []) none none k (some { t with K:=K',F:=F',pc:=94 })) ?_ N8
     refine(kJ (st:=s2) (y:=.shelf) (a:=.mine k) (b:=.full) (l1:=[sn t]) (l2:=[]) (fun e=>by cases e) (fun e=>by cases e)).trans ?_;rw[jM]
   ·refine Bz X (dG h2) (fun i hi jy => ?_) Rc Rf
    rw[zy i (fun x e=>⟨(fun e2=>by cases e2),fun e2=>by cases e2⟩) (fun x e=>⟨(fun e2=>by cases e2),fun e2=>by cases e2⟩) (fun _=>⟨(fun e=>by cases e),fun e=>by cases e⟩)];exact hval i hi jy
   ·refine zN X (dG h2) hR xu xJ (fun _ => ?_) Ip ?_
    ·rw[kJ (fun e=>by cases e) (fun e=>by cases e),jM]
    ·rw[show iq (di s2 (.mine k) .full [sn t] []) (sn t)=iq s2 (sn t) from rfl,Io]
     have e3:cont c (di s2 (.mine k) .full [sn t] []) t.back t.aB=cont c st t.back t.aB:=by
      unfold cont;rw[kJ (fun e=>by cases e) (fun e=>by cases e),jM]
     show 1+cont c (di s2 (.mine k) .full [sn t] []) t.back t.aB+0+25+_≤aF c st t+_;rw[e3];unfold aF;omega
  ·have hne:l++FL≠[]:=by
    intro e;have kg:=(List.append_eq_nil_iff.1 e).1;have hf0:=(List.append_eq_nil_iff.1 e).2;refine hE ⟨by rw[h6,kg];show(-1:Int)<0;omega,?_⟩;rw[← Rm,hf0];rfl
   have lD:∀ x:Option Tk,Has (tick s2 none none k x) k [sn t] (sn t) [] ch:=fun x=>⟨by
    show s2.sl (.mine k)=_;rw[jM];exact h1.ms,fun x=>(NZ x).trans (by split<;>rfl),by
    show s2.sl (.chain k)=_;rw[jM];exact h1.ch⟩
   have hLk:∀ x:Option Tk,fK c mn (tick s2 none none k x) k none 0 0 0:=fun x=>⟨Nw.trans h8.hold,Nh.trans h8.cut,by
    show s2.held+0=(s2.sl .shelf).length+0;rw[jM,Nu];exact h8.held,Fs _ (by show s2.sl .shelf=_;rw[jM]) N8⟩
   by_cases hz:iu - l.length=0
   ·have hP2:P=88:=by rw[hP,if_neg hE,if_pos hz]
    rw[hP2]at hs;refine aM.iI X s2 (hx:=none) (px:=none) (t':={ t with K:=K',F:=F',pc:=88 }) (pc:=87) (pc':=88) hpc rfl rfl hs rfl rfl rfl (.inl ⟨aL,by decide⟩) G2 KS xu xJ jT IQ ?_ (fun _=>⟨rfl,aL⟩) (Bz X (dG h2) hval Rc Rf) hW ?_ fB (fun e=>absurd e (X.rC (by rw[hpc];decide)))
    ·unfold At
     refine⟨ch,lD _,h2,⟨kW,rR⟩,?_,⟨Rc.symm,Rf.symm⟩,hLk _,h5⟩;show(s2.ol (sn t) .first).length=c.O;rw[j4,hlen];omega
    ·refine zN X (dG h2) KS xu xJ (fun _=>by rw[jM]) Ip ?_
     rw[Io];show 6+cont c s2 t.back t.aB+0+25+_≤aF c st t+_;rw[Fq];unfold aF;omega
   ·have hP2:P=90:=by rw[hP,if_neg hE,if_neg hz]
    rw[hP2]at hs;refine aM.iI X s2 (hx:=none) (px:=none) (t':={ t with K:=K',F:=F',pc:=90 }) (pc:=87) (pc':=90) hpc rfl rfl hs rfl rfl rfl (.inl ⟨aL,by decide⟩) G2 KS xu xJ jT IQ ?_ (fun _=>⟨rfl,aL⟩) (Bz X (dG h2) hval Rc Rf) hW ?_ fB (fun e=>absurd e (X.rC (by rw[hpc];decide)))
    ·unfold At
     refine⟨ch,lD _,h2,⟨kW,rR⟩,?_,fun e => ?_,hLk _,h5⟩
     ·show s2.ol (sn t) .first≠[]
      rw[j4];exact hne
     ·exfalso
      have e4:(s2.ol (sn t) .first).length=c.O:=e;rw[j4,hlen]at e4;omega
    ·refine zN X (dG h2) KS xu xJ (fun _=>by rw[jM]) Ip ?_
     rw[Io];show 5+cont c s2 t.back t.aB+0+25+_≤aF c st t+_;rw[Fq];unfold aF;omega
 ·rw[if_neg hc]at hs
  refine aM.read X (t':={ t with pc:=84 }) (pc:=87) (pc':=84) hpc rfl rfl hs ?_ rfl rfl rfl aL ?_
  ·unfold At
   exact⟨l,ch,h1,h2,h3,h5,h6,⟨_,h7⟩,h8,h9,zV⟩
  ·have:=GU hc rfl (by omega)
   show 34+cont c st t.back t.aB+0+1≤aF c st t;unfold aF;omega
theorem step_ok (X:Cx c mn cp st g k t)(hw:t.want=0):∃ t' g' st',aM c mn cp st g k t t' g' st':=by
 have hA:=X.at_;unfold At at hA;split at hA
 ·exact p0 X (by assumption)
 ·exact p1 X (by assumption)
 ·exact p2 X (by assumption)
 ·exact p3 X (by assumption)
 ·exact p20 X (by assumption)
 ·exact p21 X (by assumption)
 ·exact p22 X (by assumption)
 ·exact p23 X (by assumption)
 ·exact p24 X (by assumption)
 ·exact p30 X (by assumption)
 ·exact p31 X (by assumption)
 ·exact p32 X (by assumption)
 ·exact p33 X (by assumption)
 ·exact p34 X (by assumption)
 ·exact p35 X (by assumption)
 ·exact p36 X (by assumption)
 ·exact p37 X (by assumption)
 ·exact p38 X (by assumption)
 ·exact p39 X (by assumption)
 ·exact p46 X (by assumption)
 ·exact p47 X (by assumption)
 ·exact p48 X (by assumption)
 ·exact p49 X (by assumption)
 ·exact p40 X (by assumption)
 ·exact p41 X (by assumption)
 ·exact p42 X (by assumption)
 ·exact p43 X (by assumption) hw
 ·exact p44 X (by assumption)
 ·exact p10 X (by assumption)
 ·exact p11 X (by assumption)
 ·exact p12 X (by assumption)
 ·exact p13 X (by assumption)
 ·exact p50 X (by assumption)
 ·exact p51 X (by assumption)
 ·exact p52 X (by assumption)
 ·exact p53 X (by assumption)
 ·exact p54 X (by assumption)
 ·exact p55 X (by assumption)
 ·exact p56 X (by assumption)
 ·exact p57 X (by assumption)
 ·exact p58 X (by assumption)
 ·exact p59 X (by assumption)
 ·exact p60 X (by assumption)
 ·exact p61 X (by assumption)
 ·exact p62 X (by assumption)
 ·exact p63 X (by assumption)
 ·exact p64 X (by assumption)
 ·exact p65 X (by assumption)
 ·exact p66 X (by assumption)
 ·exact p67 X (by assumption)
 ·exact p68 X (by assumption)
 ·exact p70 X (by assumption)
 ·exact p71 X (by assumption)
 ·exact p72 X (by assumption)
 ·exact p73 X (by assumption)
 ·exact p74 X (by assumption)
 ·exact p75 X (by assumption)
 ·exact p79 X (by assumption)
 ·exact p80 X (by assumption)
 ·exact p81 X (by assumption)
 ·exact p84 X (by assumption)
 ·exact p85 X (by assumption)
 ·exact p86 X (by assumption)
 ·exact p87 X (by assumption)
 ·exact p88 X (by assumption)
 ·exact p90 X (by assumption)
 ·exact p91 X (by assumption)
 ·exact p92 X (by assumption)
 ·exact p93 X (by assumption)
 ·exact p94 X (by assumption)
 ·exact p76 X (by assumption)
 ·exact p77 X (by assumption)
 ·rw[X.loc.w78 (by assumption)]at hw
  cases hw
 ·exact p95 X (by assumption)
 ·exact p96 X (by assumption)
 ·exact p97 X (by assumption)
 ·exact p98 X (by assumption)
 ·exact p99 X (by assumption)
 ·exact Zub X (by assumption)
 ·exact Zuc X (by assumption)
 ·exact Zud X (by assumption)
 ·exact Zue X (by assumption)
 ·exact hA.elim
end
end Cv
end Go.Proofs.YtfcpdlbkmkhhcaaGreatDoor
