/-
  Texts of this claim, joined. No condition.
-/
import Derived.Test.YtfcpdlbkmkhhcaaGreatDoorCh1
import Derived.Test.YtfcpdlbkmkhhcaaGreatDoorCh27
namespace Go.Proofs.YtfcpdlbkmkhhcaaGreatDoor
set_option maxRecDepth 100000
set_option maxHeartbeats 40000000
namespace Cv
open See Cw
section
variable {c:Ch}{mn cp:Nat}{st st1 st':St}{g g':List Nat}{k:Nat}{t t':Tk}
theorem p0 (X:Cx c mn cp st g k t)(hpc:t.pc=0):∃ t' g' st',aM c mn cp st g k t t' g' st':=by
 have hA:=X.at_;unfold At at hA;rw[hpc]at hA;have ai:=X.aB;have aL:=X.w0 (by omega) (by omega);have hC:=X.C;have hS:=X.S;have hO:=X.O;refine aM.read X (t':={ t with T:=st.ht k,pc:=1 }) (pc:=0) (pc':=1) hpc rfl rfl ?_ ?_ rfl rfl rfl aL ?_
 ·rw[sU (by omega)]
  unfold jq;rw[hpc];exact dM (by rw[ai];exact X.Eh X.kC)
 ·unfold At
  exact⟨hA,Zxt _⟩
 ·unfold aF base pen
  simp[hpc,ai,AA];all_goals (try(repeat' split))<;>omega
theorem p10 (X:Cx c mn cp st g k t)(hpc:t.pc=10):∃ t' g' st',aM c mn cp st g k t t' g' st':=by
 have hA:=X.at_;unfold At at hA;rw[hpc]at hA;have ai:=X.aB;have aL:=X.w0 (by omega) (by omega);have hC:=X.C;have hS:=X.S;have hO:=X.O;obtain⟨h1,h2,h3⟩:=hA;refine aM.read X (t':={ t with T:=st.ht k,pc:=11 }) (pc:=10) (pc':=11) hpc rfl rfl ?_ ?_ rfl rfl rfl aL ?_
 ·rw[sU (by omega)]
  unfold jq;rw[hpc];exact dM (by rw[ai];exact X.Eh X.kC)
 ·unfold At
  exact⟨h1,h2,h3,Zxt _⟩
 ·unfold aF base pen
  simp[hpc,ai];all_goals (try(repeat' split))<;>omega
theorem p1 (X:Cx c mn cp st g k t)(hpc:t.pc=1):∃ t' g' st',aM c mn cp st g k t t' g' st':=by
 have hA:=X.at_;unfold At at hA;rw[hpc]at hA;have ai:=X.aB;have aL:=X.w0 (by omega) (by omega);have hC:=X.C;have hS:=X.S;have hO:=X.O;obtain⟨h1,h2⟩:=hA;have hr:=X.FU X.kC;rw[← ai]at hr;rcases Jw X.I.G k with hn|⟨s,hs⟩
 ·refine aM.read X (t':={ t with H:=hw st k,aA := -1,obj := -1,pc:=30 }) (pc:=1) (pc':=30) hpc rfl rfl ?_ ?_ rfl rfl rfl aL ?_
  ·rw[sU (by omega)]
   unfold jq;rw[hpc];refine(dM hr).trans ?_;rw[ai,GD hn];rfl
  ·unfold At
   exact⟨h1,hn⟩
  ·unfold aF base pen
   simp[hpc,ai,AA];all_goals (try(repeat' split))<;>omega
 ·have tN:=nY X.I.G (x:=.head k) rfl (s:=s) (by rw[hs];exact ZnJ)
  have hh:=QL X.I.G hS.2 hO.2 hO.1 hs;cases fD:st.ol s (.head k) with
  |nil =>
   rw[fD]at hh;refine aM.read X (t':={ t with H:=hw st k,aA:=(s:Int),obj := -1,pc:=20 }) (pc:=1) (pc':=20) hpc rfl rfl ?_ ?_ rfl rfl rfl aL ?_
   ·rw[sU (by omega)]
    unfold jq;rw[hpc];refine(dM hr).trans ?_;rw[ai];refine(Lh hh).trans ?_;rw[if_neg (by omega),dQ (by omega)];rfl
   ·unfold At
    exact⟨h1,⟨by show(0:Int)≤s;omega,by show(s:Int)<c.S;omega⟩,h2,fun _=>⟨rfl,hs,fD⟩⟩
   ·unfold aF base pen
    simp[hpc,ai,AA];all_goals (try(repeat' split))<;>omega
  |cons o r =>
   rw[fD]at hh;have ho:=(ru X.I.G (x:=.head k) (s:=s) (o:=o) rfl (by rw[fD];exact ZnJ)).2;refine aM.read X (t':={ t with H:=hw st k,aA:=(s:Int),obj:=(o:Int),pc:=2 }) (pc:=1) (pc':=2) hpc rfl rfl ?_ ?_ rfl rfl rfl aL ?_
   ·rw[sU (by omega)]
    unfold jq;rw[hpc];refine(dM hr).trans ?_;rw[ai];refine(Lh hh).trans ?_;show(if (s:Int) = -1 then _ else need (0≤(s:Int)∧(s:Int)<c.S) (if (o:Int) = -1 then _ else need (0≤(o:Int)∧(o:Int)<c.O) _))=_;rw[if_neg (by omega),dQ (by omega),if_neg (by omega),dQ (by omega)];rfl
   ·unfold At
    exact⟨h1,⟨by show(0:Int)≤s;omega,by show(s:Int)<c.S;omega⟩,⟨by show(0:Int)≤o;omega,by show(o:Int)<c.O;omega⟩,h2,fun _=>⟨rfl,hs,r,fD⟩⟩
   ·unfold aF base pen
    simp[hpc,ai,AA];all_goals (try(repeat' split))<;>omega
theorem p2 (X:Cx c mn cp st g k t)(hpc:t.pc=2):∃ t' g' st',aM c mn cp st g k t t' g' st':=by
 have hA:=X.at_;unfold At at hA;rw[hpc]at hA;have ai:=X.aB;have aL:=X.w0 (by omega) (by omega);have hC:=X.C;have hS:=X.S;have hO:=X.O;obtain⟨h1,h2,h3,h4⟩:=hA;have hr:=X.Bg (dG h2) (qE h3);by_cases hT:t.T=st.ht k
 ·obtain⟨h5,h6,r,h7⟩:=h4.2 hT
  have hl:=X.I.G.l2 (sn t) k;rw[h7]at hl;have aK:=EL X.I.G (x:=.head k) (s:=sn t) rfl hO.1 (l:=r) (fun o ho=>by rw[h7];exact ZnQ _ ho);have eD:=Dk (l:=r) (e := -1) (by omega);refine aM.read X (t':={ t with last:=gq r (-1),pc:=3 }) (pc:=2) (pc':=3) hpc rfl rfl ?_ ?_ rfl rfl rfl aL ?_
  ·rw[sU (by omega)]
   unfold jq;rw[hpc];refine(fM h2).trans ((pY h3).trans ((dM hr).trans ?_));rw[hl.1,Sv eD (by omega)];exact if_pos aK
  ·unfold At
   exact⟨h1,h2,h3,⟨eD,aK⟩,h4.1,fun _=>⟨h5,h6,r,h7,rfl⟩⟩
  ·unfold aF base pen
   simp[hpc,ai,AA];all_goals (try(repeat' split))<;>omega
 ·cases fE:qG (st.lk (sn t) (on t)) (See.keyOf c.key (sn t)) (on t) with
  |none =>
   refine aM.read X (t':={ t with pc:=0 }) (pc:=2) (pc':=0) hpc rfl rfl ?_ ?_ rfl rfl rfl aL ?_
   ·rw[sU (by omega)]
    unfold jq;rw[hpc];refine(fM h2).trans ((pY h3).trans ((dM hr).trans ?_));rw[fE]
   ·unfold At
    exact h1
   ·unfold aF base pen
    simp[hpc,ai,AA,Ne.symm hT];all_goals (try(repeat' split))<;>omega
  |some y =>
   have hy:=Lu fE;by_cases Xb:y<c.O
   ·refine aM.read X (t':={ t with last:=y,pc:=3 }) (pc:=2) (pc':=3) hpc rfl rfl ?_ ?_ rfl rfl rfl aL ?_
    ·rw[sU (by omega)]
     unfold jq;rw[hpc];refine(fM h2).trans ((pY h3).trans ((dM hr).trans ?_));rw[fE];exact if_pos Xb
    ·unfold At
     exact⟨h1,h2,h3,⟨hy.1,Xb⟩,h4.1,fun e=>absurd e hT⟩
    ·unfold aF base pen
     simp[hpc,ai,AA];all_goals (try(repeat' split))<;>omega
   ·refine aM.read X (t':={ t with pc:=0 }) (pc:=2) (pc':=0) hpc rfl rfl ?_ ?_ rfl rfl rfl aL ?_
    ·rw[sU (by omega)]
     unfold jq;rw[hpc];refine(fM h2).trans ((pY h3).trans ((dM hr).trans ?_));rw[fE];exact if_neg Xb
    ·unfold At
     exact h1
    ·unfold aF base pen
     simp[hpc,ai,AA,Ne.symm hT];all_goals (try(repeat' split))<;>omega
theorem p11 (X:Cx c mn cp st g k t)(hpc:t.pc=11):∃ t' g' st',aM c mn cp st g k t t' g' st':=by
 have hA:=X.at_;unfold At at hA;rw[hpc]at hA;have ai:=X.aB;have aL:=X.w0 (by omega) (by omega);have hC:=X.C;have hS:=X.S;have hO:=X.O;obtain⟨h1,h2,h3,h4⟩:=hA;have hr:=X.FU X.kC;rw[← ai]at hr;have bC:=h2.1;have hS0:=hS.1;rcases Jw X.I.G k with hn|⟨s,hs⟩
 ·refine aM.read X (t':={ t with H:=hw st k,pc:=50 }) (pc:=11) (pc':=50) hpc rfl rfl ?_ ?_ rfl rfl rfl aL ?_
  ·rw[sU (by omega)]
   unfold jq;rw[hpc];refine(dM hr).trans ?_;rw[ai,GD hn];show need ((-1:Int)<c.S∧(-1:Int)<c.O) (if (-1:Int)=t.aA then _ else _)=_;rw[dQ (by omega),if_neg (by omega)]
  ·unfold At
   exact⟨h1,h2,h3⟩
  ·unfold aF base pen
   simp[hpc,ai];all_goals (try(repeat' split))<;>omega
 ·have tN:=nY X.I.G (x:=.head k) rfl (s:=s) (by rw[hs];exact ZnJ)
  have hh:=QL X.I.G hS.2 hO.2 hO.1 hs;have aK:=EL X.I.G (x:=.head k) (s:=s) rfl hO.1 (l:=st.ol s (.head k)) (fun _ h=>h);have eD:=Dk (l:=st.ol s (.head k)) (e := -1) (by omega);by_cases he:(s:Int)=t.aA
  ·have wm:s=sn t:=by
    unfold sn;omega
   refine aM.read X (t':={ t with H:=hw st k,last:=gq (st.ol s (.head k)) (-1),pc:=12 }) (pc:=11) (pc':=12) hpc rfl rfl ?_ ?_ rfl rfl rfl aL ?_
   ·rw[sU (by omega)]
    unfold jq;rw[hpc];refine(dM hr).trans ?_;rw[ai];refine(Lh hh).trans ?_;rw[dQ (by omega),if_pos he]
   ·unfold At
    exact⟨h1,h2,h3,⟨eD,aK⟩,h4,fun _=>⟨rfl,by rw[hs,wm],by rw[wm]⟩⟩
   ·unfold aF base pen
    simp[hpc,ai];all_goals (try(repeat' split))<;>omega
  ·refine aM.read X (t':={ t with H:=hw st k,pc:=50 }) (pc:=11) (pc':=50) hpc rfl rfl ?_ ?_ rfl rfl rfl aL ?_
   ·rw[sU (by omega)]
    unfold jq;rw[hpc];refine(dM hr).trans ?_;rw[ai];refine(Lh hh).trans ?_;rw[dQ (by omega),if_neg he]
   ·unfold At
    exact⟨h1,h2,h3⟩
   ·unfold aF base pen
    simp[hpc,ai];all_goals (try(repeat' split))<;>omega
theorem p21 (X:Cx c mn cp st g k t)(hpc:t.pc=21):∃ t' g' st',aM c mn cp st g k t t' g' st':=by
 have hA:=X.at_;unfold At at hA;rw[hpc]at hA;have ai:=X.aB;have aL:=X.w0 (by omega) (by omega);have hC:=X.C;have hS:=X.S;have hO:=X.O;obtain⟨h1,h2,h3,h4⟩:=hA;have hF:=Ml X.I.G (sn t);refine aM.read X (t':={ t with F:=fr st (sn t),pc:=22 }) (pc:=21) (pc':=22) hpc rfl rfl ?_ ?_ rfl rfl rfl aL ?_
 ·rw[jV (by omega) (by omega)]
  unfold dD;rw[hpc];refine(fM h2).trans ((dM (X.xU (dG h2))).trans ?_);rw[dQ hF]
 ·unfold At
  exact⟨h1,h2,h3,h4,hF⟩
 ·unfold aF base pen
  simp[hpc,ai,AA];all_goals (try(repeat' split))<;>omega
theorem p22 (X:Cx c mn cp st g k t)(hpc:t.pc=22):∃ t' g' st',aM c mn cp st g k t t' g' st':=by
 have hA:=X.at_;unfold At at hA;rw[hpc]at hA;have ai:=X.aB;have aL:=X.w0 (by omega) (by omega);have hC:=X.C;have hS:=X.S;have hO:=X.O;obtain⟨h1,h2,h3,h4,h5⟩:=hA;have qL:=vL (c:=c) h3.1 h3.2;have hr:=X.vw (dG h2);by_cases hF:t.F=0
 ·refine aM.read X (t':={ t with K:=ct c st (sn t),pc:=24 }) (pc:=22) (pc':=24) hpc rfl rfl ?_ ?_ rfl rfl rfl aL ?_
  ·rw[jV (by omega) (by omega)]
   unfold dD;rw[hpc];refine(fM h2).trans ((dM hr).trans ?_);rw[qL];refine(o8 (by omega) hO.1 hO.2).trans ?_;rw[dQ rfl,if_pos hF]
  ·unfold At
   exact⟨h1,h2,h3,h4,hF,_,_,qL,by omega,rfl⟩
  ·unfold aF base pen
   simp[hpc,ai,AA];all_goals (try(repeat' split))<;>omega
 ·refine aM.read X (t':={ t with K:=ct c st (sn t),pc:=23 }) (pc:=22) (pc':=23) hpc rfl rfl ?_ ?_ rfl rfl rfl aL ?_
  ·rw[jV (by omega) (by omega)]
   unfold dD;rw[hpc];refine(fM h2).trans ((dM hr).trans ?_);rw[qL];refine(o8 (by omega) hO.1 hO.2).trans ?_;rw[dQ rfl,if_neg hF]
  ·unfold At
   exact⟨h1,h2,h3,h4,⟨by show 1≤t.F;omega,h5⟩,_,_,qL,by omega,rfl⟩
  ·unfold aF base pen
   simp[hpc,ai,AA];all_goals (try(repeat' split))<;>omega
theorem p30 (X:Cx c mn cp st g k t)(hpc:t.pc=30):∃ t' g' st',aM c mn cp st g k t t' g' st':=by
 have hA:=X.at_;unfold At at hA;rw[hpc]at hA;have ai:=X.aB;have aL:=X.w0 (by omega) (by omega);have hC:=X.C;have hS:=X.S;have hO:=X.O;obtain⟨h1,h2⟩:=hA;refine aM.read X (t':={ t with T:=st.pt k,pc:=31 }) (pc:=30) (pc':=31) hpc rfl rfl ?_ ?_ rfl rfl rfl aL ?_
 ·rw[jV (by omega) (by omega)]
  unfold dD;rw[hpc];exact dM (by rw[ai];exact X.Kt X.kC)
 ·unfold At
  exact⟨h1,h2,Zxt _⟩
 ·unfold aF base pen
  simp[hpc,ai,AA];all_goals (try(repeat' split))<;>omega
theorem p31 (X:Cx c mn cp st g k t)(hpc:t.pc=31):∃ t' g' st',aM c mn cp st g k t t' g' st':=by
 have hA:=X.at_;unfold At at hA;rw[hpc]at hA;have ai:=X.aB;have aL:=X.w0 (by omega) (by omega);have hC:=X.C;have hS:=X.S;have hO:=X.O;obtain⟨h1,h2,h3⟩:=hA;have hr:=X.Kr X.kC;rw[← ai]at hr;obtain⟨hl,hb⟩:=Lr X k;cases hP:st.sl (.part k) with
 |nil =>
  refine aM.read X (t':={ t with N:=0,pc:=34 }) (pc:=31) (pc':=34) hpc rfl rfl ?_ ?_ rfl rfl rfl aL ?_
  ·rw[jV (by omega) (by omega)]
   unfold dD;rw[hpc];refine(dM hr).trans ?_;rw[ai,hP];rfl
  ·unfold At
   exact⟨h1,h2⟩
  ·unfold aF base pen
   simp[hpc,ai,AA];all_goals (try(repeat' split))<;>omega
 |cons s r =>
  have hs:=nY X.I.G (x:=.part k) rfl (s:=s) (by rw[hP];exact ZnJ);refine aM.read X (t':={ t with N:=pw (st.sl (.part k)),aA:=(s:Int),pc:=32 }) (pc:=31) (pc':=32) hpc rfl rfl ?_ ?_ rfl rfl rfl aL ?_
  ·rw[jV (by omega) (by omega)]
   unfold dD;rw[hpc];refine(dM hr).trans ?_;rw[ai];refine(Jg hb hl).trans ?_;rw[hP];show(if (s:Int) = -1 then _ else need (0≤(s:Int)∧(s:Int)<c.S) _)=_;rw[if_neg (by omega),dQ (by omega)];rfl
  ·unfold At
   exact⟨h1,h2,⟨by show(0:Int)≤s;omega,by show(s:Int)<c.S;omega⟩,h3,fun _=>⟨rfl,r,hP⟩⟩
  ·unfold aF base pen
   simp[hpc,ai,AA];all_goals (try(repeat' split))<;>omega
end
end Cv
namespace Cv
open See Cw
section
variable {c:Ch}{mn cp:Nat}{st st1 st':St}{g g':List Nat}{k:Nat}{t t':Tk}
theorem p32 (X:Cx c mn cp st g k t)(hpc:t.pc=32):∃ t' g' st',aM c mn cp st g k t t' g' st':=by
 have hA:=X.at_;unfold At at hA;rw[hpc]at hA;have ai:=X.aB;have aL:=X.w0 (by omega) (by omega);have hC:=X.C;have hS:=X.S;have hO:=X.O;obtain⟨h1,h2,h3,h4⟩:=hA;have hr:=X.yR (dG h3);have hb:=X.I.G.Ko (sn t);by_cases hT:t.T=st.pt k
 ·obtain⟨h5,r,h6⟩:=h4.2 hT
  obtain⟨hl,Cq⟩:=Lr X k;rw[h6]at hl Cq;have hc:=(X.I.G.cP k).1;rw[h6]at hc;have hp:=Li (l:=r) (fun s hs=>Cq s (ZnQ _ hs)) (by simp at hl;omega);have aK:gq r (-1)<c.S:=by
   cases r with
   |nil =>
    show(-1:Int)<c.S;omega
   |cons a r =>
    have:=nY X.I.G (x:=.part k) rfl (s:=a) (by rw[h6];simp);show(a:Int)<c.S;omega
  refine aM.read X (t':={ t with F:=st.nx (sn t),pc:=33 }) (pc:=32) (pc':=33) hpc rfl rfl ?_ ?_ rfl rfl rfl aL ?_
  ·rw[jV (by omega) (by omega)]
   unfold dD;rw[hpc];refine(fM h3).trans ((dM hr).trans ?_);rw[hc.1,hp];exact if_pos aK
  ·unfold At
   exact⟨h1,h2,h3,hb,h4.1,fun _=>⟨h5,r,h6,hc.1⟩⟩
  ·unfold aF base pen
   simp[hpc,ai,AA];all_goals (try(repeat' split))<;>omega
 ·cases hp:partOf (st.nx (sn t)) with
  |none =>
   refine aM.read X (t':={ t with pc:=30 }) (pc:=32) (pc':=30) hpc rfl rfl ?_ ?_ rfl rfl rfl aL ?_
   ·rw[jV (by omega) (by omega)]
    unfold dD;rw[hpc];refine(fM h3).trans ((dM hr).trans ?_);rw[hp]
   ·unfold At
    exact⟨h1,h2⟩
   ·unfold aF base pen
    simp[hpc,ai,AA,Ne.symm hT];all_goals (try(repeat' split))<;>omega
  |some ab =>
   obtain⟨a,b⟩:=ab;by_cases ha:a<c.S
   ·refine aM.read X (t':={ t with F:=st.nx (sn t),pc:=33 }) (pc:=32) (pc':=33) hpc rfl rfl ?_ ?_ rfl rfl rfl aL ?_
    ·rw[jV (by omega) (by omega)]
     unfold dD;rw[hpc];refine(fM h3).trans ((dM hr).trans ?_);rw[hp];exact if_pos ha
    ·unfold At
     exact⟨h1,h2,h3,hb,h4.1,fun e=>absurd e hT⟩
    ·unfold aF base pen
     simp[hpc,ai,AA];all_goals (try(repeat' split))<;>omega
   ·refine aM.read X (t':={ t with pc:=30 }) (pc:=32) (pc':=30) hpc rfl rfl ?_ ?_ rfl rfl rfl aL ?_
    ·rw[jV (by omega) (by omega)]
     unfold dD;rw[hpc];refine(fM h3).trans ((dM hr).trans ?_);rw[hp];exact if_neg ha
    ·unfold At
     exact⟨h1,h2⟩
    ·unfold aF base pen
     simp[hpc,ai,AA,Ne.symm hT];all_goals (try(repeat' split))<;>omega
theorem p35 (X:Cx c mn cp st g k t)(hpc:t.pc=35):∃ t' g' st',aM c mn cp st g k t t' g' st':=by
 have hA:=X.at_;unfold At at hA;rw[hpc]at hA;have ai:=X.aB;have aL:=X.w0 (by omega) (by omega);have hC:=X.C;have hS:=X.S;have hO:=X.O;obtain⟨h1,h2,h3⟩:=hA;have hr:=X.Dm;cases hP:st.sl .shelf with
 |nil =>
  refine aM.read X (t':={ t with N:=0,pc:=36 }) (pc:=35) (pc':=36) hpc rfl rfl ?_ ?_ rfl rfl rfl aL ?_
  ·rw[jV (by omega) (by omega)]
   unfold dD;rw[hpc];refine(dM hr).trans ?_;rw[hP];exact dQ (ZxV _)
  ·unfold At
   exact⟨h1,h2,h3⟩
  ·unfold aF base pen
   simp[hpc,AA];all_goals (try(repeat' split))<;>omega
 |cons s r =>
  have hs:=Ji X.I.G (p:=[]) hP;refine aM.read X (t':={ t with N:=s+1,aA:=(s:Int),pc:=37 }) (pc:=35) (pc':=37) hpc rfl rfl ?_ ?_ rfl rfl rfl aL ?_
  ·rw[jV (by omega) (by omega)]
   unfold dD;rw[hpc];refine(dM hr).trans ?_;rw[hP];show need (s+1≤c.S) (if s+1=0 then _ else some ({ t with N:=s+1,aA:=((s+1:Nat):Int) - 1,pc:=37 },g))=_;rw[dQ (by omega),if_neg (by omega),show(((s+1:Nat):Int) - 1)=(s:Int) by omega]
  ·unfold At
   exact⟨h1,h2,h3,⟨by show(0:Int)≤s;omega,by show(s:Int)<c.S;omega⟩,r,hP⟩
  ·unfold aF base pen
   simp[hpc,AA];all_goals (try(repeat' split))<;>omega
theorem p37 (X:Cx c mn cp st g k t)(hpc:t.pc=37):∃ t' g' st',aM c mn cp st g k t t' g' st':=by
 have hA:=X.at_;unfold At at hA;rw[hpc]at hA;have ai:=X.aB;have aL:=X.w0 (by omega) (by omega);have hC:=X.C;have hS:=X.S;have hO:=X.O;obtain⟨h1,h2,h3,h4,r,h5⟩:=hA;have fE:=yh (p:=[]) X.I.G h5;have h6:=(X.I.G.shelf _ fE).2 (by rw[h3.cut];intro e;cases e);have hF:=Ml X.I.G (sn t);have hF1:=Zsy h6.2;refine aM.read X (t':={ t with F:=fr st (sn t),pc:=38 }) (pc:=37) (pc':=38) hpc rfl rfl ?_ ?_ rfl rfl rfl aL ?_
 ·rw[jV (by omega) (by omega)]
  unfold dD;rw[hpc];refine(fM h4).trans ((dM (X.xU (dG h4))).trans ?_);rw[dQ ⟨hF1,hF⟩]
 ·unfold At
  exact⟨h1,h2,h3,h4,⟨r,h5⟩,hF1,hF⟩
 ·unfold aF base pen
  simp[hpc,ai];all_goals (try(repeat' split))<;>omega
theorem p38 (X:Cx c mn cp st g k t)(hpc:t.pc=38):∃ t' g' st',aM c mn cp st g k t t' g' st':=by
 have hA:=X.at_;unfold At at hA;rw[hpc]at hA;have ai:=X.aB;have aL:=X.w0 (by omega) (by omega);have hC:=X.C;have hS:=X.S;have hO:=X.O;obtain⟨h1,h2,h3,h4,⟨r,h5⟩,h6,h7⟩:=hA;have fE:=yh (p:=[]) X.I.G h5;obtain⟨h8,h9⟩:=X.I.G.shelf _ fE;have h9:=h9 (by rw[h3.cut];intro e;cases e);have qL:=vL (c:=c) h8 h9.1;refine aM.read X (t':={ t with K:=ct c st (sn t),pc:=39 }) (pc:=38) (pc':=39) hpc rfl rfl ?_ ?_ rfl rfl rfl aL ?_
 ·rw[jV (by omega) (by omega)]
  unfold dD;rw[hpc];refine(fM h4).trans ((dM (X.vw (dG h4))).trans ?_);rw[qL];refine(o8 (by omega) hO.1 hO.2).trans ?_;rw[dQ rfl]
 ·unfold At
  exact⟨h1,h2,h3,h4,⟨r,h5⟩,⟨h6,h7⟩,_,_,qL,by omega,rfl⟩
 ·unfold aF base pen
  simp[hpc,ai];all_goals (try(repeat' split))<;>omega
theorem p40 (X:Cx c mn cp st g k t)(hpc:t.pc=40):∃ t' g' st',aM c mn cp st g k t t' g' st':=by
 have hA:=X.at_;unfold At at hA;rw[hpc]at hA;have ai:=X.aB;have aL:=X.w0 (by omega) (by omega);have hC:=X.C;have hS:=X.S;have hO:=X.O;obtain⟨⟨l,h1,h2⟩,h3,h4,h5,h6⟩:=hA;have aK:gq l (-1)<c.O:=EL X.I.G (x:=.aU k) (s:=sn t) rfl hO.1 (fun o ho=>by rw[h1.at_];exact ZnQ _ ho);have eD:=Dk (l:=l) (e := -1) (by omega);refine aM.read X (t':={ t with last:=gq l (-1),pc:=41 }) (pc:=40) (pc':=41) hpc rfl rfl ?_ ?_ rfl rfl rfl aL ?_
 ·rw[jV (by omega) (by omega)]
  unfold dD;rw[hpc];refine(fM h4).trans ((pY h5).trans ((dM (X.Bg (dG h4) (qE h5))).trans ?_));rw[h2.1,Sv eD (by omega)];exact dQ aK
 ·unfold At
  exact⟨⟨l,h1,h2,rfl⟩,h3,h4,h5,h6⟩
 ·unfold aF base pen
  simp[hpc];all_goals (try(repeat' split))<;>omega
theorem p41 (X:Cx c mn cp st g k t)(hpc:t.pc=41):∃ t' g' st',aM c mn cp st g k t t' g' st':=by
 have hA:=X.at_;unfold At at hA;rw[hpc]at hA;have ai:=X.aB;have aL:=X.w0 (by omega) (by omega);have hC:=X.C;have hS:=X.S;have hO:=X.O;obtain⟨⟨l,h1,h2,h7⟩,h3,h4,h5,h6⟩:=hA;refine aM.read X (t':={ t with T:=st.ht k,pc:=42 }) (pc:=41) (pc':=42) hpc rfl rfl ?_ ?_ rfl rfl rfl aL ?_
 ·rw[jV (by omega) (by omega)]
  unfold dD;rw[hpc];exact dM (by rw[ai];exact X.Eh X.kC)
 ·unfold At
  exact⟨⟨l,h1,h2,h7⟩,h3,h4,h5,h6,Zxt _⟩
 ·unfold aF base pen
  simp[hpc,ai];all_goals (try(repeat' split))<;>omega
theorem p46 (X:Cx c mn cp st g k t)(hpc:t.pc=46):∃ t' g' st',aM c mn cp st g k t t' g' st':=by
 have hA:=X.at_;unfold At at hA;rw[hpc]at hA;have ai:=X.aB;have aL:=X.w0 (by omega) (by omega);have hC:=X.C;have hS:=X.S;have hO:=X.O;obtain⟨h1,h3,h4,h5,h6,⟨r,h7⟩,h8⟩:=hA;have hc:=X.I.G.cS;rw[h7]at hc;have iF:=Mm X.I.G (q:=r) (fun s hs=>by rw[h7];exact ZnQ _ hs);refine aM.read X (t':={ t with N:=sw r,pc:=47 }) (pc:=46) (pc':=47) hpc rfl rfl ?_ ?_ rfl rfl rfl aL ?_
 ·rw[jV (by omega) (by omega)]
  unfold dD;rw[hpc];refine(fM h4).trans ((dM (X.yR (dG h4))).trans ?_);rw[hc.1];exact dQ iF
 ·unfold At
  exact⟨h1,h3,h4,h5,h6,⟨r,h7,rfl⟩,h8⟩
 ·unfold aF base pen
  simp[hpc];all_goals (try(repeat' split))<;>omega
theorem p50 (X:Cx c mn cp st g k t)(hpc:t.pc=50):∃ t' g' st',aM c mn cp st g k t t' g' st':=by
 have hA:=X.at_;unfold At at hA;rw[hpc]at hA;have ai:=X.aB;have aL:=X.w0 (by omega) (by omega);have hC:=X.C;have hS:=X.S;have hO:=X.O;obtain⟨h1,h2,h3⟩:=hA;have hF:=Ml X.I.G (sn t);refine aM.read X (t':={ t with F:=fr st (sn t),pc:=51 }) (pc:=50) (pc':=51) hpc rfl rfl ?_ ?_ rfl rfl rfl aL ?_
 ·rw[kZ (by omega) (by omega)]
  unfold dZ;rw[hpc];refine(fM h2).trans ((dM (X.xU (dG h2))).trans ?_);rw[dQ hF]
 ·unfold At
  exact⟨h1,h2,h3,hF⟩
 ·unfold aF base pen
  simp[hpc,ai];all_goals (try(repeat' split))<;>omega
theorem p51 (X:Cx c mn cp st g k t)(hpc:t.pc=51):∃ t' g' st',aM c mn cp st g k t t' g' st':=by
 have hA:=X.at_;unfold At at hA;rw[hpc]at hA;have ai:=X.aB;have aL:=X.w0 (by omega) (by omega);have hC:=X.C;have hS:=X.S;have hO:=X.O;obtain⟨h1,h2,h3,h4⟩:=hA;have ic:=PM X.I.G (h1.loc X.I.G (o:=on t) (by simp)) h1.ms;have qL:=vL (c:=c) ic rfl;have Cr:=Jc X.I.G h1.at_;simp only[Zx5]at Cr;refine aM.read X (t':={ t with K:=ct c st (sn t),pc:=52 }) (pc:=51) (pc':=52) hpc rfl rfl ?_ ?_ rfl rfl rfl aL ?_
 ·rw[kZ (by omega) (by omega)]
  unfold dZ;rw[hpc];refine(fM h2).trans ((dM (X.vw (dG h2))).trans ?_);rw[qL];refine(o8 (by omega) hO.1 hO.2).trans ?_;rw[dQ (by omega)]
 ·unfold At
  exact⟨h1,h2,h3,h4,_,_,qL,by omega,by omega⟩
 ·unfold aF base pen
  simp[hpc,ai];all_goals (try(repeat' split))<;>omega
end
end Cv
namespace Cv
open See Cw
section
variable {c:Ch}{mn cp:Nat}{st st1 st':St}{g g':List Nat}{k:Nat}{t t':Tk}
theorem p58 (X:Cx c mn cp st g k t)(hpc:t.pc=58):∃ t' g' st',aM c mn cp st g k t t' g' st':=by
 have hA:=X.at_;unfold At at hA;rw[hpc]at hA;have ai:=X.aB;have aL:=X.w0 (by omega) (by omega);have hC:=X.C;have hS:=X.S;have hO:=X.O;obtain⟨h1,h2,h3,h4,h5,h6⟩:=hA;have hh:=h6.held;by_cases hm:mn<st.held
 ·refine aM.read X (t':={ t with pc:=64 }) (pc:=58) (pc':=64) hpc rfl rfl ?_ ?_ rfl rfl rfl aL ?_
  ·rw[kZ (by omega) (by omega)]
   unfold dZ;rw[hpc];exact(dM X.yD).trans (if_pos hm)
  ·unfold At
   exact⟨h1,h2,h3,h4,h5,h6⟩
  ·unfold aF base pen
   simp[hpc];all_goals (try(repeat' split))<;>omega
 ·refine aM.read X (t':={ t with pc:=59 }) (pc:=58) (pc':=59) hpc rfl rfl ?_ ?_ rfl rfl rfl aL ?_
  ·rw[kZ (by omega) (by omega)]
   unfold dZ;rw[hpc];exact(dM X.yD).trans (if_neg hm)
  ·unfold At
   exact⟨h1,h6.hold,h6.cut,h6.held,by have:lT c st≤(st.sl .shelf).length:=List.countP_le_length;omega⟩
  ·unfold aF base pen
   simp[hpc];all_goals (try(repeat' split))<;>omega
theorem p60 (X:Cx c mn cp st g k t)(hpc:t.pc=60):∃ t' g' st',aM c mn cp st g k t t' g' st':=by
 have hA:=X.at_;unfold At at hA;rw[hpc]at hA;have ai:=X.aB;have aL:=X.w0 (by omega) (by omega);have hC:=X.C;have hS:=X.S;have hO:=X.O;obtain⟨h1,h2,h3⟩:=hA;refine aM.read X (t':={ t with T:=st.pt k,pc:=61 }) (pc:=60) (pc':=61) hpc rfl rfl ?_ ?_ rfl rfl rfl aL ?_
 ·rw[kZ (by omega) (by omega)]
  unfold dZ;rw[hpc];exact dM (by rw[ai];exact X.Kt X.kC)
 ·unfold At
  exact⟨h1,h2,h3,Zxt _⟩
 ·unfold aF base pen
  simp[hpc,ai];all_goals (try(repeat' split))<;>omega
theorem p61 (X:Cx c mn cp st g k t)(hpc:t.pc=61):∃ t' g' st',aM c mn cp st g k t t' g' st':=by
 have hA:=X.at_;unfold At at hA;rw[hpc]at hA;have ai:=X.aB;have aL:=X.w0 (by omega) (by omega);have hC:=X.C;have hS:=X.S;have hO:=X.O;obtain⟨h1,h2,h3,h4⟩:=hA;have hr:=X.Kr X.kC;rw[← ai]at hr;obtain⟨hl,hb⟩:=Lr X k;have aK:gq (st.sl (.part k)) (-1)<c.S:=by
  cases hP:st.sl (.part k) with
  |nil =>
   show(-1:Int)<c.S;omega
  |cons a r =>
   have:=nY X.I.G (x:=.part k) rfl (s:=a) (by rw[hP];simp);show(a:Int)<c.S;omega
 by_cases bN:((st.sl (.part k)).length:Int)<cp
 ·refine aM.read X (t':={ t with N:=pw (st.sl (.part k)),pc:=62 }) (pc:=61) (pc':=62) hpc rfl rfl ?_ ?_ rfl rfl rfl aL ?_
  ·rw[kZ (by omega) (by omega)]
   unfold dZ;rw[hpc];refine(dM hr).trans ?_;rw[ai];refine(Jg hb hl).trans ?_;rw[dQ aK,if_pos bN]
  ·unfold At
   exact⟨h1,h2,h3,⟨_,_,Li hb hl,aK,bN⟩,h4,fun _=>rfl⟩
  ·unfold aF base pen
   simp[hpc,ai];all_goals (try(repeat' split))<;>omega
 ·refine aM.read X (t':={ t with N:=pw (st.sl (.part k)),obj := -1,many:=0,back:=0,pc:=80 }) (pc:=61) (pc':=80) hpc rfl rfl ?_ ?_ rfl rfl rfl aL ?_
  ·rw[kZ (by omega) (by omega)]
   unfold dZ;rw[hpc];refine(dM hr).trans ?_;rw[ai];refine(Jg hb hl).trans ?_;rw[dQ aK,if_neg bN]
  ·unfold At
   exact⟨[],[],h1,h2,h3,rfl,.inl ⟨rfl,rfl⟩,rfl,trivial⟩
  ·unfold aF base pen
   simp[hpc,ai,cont];all_goals (try(repeat' split))<;>omega
theorem p64 (X:Cx c mn cp st g k t)(hpc:t.pc=64):∃ t' g' st',aM c mn cp st g k t t' g' st':=by
 have hA:=X.at_;unfold At at hA;rw[hpc]at hA;have ai:=X.aB;have aL:=X.w0 (by omega) (by omega);have hC:=X.C;have hS:=X.S;have hO:=X.O;obtain⟨h1,h2,h3,h4,h5,h6⟩:=hA;have hm:=(X.I.G.sm .shelf rfl (sn t)).2 h3;have oM:=Dt h2;have pR:=X.I.G.sd .shelf rfl;cases hP:st.sl .shelf with
 |nil =>
  rw[hP]at hm;cases hm
 |cons a q =>
  rw[hP]at hm;have ha:=Ji X.I.G (p:=[]) hP;by_cases he:a=sn t
  ·refine aM.read X (t':={ t with bS := -1,pc:=66 }) (pc:=64) (pc':=66) hpc rfl rfl ?_ ?_ rfl rfl rfl aL ?_
   ·rw[kZ (by omega) (by omega)]
    unfold dZ;rw[hpc];refine(fM h2).trans ((dM X.Dm).trans ?_);rw[hP];show need (1≤a+1∧a+1≤c.S) (if a+1=sn t+1 then _ else _)=_;rw[dQ (by omega),if_pos (by omega)]
   ·unfold At
    exact⟨h1,h2,h3,h4,h5,h6,[],q,by rw[hP,he];rfl,rfl⟩
   ·unfold aF base pen
    simp[hpc];all_goals (try(repeat' split))<;>omega
  ·refine aM.read X (t':={ t with bS:=(a:Int),pc:=65 }) (pc:=64) (pc':=65) hpc rfl rfl ?_ ?_ rfl rfl rfl aL ?_
   ·rw[kZ (by omega) (by omega)]
    unfold dZ;rw[hpc];refine(fM h2).trans ((dM X.Dm).trans ?_);rw[hP];show need (1≤a+1∧a+1≤c.S) (if a+1=sn t+1 then _ else some ({ t with bS:=((a+1:Nat):Int) - 1,pc:=65 },g))=_;rw[dQ (by omega),if_neg (by omega),show(((a+1:Nat):Int) - 1)=(a:Int) by omega]
   ·unfold At
    exact⟨h1,h2,h3,h4,h5,h6,by show(0:Int)≤a;omega,[],q,by rw[hP];rfl,by rcases List.mem_cons.1 hm with e|e;exact absurd e.symm he;exact e⟩
   ·unfold aF base pen
    simp[hpc,ai];all_goals (try(repeat' split))<;>omega
theorem p65 (X:Cx c mn cp st g k t)(hpc:t.pc=65):∃ t' g' st',aM c mn cp st g k t t' g' st':=by
 have hA:=X.at_;unfold At at hA;rw[hpc]at hA;have ai:=X.aB;have aL:=X.w0 (by omega) (by omega);have hC:=X.C;have hS:=X.S;have hO:=X.O;obtain⟨h1,h2,h3,h4,h5,h6,h7,p,q,h8,h9⟩:=hA;have hc:=Mc (X.I.G.cS |> (h8 ▸ ·));have hS2:=Ji X.I.G h8;have jZ:=X.I.G.sd .shelf rfl;have hlen:=Gi X.I.G;have sD:0≤t.bS∧t.bS<c.S:=by omega
 cases q with
 |nil=>cases h9
 |cons a q =>
  have Q9:st.sl .shelf=(p++[t.bS.toNat])++a::q:=by
   rw[h8];simp
  have ha:=Ji X.I.G Q9;have pG:(st.sl .shelf).idxOf t.bS.toNat=p.length:=by
   rw[h8]at jZ ⊢;exact LC jZ
  by_cases he:a=sn t
  ·refine aM.read X (t':={ t with pc:=66 }) (pc:=65) (pc':=66) hpc rfl rfl ?_ ?_ rfl rfl rfl aL ?_
   ·rw[kZ (by omega) (by omega)]
    unfold dZ;rw[hpc];refine(fM h2).trans ((dQ sD).trans ((dM (X.yR hS2)).trans ?_));rw[hc];show need (1≤a+1∧a+1≤c.S) (if a+1=sn t+1 then _ else _)=_;rw[dQ (by omega),if_pos (by omega)]
   ·unfold At
    exact⟨h1,h2,h3,h4,h5,h6,_,q,by rw[Q9,he],by rw[Ye];show t.bS=_;omega⟩
   ·unfold aF base pen
    simp[hpc];all_goals (try(repeat' split))<;>omega
  ·have jy:(st.sl .shelf).idxOf a=p.length+1:=by
    rw[Q9]at jZ ⊢;rw[LC jZ];simp
   have D7:p.length+1<c.S:=by
    rw[h8]at hlen;simp at hlen;omega
   refine aM.read X (t':={ t with bS:=(a:Int),pc:=65 }) (pc:=65) (pc':=65) hpc rfl rfl ?_ ?_ rfl rfl rfl aL ?_
   ·rw[kZ (by omega) (by omega)]
    unfold dZ;rw[hpc];refine(fM h2).trans ((dQ sD).trans ((dM (X.yR hS2)).trans ?_));rw[hc];show need (1≤a+1∧a+1≤c.S) (if a+1=sn t+1 then _ else some ({ t with bS:=((a+1:Nat):Int) - 1,pc:=65 },g))=_;rw[dQ (by omega),if_neg (by omega),show(((a+1:Nat):Int) - 1)=(a:Int) by omega]
   ·unfold At
    exact⟨h1,h2,h3,h4,h5,h6,by show(0:Int)≤a;omega,_,q,Q9,by rcases List.mem_cons.1 h9 with e|e;exact absurd e.symm he;exact e⟩
   ·unfold aF base pen
    simp[hpc,ai,Bf,h6.hold,pG,jy];all_goals (try(repeat' split))<;>omega
theorem p66 (X:Cx c mn cp st g k t)(hpc:t.pc=66):∃ t' g' st',aM c mn cp st g k t t' g' st':=by
 have hA:=X.at_;unfold At at hA;rw[hpc]at hA;have ai:=X.aB;have aL:=X.w0 (by omega) (by omega);have hC:=X.C;have hS:=X.S;have hO:=X.O;obtain⟨h1,h2,h3,h4,h5,h6,p,q,h7,h8⟩:=hA;have hc:=Mc (X.I.G.cS |> (h7 ▸ ·));have iF:=Mm X.I.G (q:=q) (fun s hs=>by rw[h7];simp[hs]);refine aM.read X (t':={ t with N:=sw q,pc:=67 }) (pc:=66) (pc':=67) hpc rfl rfl ?_ ?_ rfl rfl rfl aL ?_
 ·rw[kZ (by omega) (by omega)]
  unfold dZ;rw[hpc];refine(fM h2).trans ((dM (X.yR (dG h2))).trans ?_);rw[hc];exact dQ iF
 ·unfold At
  exact⟨h1,h2,h3,h4,h5,h6,p,q,h7,h8,rfl⟩
 ·unfold aF base pen
  simp[hpc];all_goals (try(repeat' split))<;>omega
theorem p70 (X:Cx c mn cp st g k t)(hpc:t.pc=70):∃ t' g' st',aM c mn cp st g k t t' g' st':=by
 have hA:=X.at_;unfold At at hA;rw[hpc]at hA;have ai:=X.aB;have aL:=X.w0 (by omega) (by omega);have hC:=X.C;have hS:=X.S;have hO:=X.O;obtain⟨h1,h2⟩:=hA;have hf:t.for_.toNat<c.C:=by
  have:=h2.1;have:=h2.2;omega
 refine aM.read X (t':={ t with T:=st.ht t.for_.toNat,pc:=71 }) (pc:=70) (pc':=71) hpc rfl rfl ?_ ?_ rfl rfl rfl aL ?_
 ·rw[iP (by omega)]
  unfold bG;rw[hpc];exact(dQ (show 0≤t.for_∧t.for_<c.C from h2)).trans (dM (X.Eh hf))
 ·unfold At
  exact⟨h1,h2,Zxt _⟩
 ·unfold aF base pen
  simp[hpc];all_goals (try(repeat' split))<;>omega
theorem p71 (X:Cx c mn cp st g k t)(hpc:t.pc=71):∃ t' g' st',aM c mn cp st g k t t' g' st':=by
 have hA:=X.at_;unfold At at hA;rw[hpc]at hA;have ai:=X.aB;have aL:=X.w0 (by omega) (by omega);have hC:=X.C;have hS:=X.S;have hO:=X.O;obtain⟨h1,h2,h3⟩:=hA;have hf:t.for_.toNat<c.C:=by
  have:=h2.1;have:=h2.2;omega
 have hr:=X.FU hf;rcases Jw X.I.G t.for_.toNat with hn|⟨s,hs⟩
 ·refine aM.read X (t':={ t with H:=hw st t.for_.toNat,aA := -1,obj := -1,pc:=73 }) (pc:=71) (pc':=73) hpc rfl rfl ?_ ?_ rfl rfl rfl aL ?_
  ·rw[iP (by omega)]
   unfold bG;rw[hpc];refine(dQ (show 0≤t.for_∧t.for_<c.C from h2)).trans ((dM hr).trans ?_);rw[GD hn];rfl
  ·unfold At
   exact⟨h1,h2⟩
  ·unfold aF base pen
   simp[hpc];all_goals (try(repeat' split))<;>omega
 ·have tN:=nY X.I.G (x:=.head t.for_.toNat) rfl (s:=s) (by rw[hs];exact ZnJ)
  have hh:=QL X.I.G hS.2 hO.2 hO.1 hs;have aK:=EL X.I.G (x:=.head t.for_.toNat) (s:=s) rfl hO.1 (l:=st.ol s (.head t.for_.toNat)) (fun _ h=>h);have eD:=Dk (l:=st.ol s (.head t.for_.toNat)) (e := -1) (by omega);refine aM.read X (t':={ t with H:=hw st t.for_.toNat,aA:=(s:Int),obj:=gq (st.ol s (.head t.for_.toNat)) (-1),pc:=72 }) (pc:=71) (pc':=72) hpc rfl rfl ?_ ?_ rfl rfl rfl aL ?_
  ·rw[iP (by omega)]
   unfold bG;rw[hpc];refine(dQ (show 0≤t.for_∧t.for_<c.C from h2)).trans ((dM hr).trans ((Lh hh).trans ?_));rw[if_neg (by omega),dQ (by omega)]
  ·unfold At
   exact⟨h1,h2,⟨by show(0:Int)≤s;omega,by show(s:Int)<c.S;omega⟩,⟨eD,aK⟩,h3,fun _=>⟨rfl,hs,rfl⟩⟩
  ·unfold aF base pen
   simp[hpc];all_goals (try(repeat' split))<;>omega
theorem p73 (X:Cx c mn cp st g k t)(hpc:t.pc=73):∃ t' g' st',aM c mn cp st g k t t' g' st':=by
 have hA:=X.at_;unfold At at hA;rw[hpc]at hA;have ai:=X.aB;have aL:=X.w0 (by omega) (by omega);have hC:=X.C;have hS:=X.S;have hO:=X.O;obtain⟨h1,h2⟩:=hA;have hf:t.for_.toNat<c.C:=by
  have:=h2.1;have:=h2.2;omega
 refine aM.read X (t':={ t with T:=st.pt t.for_.toNat,pc:=74 }) (pc:=73) (pc':=74) hpc rfl rfl ?_ ?_ rfl rfl rfl aL ?_
 ·rw[iP (by omega)]
  unfold bG;rw[hpc];exact(dQ (show 0≤t.for_∧t.for_<c.C from h2)).trans (dM (X.Kt hf))
 ·unfold At
  exact⟨h1,h2,Zxt _⟩
 ·unfold aF base pen
  simp[hpc];all_goals (try(repeat' split))<;>omega
end
end Cv
end Go.Proofs.YtfcpdlbkmkhhcaaGreatDoor
