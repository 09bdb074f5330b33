/-
  Texts of this claim, joined. No condition.
-/
import Derived.Test.YtfcpdlbkmkhhcaaGreatDoorCh1
import Derived.Test.YtfcpdlbkmkhhcaaGreatDoorCh27
namespace Go.Proofs.YtfcpdlbkmkhhcaaGreatDoor
set_option maxRecDepth 100000
set_option maxHeartbeats 40000000
namespace Cv
open See Cw
section
variable {c:Ch}{mn cp:Nat}{st st1 st':St}{g g':List Nat}{k:Nat}{t t':Tk}
theorem wP {s:Nat}{a b:Ct}{l1 l2:List Nat}(i:Ix)(h1:∀ x,i = .hd x→a≠.head x∧b≠.head x)(h2:∀ x,i = .fr x∨i = .ct x→x≠s∨a≠.first∧b≠.first):val c (bW st s a b l1 l2) i=val c st i:=by
 have hf:∀ x,(x≠s∨a≠.first∧b≠.first)→(bW st s a b l1 l2).ol x .first=st.ol x .first:=by
  intro x h;refine o6 (fun e => ?_) (fun e => ?_)
  ·rcases h with h|h
   ·exact h e.1
   ·exact h.2 e.2.symm
  ·rcases h with h|h
   ·exact h e.1
   ·exact h.1 e.2.symm
 cases i with
 |hd x =>
  obtain⟨ha,hb⟩:=h1 x rfl;exact zl rfl fun y=>o6 (fun e=>hb e.2.symm) (fun e=>ha e.2.symm)
 |fr x=>exact Db (hf x (h2 x (.inl rfl)))
 |ct x=>exact zA (hf x (h2 x (.inr rfl))) rfl rfl
 |_=>rfl
theorem zy {a b:Own}{l1 l2:List Nat}(i:Ix)(h1:∀ x,i = .hd x→a≠.head x∧b≠.head x)(h2:∀ x,i = .pd x→a≠.part x∧b≠.part x)(h3:i = .shelf→a≠.shelf∧b≠.shelf):val c (di st a b l1 l2) i=val c st i:=by
 cases i with
 |hd x =>
  obtain⟨ha,hb⟩:=h1 x rfl;exact zl (kJ hb.symm ha.symm) fun _=>rfl
 |pd x =>
  obtain⟨ha,hb⟩:=h2 x rfl;show pw ((di st a b l1 l2).sl _)=pw (st.sl _);rw[kJ hb.symm ha.symm]
 |shelf =>
  obtain⟨ha,hb⟩:=h3 rfl;show sw ((di st a b l1 l2).sl _)=sw (st.sl _);rw[kJ hb.symm ha.symm]
 |_=>rfl
theorem Lc {s:Nat}{a b:Bool}(i:Ix)(h:i≠.ct s):val c (jr st s a b) i=val c st i:=by
 cases i with
 |ct x =>
  have e:x≠s:=fun e=>h (by rw[e]);exact zA rfl (if_neg e) (if_neg e)
 |_=>rfl
theorem Zol {s:Nat}(i:Ix)(h:i≠.ct s):val c (zK st s) i=val c st i:=by
 cases i with
 |ct x =>
  have e:x≠s:=fun e=>h (by rw[e]);exact zA rfl rfl (if_neg e)
 |_=>rfl
theorem YN {hx px:Option Nat}{y:Option Tk}(i:Ix)(h1:∀ x,i = .ht x→hx≠some x)(h2:∀ x,i = .pt x→px≠some x):val c (tick st hx px k y) i=val c st i:=by
 cases i with
 |ht x=>exact Qo (h1 x rfl)
 |pt x=>exact Qo (h2 x rfl)
 |_=>rfl
theorem LU {x:Nat}{y:Option Tk}{v w:Nat}(X:Cx c mn cp st g k t)(hx:x<c.C)(hv:∀ i:Ix,i≠.hd x→val c st1 i=val c st i)(ve:hw st1 x=v)(hw:st.ht x+1=w):Enc c (tick st1 (some x) none k y) ((g.set (kK x) v).set (kK x+1) w):=by
 refine X.E.set2 (i:=.hd x) (i2:=.ht x) hx hx (by simp) (fun j _ h1 h2 => ?_) ve ?_
 ·rw[YN j (fun z e e2=>h2 (by rw[e];injection e2 with e2;rw[e2])) (fun z _ e=>by cases e)]
  exact hv j h1
 ·show one (some x) st1.ht x=w
  rw[PT,show st1.ht x=st.ht x from hv (.ht x) (by simp)];exact hw
theorem Us {x:Nat}{y:Option Tk}{v w:Nat}(X:Cx c mn cp st g k t)(hx:x<c.C)(hv:∀ i:Ix,i≠.pd x→val c st1 i=val c st i)(ve:pw (st1.sl (.part x))=v)(hw:st.pt x+1=w):Enc c (tick st1 none (some x) k y) ((g.set (nD x) v).set (nD x+1) w):=by
 refine X.E.set2 (i:=.pd x) (i2:=.pt x) hx hx (by simp) (fun j _ h1 h2 => ?_) ve ?_
 ·rw[YN j (fun z _ e=>by cases e) (fun z e e2=>h2 (by rw[e];injection e2 with e2;rw[e2]))]
  exact hv j h1
 ·show one (some x) st1.pt x=w
  rw[PT,show st1.pt x=st.pt x from hv (.pt x) (by simp)];exact hw
theorem Bz {s:Nat}{y:Option Tk}{v w:Nat}(X:Cx c mn cp st g k t)(hs:s<c.S)(hv:∀ i:Ix,i≠.fr s→i≠.ct s→val c st1 i=val c st i)(h1:fr st1 s=v)(h2:ct c st1 s=w):Enc c (tick st1 none none k y) ((g.set (fq c s) v).set (fq c s+1) w):=by
 refine X.E.set2 (i:=.fr s) (i2:=.ct s) hs hs (by simp) (fun j _ h1 h2 => ?_) h1 h2;rw[vN];exact hv j h1 h2
theorem EP (X:Cx c mn cp st g k t)(x:Nat):(st.ht x+1) % jC=st.ht x+1∧(st.pt x+1) % jC=st.pt x+1:=by
 have h:=X.I.G.turn x;have:=X.n;constructor
 ·show(st.ht x+1) % 18446744073709551616=_
  omega
 ·show(st.pt x+1) % 18446744073709551616=_
  omega
theorem MF {x:Nat}{y:Option Tk}(X:Cx c mn cp st g k t)(R:∀ j,j≠k→bB c j (some x) none st st1)(qm:st1.ht=st.ht)(qx:st1.pt=st.pt)(h1:∀ j,st1.sl (.part j)=st.sl (.part j))(h2:∀ s,fr st1 s=fr st s∧ct c st1 s=ct c st s)(h3:st1.lv=st.lv)
 (hp:xg c (tick st1 (some x) none k y) y+17≤aF c st t):gW c (tick st1 (some x) none k y)+1≤gW c st:=by
 refine LW (q1:=4) (q2:=0) (q3:=0) (p:=0) (p':=0) (l:=0) (l':=0) X.I X.kC X.C.2 (fun j hj=>(R j hj).left hj qm qx) (fun e=>by cases e) (fun _ y => ?_) (fun _ s=>h2 s) ⟨.inr rfl,.inl rfl,.inl rfl⟩ ?_ ?_ ⟨by omega,by omega⟩ ?_
 ·show st1.pt y=_
  rw[qx]
 ·rw[yc (f':=tV (tick st1 (some x) none k y)) (f:=tV st)]
  intro j _;show(st1.sl _).length=(st.sl _).length;rw[h1]
 ·rw[yc (f':=iq (tick st1 (some x) none k y)) (f:=iq st)]
  intro j _;show(if st1.lv j=true then 1 else 0)=(if st.lv j=true then 1 else 0);rw[h3]
 ·rw[Dh X.tk,L8 (upd_same:(tick st1 (some x) none k y).tk k=y)]
  simp;omega
theorem U5 {x:Nat}{y:Option Tk}(X:Cx c mn cp st g k t)(hx:x<c.C)(R:∀ j,j≠k→bB c j none (some x) st st1)(qm:st1.ht=st.ht)(qx:st1.pt=st.pt)(h1:∀ j,j≠x→st1.sl (.part j)=st.sl (.part j))(h2:∀ s,fr st1 s=fr st s∧ct c st1 s=ct c st s)(h3:st1.lv=st.lv)
 (hp:xg c (tick st1 none (some x) k y) y+17+47 * (st1.sl (.part x)).length≤aF c st t+47 * (st.sl (.part x)).length):gW c (tick st1 none (some x) k y)+1≤gW c st:=by
 refine LW (q1:=0) (q2:=4) (q3:=0) (p:=(st.sl (.part x)).length) (p':=(st1.sl (.part x)).length) (l:=0) (l':=0) X.I X.kC X.C.2 (fun j hj=>(R j hj).left hj qm qx) (fun _ y => ?_) (fun e=>by cases e) (fun _ s=>h2 s) ⟨.inl rfl,.inr rfl,.inl rfl⟩ ?_ ?_ ⟨by omega,by omega⟩ ?_
 ·show st1.ht y=_
  rw[qm]
 ·exact PW (f':=tV (tick st1 none (some x) k y)) (f:=tV st) hx fun j hj=>by
   show(st1.sl _).length=(st.sl _).length;rw[h1 j hj]
 ·rw[yc (f':=iq (tick st1 none (some x) k y)) (f:=iq st)]
  intro j _;show(if st1.lv j=true then 1 else 0)=(if st.lv j=true then 1 else 0);rw[h3]
 ·rw[Dh X.tk,L8 (upd_same:(tick st1 none (some x) k y).tk k=y)]
  simp;omega
theorem zN {s:Nat}{y:Option Tk}(X:Cx c mn cp st g k t)(hs:s<c.S)(R:∀ j,j≠k→bB c j none none st st1)(qm:st1.ht=st.ht)(qx:st1.pt=st.pt)(h1:∀ j,st1.sl (.part j)=st.sl (.part j))(h3:∀ x,x≠s→st1.lv x=st.lv x)
 (hp:xg c (tick st1 none none k y) y+25+(2 * c.S+33) * iq st1 s≤aF c st t+(2 * c.S+33) * iq st s):gW c (tick st1 none none k y)+1≤gW c st:=by
 have hl:∀ z:St,iq z s≤1:=fun z=>by
  unfold iq;split<;>omega
 refine LW (q1:=0) (q2:=0) (q3:=6) (p:=0) (p':=0) (l:=iq st s) (l':=iq st1 s) X.I X.kC X.C.2 (fun j hj=>(R j hj).left hj qm qx) (fun _ y => ?_) (fun _ y => ?_) (fun e=>by cases e) ⟨.inl rfl,.inl rfl,.inr rfl⟩ ?_ ?_ ⟨hl _,hl _⟩ ?_
 ·show st1.ht y=_
  rw[qm]
 ·show st1.pt y=_
  rw[qx]
 ·rw[yc (f':=tV (tick st1 none none k y)) (f:=tV st)]
  intro j _;show(st1.sl _).length=(st.sl _).length;rw[h1]
 ·exact PW (f':=iq (tick st1 none none k y)) (f:=iq st) hs fun j hj=>by
   show(if st1.lv j=true then 1 else 0)=(if st.lv j=true then 1 else 0);rw[h3 j hj]
 ·rw[Dh X.tk,L8 (upd_same:(tick st1 none none k y).tk k=y)]
  have:max 0 (max 0 6)=6:=rfl;rw[this];omega
theorem PG (G:dH c mn cp st){x s:Nat}(h:st.sl (.head x)=[s]):st.own s = .head x:=(G.sm _ rfl s).1 (by rw[h];simp)
end
end Cv
namespace Cv
open See Cw
section
variable {c:Ch}{mn cp:Nat}{st st1 st':St}{g g':List Nat}{k:Nat}{t t':Tk}
theorem Cx.uj (X:Cx c mn cp st g k t)(h:nE t.pc=false):st.hold≠some k:=fun e=>by
 obtain⟨t2,e1,e2,_⟩:=X.I.gL k e;rw[X.tk]at e1;cases e1;rw[h]at e2;cases e2
theorem kI.of {s:Nat}{a b:Ct}{l1 l2:List Nat}(G:dH c mn cp st)(ha:a.listed=true)(ne:a≠b)(src:st.ol s a=l1++l2)(bn:b≠.none)(hb:∀ k,b = .head k→st.own s = .head k)(lb:b = .first∨(∃ k,b = .head k)→gy (st.lk s) (See.keyOf c.key s) l1 (gq (st.ol s b) (-1)))
 (fu:st.own s = .full→b≠.first) (sh:st.own s = .shelf→st.cut≠some s→a = .first→l2≠[]) (OG:∀ k,st.own s = .mine k→st.lv s=true) (em:st.hold=none→st.own s = .shelf→b = .first→(l1++st.ol s .first).length=c.O→(st.ol s .first).length=c.O):kI c st s a b l1 l2 where
 ne:=ne
 src:=fun _=>src
 at_:=fun o ho=>(G.om s a ha o).1 (by rw[src];exact List.mem_append_left _ ho)
 nd:=by
  have:=G.od s a ha;rw[src]at this;exact(List.nodup_append.1 this).1
 an:=fun e=>by rw[e]at ha;cases ha
 bn:=bn
 hb:=hb
 lb:=lb
 fu:=fu
 sh:=sh
 OG:=OG
 em:=em
theorem Br {s:Nat}{a b:Ct}{l1 l2:List Nat}(ha:∀ o∈l1,st.loc s o≠.out)(hb:b≠.out)(x y:Nat):(bW st s a b l1 l2).loc x y = .out↔st.loc x y = .out:=by
 unfold bW;dsimp only;split
 ·rename_i e
  constructor
  ·intro e2
   exact absurd e2 hb
  ·intro e2
   rw[e.1]at e2;exact absurd e2 (ha y e.2)
 ·exact Iff.rfl
theorem X6 {s o:Nat}{a:Ct}{l2:List Nat}(x y:Nat):(bW st s a .out [o] l2).loc x y = .out↔st.loc x y = .out∨x=s∧y=o:=by
 unfold bW;dsimp only;by_cases e:x=s∧y∈[o]
 ·rw[if_pos e]
  rw[ZxE]at e;exact⟨fun _=>.inr e,fun _=>rfl⟩
 ·rw[if_neg e]
  rw[ZxE]at e;exact⟨fun h=>.inl h,fun h=>h.elim id fun h=>absurd h e⟩
theorem Zq2 (G:dH c mn cp st){s x:Nat}(h:st.own s≠.head x):st.ol s (.head x)=[]:=by
 cases hc:st.ol s (.head x) with
 |nil=>rfl
 |cons a r=>exact absurd (G.oh s a x ((G.om s _ rfl a).1 (by rw[hc];exact ZnJ))) h
theorem Zpy {x:Nat}{a b:Own}{l1 l2:List Nat}(h:b = .head k∨b = .mine k∨b = .full∧∀ s∈l1,st.own s = .mine k∧st.ol s .first=[]):AO k st (di st a b l1 l2) x:=by
 by_cases e:x∈l1
 ·have:(di st a b l1 l2).own x=b:=if_pos e
  rcases h with h|h|⟨h,h2⟩
  ·exact .inr (.inl (this.trans h))
  ·exact .inr (.inr (.inl (this.trans h)))
  ·exact .inr (.inr (.inr ⟨this.trans h,h2 x e⟩))
 ·exact .inl (if_neg e)
theorem p3 (X:Cx c mn cp st g k t)(hpc:t.pc=3):∃ t' g' st',aM c mn cp st g k t t' g' st':=by
 have hA:=X.at_;unfold At at hA;rw[hpc]at hA;have ai:=X.aB;have aL:=X.w0 (by omega) (by omega);have hC:=X.C;have hS:=X.S;have hO:=X.O;have G:=X.I.G;obtain⟨h1,h2,h3,⟨h4,He⟩,h5⟩:=hA;have hs:iO c mn cp g t=if hw st k=t.H∧st.ht k=t.T then some ({ t with fin:=1 },(g.set (kK k) (headW (sn t:Int) t.last)).set (kK k+1) ((t.T+1) % jC)) else some ({ t with pc:=0 },g):=by
  rw[sU (by omega)];unfold jq;rw[hpc];refine(fM h2).trans ((dQ (by omega)).trans ?_);rw[ai];exact uo (X.FU X.kC) (X.Eh X.kC)
 by_cases hc:hw st k=t.H∧st.ht k=t.T
 ·rw[if_pos hc]at hs
  have uO:st.ht k+1=(t.T+1) % jC:=by rw[← hc.2];exact(EP X k).1.symm
  obtain⟨h6,h7,r,h8,h9⟩:=h5.2 hc.2.symm;have ho:=PG G h7;have hM:kI c st (sn t) (.head k) .out [on t] r:=kI.of G rfl (fun e=>by cases e) h8 (fun e=>by cases e) (fun _ e=>by cases e) (fun e=>by rcases e with e|⟨_,e⟩<;>cases e) (fun _ e=>by cases e) (fun _ _ e=>by cases e) (fun x e=>by rw[ho]at e;cases e) (fun _ _ e=>by cases e);have hR:∀ j,j≠k→bB c j (some k) none st (bW st (sn t) (.head k) .out [on t] r):=fun j hj=>wR (k:=k) hj (fun _ e=>by cases e) (fun _ e=>by cases e) (fun x e=>by rcases e with e|e<;>cases e;rfl) (fun e=>by cases e) (fun e=>by cases e) (fun e=>by cases e);refine aM.Dw X (bW st (sn t) (.head k) .out [on t] r) (hx:=some k) (px:=none) hs rfl rfl (wQ G hM) hR rfl rfl rfl rfl ⟨h1.ms,fun x=>(o6 (fun e=>by cases e.2) (fun e=>by cases e.2)).trans (h1.ob x),h1.ch⟩ (X.uj (by rw[hpc];decide)) ?_ ?_ ?_ ?_
  ·refine LU X X.kC (fun i hi => ?_) ?_ uO
   ·refine wP i (fun x e=>⟨fun e2 => ?_,fun e2=>by cases e2⟩) (fun x e=>.inr ⟨(fun e=>by cases e),fun e=>by cases e⟩)
    cases e2;exact hi e
   ·rw[Qz (st:=bW st (sn t) (.head k) .out [on t] r) h7,yw (fun e=>by cases e),h9]
  ·exact eP (eP X.W (Tx (by have:=dG h2;omega) h4 (by omega))) (Nat.mod_lt _ (by decide))
  ·refine MF X hR rfl rfl (fun _=>rfl) (fun s=>⟨Db (EF (fun e=>by cases e) (fun e=>by cases e) s),zA (EF (fun e=>by cases e) (fun e=>by cases e) s) rfl rfl⟩) rfl ?_
   show 0+17≤aF c st t;have hb:base c st t=AA c+48:=by
    unfold base;rw[hpc];rfl
   unfold aF;unfold AA at hb;omega
  ·rw[if_pos (X.ZtU (by rw[hpc];decide))]
   refine⟨sn t,on t,Dt h2,UV h3,dG h2,qE h3,?_,X6⟩;rw[(G.om (sn t) (.head k) rfl (on t)).1 (by rw[h8];exact ZnJ)];intro e;cases e
 ·rw[if_neg hc]at hs
  have hT:t.T≠st.ht k:=fun e=>hc ⟨(h5.2 e).1.symm,e.symm⟩;refine aM.read X (t':={ t with pc:=0 }) (pc:=3) (pc':=0) hpc rfl rfl hs ?_ rfl rfl rfl aL ?_
  ·unfold At
   exact h1
  ·unfold aF base pen
   simp[hpc,ai,AA,Ne.symm hT]
theorem p13 (X:Cx c mn cp st g k t)(hpc:t.pc=13):∃ t' g' st',aM c mn cp st g k t t' g' st':=by
 have hA:=X.at_;unfold At at hA;rw[hpc]at hA;have ai:=X.aB;have aL:=X.w0 (by omega) (by omega);have hC:=X.C;have hS:=X.S;have hO:=X.O;have G:=X.I.G;obtain⟨h1,h2,h3,h4,h5⟩:=hA;have hoe:=UV h3;have fD:=qE h3;have hs:iO c mn cp g t=if hw st k=t.H∧st.ht k=t.T then some ({ t with fin:=1 },(g.set (kK k) (headW (sn t:Int) (on t:Int))).set (kK k+1) ((t.T+1) % jC)) else some ({ t with pc:=10 },g):=by
  rw[sU (by omega)];unfold jq;rw[hpc];refine(fM h2).trans ((pY h3).trans ?_);rw[ai];exact uo (X.FU X.kC) (X.Eh X.kC)
 by_cases hc:hw st k=t.H∧st.ht k=t.T
 ·rw[if_pos hc]at hs
  have uO:st.ht k+1=(t.T+1) % jC:=by rw[← hc.2];exact(EP X k).1.symm
  obtain⟨h6,h7,h9⟩:=h5.2 hc.2.symm;have ho:=PG G h7;have hM:kI c st (sn t) (.aU k) (.head k) [on t] []:=kI.of G rfl (fun e=>by cases e) h1.at_ (fun e=>by cases e) (fun _ e=>by cases e;exact ho) (fun _=>⟨by show _=fZ (gq _ _) _ _;rw[h4,h9];rfl,trivial⟩) (fun _ e=>by cases e) (fun _ _ e=>by cases e) (fun x e=>by rw[ho]at e;cases e) (fun _ _ e=>by cases e);have hR:∀ j,j≠k→bB c j (some k) none st (bW st (sn t) (.aU k) (.head k) [on t] []):=fun j hj=>wR (k:=k) hj (fun _ e=>by cases e;rfl) (fun _ e=>by cases e) (fun x e=>by rcases e with e|e<;>cases e;rfl) (fun e=>by cases e) (fun e=>by cases e) (fun e=>by cases e);refine aM.Dw X (bW st (sn t) (.aU k) (.head k) [on t] []) (hx:=some k) (px:=none) hs rfl rfl (wQ G hM) hR rfl rfl rfl rfl ⟨h1.ms,fun x => ?_,h1.ch⟩ (X.uj (by rw[hpc];decide)) ?_ ?_ ?_ ?_
  ·by_cases e:x=sn t
   ·rw[e,yw (fun e=>by cases e)]
    split<;>rfl
   ·rw[o6 (fun e2=>by cases e2.2) (fun e2=>e e2.1),h1.ob,if_neg e]
    split<;>rfl
  ·refine LU X X.kC (fun i hi => ?_) ?_ uO
   ·refine wP i (fun x e=>⟨(fun e2=>by cases e2),fun e2 => ?_⟩) (fun x e=>.inr ⟨(fun e=>by cases e),fun e=>by cases e⟩)
    cases e2;exact hi e
   ·rw[Qz (st:=bW st (sn t) (.aU k) (.head k) [on t] []) h7,zu]
    rfl
  ·exact eP (eP X.W (Tx (by have:=dG h2;omega) (by omega) (by omega))) (Nat.mod_lt _ (by decide))
  ·refine MF X hR rfl rfl (fun _=>rfl) (fun s=>⟨Db (EF (fun e=>by cases e) (fun e=>by cases e) s),zA (EF (fun e=>by cases e) (fun e=>by cases e) s) rfl rfl⟩) rfl ?_
   show 0+17≤aF c st t;have hb:base c st t=94:=by
    unfold base;rw[hpc];rfl
   unfold aF;omega
  ·rw[if_neg (X.rC (by rw[hpc];decide))]
   refine Br (fun o ho => ?_) (fun e=>by cases e);rw[hM.at_ o ho];intro e;cases e
 ·rw[if_neg hc]at hs
  have hT:t.T≠st.ht k:=fun e=>hc ⟨(h5.2 e).1.symm,e.symm⟩;refine aM.read X (t':={ t with pc:=10 }) (pc:=13) (pc':=10) hpc rfl rfl hs ?_ rfl rfl rfl aL ?_
  ·unfold At
   exact⟨h1,h2,h3⟩
  ·unfold aF base pen
   simp[hpc,ai,Ne.symm hT]
theorem p20 (X:Cx c mn cp st g k t)(hpc:t.pc=20):∃ t' g' st',aM c mn cp st g k t t' g' st':=by
 have hA:=X.at_;unfold At at hA;rw[hpc]at hA;have ai:=X.aB;have aL:=X.w0 (by omega) (by omega);have hC:=X.C;have hS:=X.S;have hO:=X.O;have G:=X.I.G;obtain⟨h1,h2,h5⟩:=hA;have hs:iO c mn cp g t=if hw st k=t.H∧st.ht k=t.T then some ({ t with pc:=21 },(g.set (kK k) 0).set (kK k+1) ((t.T+1) % jC)) else some ({ t with pc:=0 },g):=by
  rw[jV (by omega) (by omega)];unfold dD;rw[hpc];show mK _ _ _ _ _ _ _ _=_;rw[ai];exact uo (X.FU X.kC) (X.Eh X.kC)
 by_cases hc:hw st k=t.H∧st.ht k=t.T
 ·rw[if_pos hc]at hs
  have uO:st.ht k+1=(t.T+1) % jC:=by rw[← hc.2];exact(EP X k).1.symm
  obtain⟨h6,h7,h8⟩:=h5.2 hc.2.symm;have ho:=PG G h7;have ic:=G.hpc (sn t) k (.inl ho)
  have hM:vI c cp st (.head k) (.mine k) [sn t] []:={
   ne:=fun e=>by cases e
   src:=fun _=>h7
   at_:=fun s hs=>by rw[ZxE]at hs;rw[hs];exact ho
   nd:=by simp
   ad:=⟨(fun e=>by cases e),fun e=>by cases e⟩
   bd:=fun e=>by cases e
   lv:=fun s hs=>by rw[ZxE]at hs;rw[hs];exact ic.1
   k:=fun x e=>by rcases e with e|e|e|e<;>cases e;exact X.kC
   one:=fun x e=>by rw[h1.ms];simp
   fu:=fun e=>by cases e
   sh:=fun e=>by cases e
   hp:=fun x e=>by rcases e with e|e|e<;>cases e
   oh:=fun x e s hs=>by cases e;rw[ZxE]at hs;rw[hs];exact h8
   cP:=fun x e=>by rcases e with e|e<;>cases e
   cS:=fun e=>by cases e
   cap:=fun x e=>by cases e }
  have hR:∀ j,j≠k→bB c j (some k) none st (di st (.head k) (.mine k) [sn t] []):=fun j hj=>zn (k:=k) hj (fun _ e=>by rcases e with e|e<;>cases e) (fun _ e=>by rcases e with e|e<;>cases e;rfl) (fun x e=>by rcases e with e|e<;>cases e;rfl) (fun x e=>by rcases e with e|e<;>cases e) (fun _ e=>by cases e) (fun e=>by cases e) (fun e=>by cases e) (fun x _=>h7);refine aM.iI X (di st (.head k) (.mine k) [sn t] []) (hx:=some k) (px:=none) (t':={ t with pc:=21 }) (pc:=20) (pc':=21) hpc rfl rfl hs rfl rfl rfl (.inl ⟨aL,by decide⟩) (zm G hM) hR rfl rfl rfl rfl ?_ (fun e=>absurd e (X.uj (by rw[hpc];decide))) ?_ ?_ ?_ (fun _ _=>Iff.rfl) (fun _ s=>Zpy (.inr (.inl rfl)))
  ·unfold At
   refine⟨⟨?_,fun x => ?_,?_⟩,h2,ic,?_⟩
   rotate_right
   ·exact zw (st:=st) (a:=.head k) (b:=.mine k) (l1:=[sn t]) (fun e=>by cases e)
   rotate_right
   ·exact(kJ (st:=st) (y:=.chain k) (a:=.head k) (b:=.mine k) (l1:=[sn t]) (l2:=[]) (fun e=>by cases e) (fun e=>by cases e)).trans h1.ch
   ·exact(Dg (st:=st) (a:=.head k) (b:=.mine k) (l1:=[sn t]) (l2:=[])).trans (by rw[h1.ms];rfl)
   ·refine(h1.ob x).trans ?_
    split<;>split<;>rfl
  ·refine LU X X.kC (fun i hi => ?_) ?_ uO
   ·refine zy i (fun x e=>⟨fun e2 => ?_,fun e2=>by cases e2⟩) (fun x e=>⟨(fun e2=>by cases e2),fun e2=>by cases e2⟩) (fun _=>⟨(fun e=>by cases e),fun e=>by cases e⟩)
    cases e2;exact hi e
   ·exact GD (zw (fun e=>by cases e))
  ·exact eP (eP X.W (by omega)) (Nat.mod_lt _ (by decide))
  ·refine MF X hR rfl rfl (fun _=>kJ (fun e=>by cases e) (fun e=>by cases e)) (fun _=>⟨rfl,rfl⟩) rfl ?_
   show aF c _ { t with pc:=21 }+17≤aF c st t;unfold aF base pen;simp[hpc,ai,AA];all_goals (try(repeat' split))<;>omega
 ·rw[if_neg hc]at hs
  have hT:t.T≠st.ht k:=fun e=>hc ⟨(h5.2 e).1.symm,e.symm⟩;refine aM.read X (t':={ t with pc:=0 }) (pc:=20) (pc':=0) hpc rfl rfl hs ?_ rfl rfl rfl aL ?_
  ·unfold At
   exact h1
  ·unfold aF base pen
   simp[hpc,ai,AA,Ne.symm hT]
theorem p42 (X:Cx c mn cp st g k t)(hpc:t.pc=42):∃ t' g' st',aM c mn cp st g k t t' g' st':=by
 have hA:=X.at_;unfold At at hA;rw[hpc]at hA;have ai:=X.aB;have aL:=X.w0 (by omega) (by omega);have hC:=X.C;have hS:=X.S;have hO:=X.O;have G:=X.I.G;obtain⟨⟨l,h1,h2,h3⟩,h4,h5,h6,h7,h8⟩:=hA;have aK:gq l (-1)<c.O:=EL G (x:=.aU k) (s:=sn t) rfl hO.1 (fun o ho=>by rw[h1.at_];exact ZnQ _ ho);have eD:=Dk (l:=l) (e := -1) (by omega);have hs:iO c mn cp g t=if hw st k=0∧st.ht k=t.T then some ({ t with fin:=1 },(g.set (kK k) (headW (sn t:Int) t.last)).set (kK k+1) ((t.T+1) % jC)) else some ({ t with pc:=41 },g):=by
  rw[jV (by omega) (by omega)];unfold dD;rw[hpc];refine(fM h5).trans ((dQ (by omega)).trans ?_);rw[ai];exact uo (X.FU X.kC) (X.Eh X.kC)
 have cB:=h1.own G;by_cases hc:hw st k=0∧st.ht k=t.T
 ·rw[if_pos hc]at hs
  have uO:st.ht k+1=(t.T+1) % jC:=by rw[← hc.2];exact(EP X k).1.symm
  have hnh:st.ol (sn t) (.head k)=[]:=Zq2 G (by rw[cB];intro e;cases e);have hM1:kI c st (sn t) (.aU k) .out [on t] l:=kI.of G rfl (fun e=>by cases e) h1.at_ (fun e=>by cases e) (fun _ e=>by cases e) (fun e=>by rcases e with e|⟨_,e⟩<;>cases e) (fun _ e=>by cases e) (fun _ _ e=>by cases e) (fun x e=>h7.1) (fun _ _ e=>by cases e);obtain⟨s1,aP⟩:∃ s1,s1=bW st (sn t) (.aU k) .out [on t] l:=⟨_,rfl⟩;have G1:dH c mn cp s1:=by rw[aP];exact wQ G hM1
  have hM2:vI c cp s1 (.mine k) (.head k) [sn t] []:={
   ne:=fun e=>by cases e
   src:=fun _=>by rw[aP];exact h1.ms
   at_:=fun s hs=>by rw[ZxE]at hs;rw[hs,aP];exact cB
   nd:=by simp
   ad:=⟨(fun e=>by cases e),fun e=>by cases e⟩
   bd:=fun e=>by cases e
   lv:=fun s hs=>by rw[ZxE]at hs;rw[hs,aP];exact h7.1
   k:=fun x e=>by rcases e with e|e|e|e<;>cases e;exact X.kC
   one:=fun x e=>by
    rw[aP];show _+(st.sl (.head k)).length≤1;rw[show st.sl (.head k)=[] from h4];simp
   fu:=fun e=>by cases e
   sh:=fun e=>by cases e
   hp:=fun x e s hs=>by rw[ZxE]at hs;rw[hs,aP];exact h7.2
   oh:=fun x e=>by cases e
   cP:=fun x e=>by rcases e with e|e<;>cases e
   cS:=fun e=>by cases e
   cap:=fun x e=>by cases e }
  obtain⟨s2,eB⟩:∃ s2,s2=di s1 (.mine k) (.head k) [sn t] []:=⟨_,rfl⟩;have G2:dH c mn cp s2:=by rw[eB];exact zm G1 hM2
  have xD:s2.own (sn t) = .head k:=by rw[eB];exact if_pos (by simp)
  have j4:s2.ol=s1.ol:=by rw[eB];rfl
  have e1:s2.ol (sn t) (.aU k)=l:=by rw[j4,aP];exact yw (fun e=>by cases e)
  have e2:s2.ol (sn t) (.head k)=[]:=by rw[j4,aP,o6 (fun e=>by cases e.2) (fun e=>by cases e.2)];exact hnh
  have D6:s2.lk=st.lk:=by
   rw[eB,aP];rfl
  have hM3:kI c s2 (sn t) (.aU k) (.head k) l []:=kI.of G2 rfl (fun e=>by cases e) (by rw[e1,ZxP]) (fun e=>by cases e) (fun _ e=>by cases e;exact xD) (fun _=>by rw[e2,D6];exact h2.2) (fun e=>by rw[xD]at e;cases e) (fun _ _ e=>by cases e) (fun x e=>by rw[xD]at e;cases e) (fun _ _ e=>by cases e);have R1:∀ j,j≠k→bB c j (some k) none st s1:=fun j hj=>by rw[aP];exact wR (k:=k) hj (fun _ e=>by cases e;rfl) (fun _ e=>by cases e) (fun x e=>by rcases e with e|e<;>cases e) (fun e=>by cases e) (fun e=>by cases e) (fun e=>by cases e)
  have R2:∀ j,j≠k→bB c j (some k) none s1 s2:=fun j hj=>by rw[eB];exact zn (k:=k) hj (fun _ e=>by rcases e with e|e<;>cases e;rfl) (fun _ e=>by rcases e with e|e<;>cases e) (fun x e=>by rcases e with e|e<;>cases e;rfl) (fun x e=>by rcases e with e|e<;>cases e) (fun _ e=>by cases e;rfl) (fun e=>by cases e) (fun e=>by cases e) (fun x e=>by cases e)
  have R3:∀ j,j≠k→bB c j (some k) none s2 (bW s2 (sn t) (.aU k) (.head k) l []):=fun j hj=>wR (k:=k) hj (fun _ e=>by cases e;rfl) (fun _ e=>by cases e) (fun x e=>by rcases e with e|e<;>cases e;rfl) (fun e=>by cases e) (fun e=>by cases e) (fun e=>by cases e);have hR:∀ j,j≠k→bB c j (some k) none st (bW s2 (sn t) (.aU k) (.head k) l []):=fun j hj=>((R1 j hj).trans G G1 (R2 j hj)).trans G G2 (R3 j hj);refine aM.Dw X (bW s2 (sn t) (.aU k) (.head k) l []) (hx:=some k) (px:=none) hs rfl rfl (wQ G2 hM3) hR (by rw[eB,aP];rfl) (by rw[eB,aP];rfl) (by rw[eB,aP];rfl) (by rw[eB,aP];rfl) ⟨?_,fun x => ?_,?_⟩ ?_ ?_ ?_ ?_ ?_ (fun _ s => ?_)
  ·show s2.sl (.mine k)=[]
   rw[eB];exact zw (fun e=>by cases e)
  ·by_cases e:x=sn t
   ·rw[e,yw (fun e=>by cases e)]
    split<;>rfl
   ·rw[o6 (fun e2=>by cases e2.2) (fun e2=>e e2.1),j4,aP,o6 (fun e2=>by cases e2.2) (fun e2=>e e2.1),h1.ob,if_neg e]
    split<;>rfl
  ·show s2.sl (.chain k)=[]
   rw[eB,kJ (fun e=>by cases e) (fun e=>by cases e),aP];exact h1.ch
  ·show s2.hold≠some k
   rw[eB,aP];exact X.uj (by rw[hpc];decide)
  ·refine LU X X.kC (fun i hi => ?_) ?_ uO
   ·have n1:∀ x,i = .hd x→(Ct.head k≠.head x):=fun x e e2=>by
     cases e2;exact hi e
    rw[wP i (fun x e=>⟨(fun e2=>by cases e2),n1 x e⟩) (fun x e=>.inr ⟨(fun e=>by cases e),fun e=>by cases e⟩),eB,
     zy i (fun x e=>⟨(fun e2=>by cases e2),fun e2=>n1 x e (by cases e2;rfl)⟩) (fun x e=>⟨(fun e2=>by cases e2),fun e2=>by cases e2⟩) (fun _=>⟨(fun e=>by cases e),fun e=>by cases e⟩),aP,
     wP i (fun x e=>⟨(fun e2=>by cases e2),fun e2=>by cases e2⟩) (fun x e=>.inr ⟨(fun e=>by cases e),fun e=>by cases e⟩)]
   ·have bC:(bW s2 (sn t) (.aU k) (.head k) l []).sl (.head k)=[sn t]:=by
     show s2.sl (.head k)=_;rw[eB,Dg,aP];show [sn t]++st.sl (.head k)=_;rw[show st.sl (.head k)=[] from h4];rfl
    rw[Qz bC,zu,e2,ZxP,h3]
  ·exact eP (eP X.W (Tx (by have:=dG h5;omega) (by omega) (by omega))) (Nat.mod_lt _ (by decide))
  ·refine MF X hR (by rw[eB,aP];rfl) (by rw[eB,aP];rfl) (fun j => ?_) (fun s => ?_) (by rw[eB,aP];rfl) ?_
   ·show s2.sl _=_
    rw[eB,kJ (fun e=>by cases e) (fun e=>by cases e),aP];rfl
   ·have e:(bW s2 (sn t) (.aU k) (.head k) l []).ol s .first=st.ol s .first:=by
     rw[EF (fun e=>by cases e) (fun e=>by cases e) s,j4,aP];exact EF (fun e=>by cases e) (fun e=>by cases e) s
    exact⟨Db e,zA e (by rw[eB,aP];rfl) (by rw[eB,aP];rfl)⟩
   ·show 0+17≤aF c st t
    have hb:base c st t=17:=by
     unfold base;rw[hpc];rfl
    unfold aF;omega
  ·rw[if_pos (X.ZtU (by rw[hpc];decide))]
   have pM:st.loc (sn t) (on t) = .aU k:=h1.loc G (by simp);refine⟨sn t,on t,Dt h5,UV h6,dG h5,qE h6,(by rw[pM];intro e;cases e),fun x y => ?_⟩;rw[Br (fun o ho=>by rw[hM3.at_ o ho];intro e;cases e) (fun e=>by cases e)];have:s2.loc=s1.loc:=(by rw[eB];rfl);rw[this,aP];exact X6 x y
  ·by_cases e:s∈[sn t]
   ·refine .inr (.inl ?_)
    show s2.own s=_;rw[eB];exact if_pos e
   ·refine .inl ?_
    show s2.own s=_;rw[eB,show(di s1 (.mine k) (.head k) [sn t] []).own s=s1.own s from if_neg e,aP];rfl
 ·rw[if_neg hc]at hs
  have hT:t.T≠st.ht k:=fun e=>hc ⟨GD h4,e.symm⟩;refine aM.read X (t':={ t with pc:=41 }) (pc:=42) (pc':=41) hpc rfl rfl hs ?_ rfl rfl rfl aL ?_
  ·unfold At
   exact⟨⟨l,h1,h2,h3⟩,h4,h5,h6,h7⟩
  ·unfold aF base pen
   simp[hpc,ai,Ne.symm hT]
theorem p72 (X:Cx c mn cp st g k t)(hpc:t.pc=72):∃ t' g' st',aM c mn cp st g k t t' g' st':=by
 have hA:=X.at_;unfold At at hA;rw[hpc]at hA;have ai:=X.aB;have aL:=X.w0 (by omega) (by omega);have hC:=X.C;have hS:=X.S;have hO:=X.O;have G:=X.I.G;obtain⟨h1,h2,h3,⟨h4,He⟩,h5⟩:=hA;have lg:t.for_.toNat<c.C:=by
  have:=h2.1;have:=h2.2;omega
 obtain⟨f,hf⟩:=Zx9 (t.for_.toNat);rw[hf]at lg h5;have hs:iO c mn cp g t=if hw st f=t.H∧st.ht f=t.T then some ({ t with many:=0,back:=73,pc:=80 },(g.set (kK f) 0).set (kK f+1) ((t.T+1) % jC)) else some ({ t with pc:=70 },g):=by
  rw[iP (by omega)];unfold bG;rw[hpc];refine(dQ (show 0≤t.for_∧t.for_<c.C from h2)).trans ?_;rw[hf];exact uo (X.FU lg) (X.Eh lg)
 by_cases hc:hw st f=t.H∧st.ht f=t.T
 ·rw[if_pos hc]at hs
  have uO:st.ht f+1=(t.T+1) % jC:=by rw[← hc.2];exact(EP X f).1.symm
  obtain⟨h6,h7,h8⟩:=h5.2 hc.2.symm;have ho:=PG G h7;have ic:=G.hpc (sn t) f (.inl ho);obtain⟨L,hL⟩:∃ L,L=st.ol (sn t) (.head f):=⟨_,rfl⟩;have hM1:kI c st (sn t) (.head f) (.aU k) L []:=kI.of G rfl (fun e=>by cases e) (by rw[ZxP,hL]) (fun e=>by cases e) (fun _ e=>by cases e) (fun e=>by rcases e with e|⟨_,e⟩<;>cases e) (fun _ e=>by cases e) (fun _ _ e=>by cases e) (fun x e=>by rw[ho]at e;cases e) (fun _ _ e=>by cases e);obtain⟨s1,aP⟩:∃ s1,s1=bW st (sn t) (.head f) (.aU k) L []:=⟨_,rfl⟩;have G1:dH c mn cp s1:=by rw[aP];exact wQ G hM1
  have hM2:vI c cp s1 (.head f) (.mine k) [sn t] []:={
   ne:=fun e=>by cases e
   src:=fun _=>by rw[aP];exact h7
   at_:=fun s hs=>by rw[ZxE]at hs;rw[hs,aP];exact ho
   nd:=by simp
   ad:=⟨(fun e=>by cases e),fun e=>by cases e⟩
   bd:=fun e=>by cases e
   lv:=fun s hs=>by rw[ZxE]at hs;rw[hs,aP];exact ic.1
   k:=fun x e=>by rcases e with e|e|e|e<;>cases e;exact X.kC
   one:=fun x e=>by
    rw[aP];show _+(st.sl (.mine k)).length≤1;rw[h1.ms];simp
   fu:=fun e=>by cases e
   sh:=fun e=>by cases e
   hp:=fun x e=>by rcases e with e|e|e<;>cases e
   oh:=fun x e s hs=>by
    cases e;rw[ZxE]at hs;rw[hs,aP];exact yw (fun e=>by cases e)
   cP:=fun x e=>by rcases e with e|e<;>cases e
   cS:=fun e=>by cases e
   cap:=fun x e=>by cases e }
  have R1:∀ j,j≠k→bB c j (some f) none st s1:=fun j hj=>by rw[aP];exact wR (k:=k) hj (fun _ e=>by cases e) (fun _ e=>by cases e;rfl) (fun x e=>by rcases e with e|e<;>cases e;rfl) (fun e=>by cases e) (fun e=>by cases e) (fun e=>by cases e)
  have R2:∀ j,j≠k→bB c j (some f) none s1 (di s1 (.head f) (.mine k) [sn t] []):=fun j hj=>zn (k:=k) hj (fun _ e=>by rcases e with e|e<;>cases e) (fun _ e=>by rcases e with e|e<;>cases e;rfl) (fun x e=>by rcases e with e|e<;>cases e;rfl) (fun x e=>by rcases e with e|e<;>cases e) (fun _ e=>by cases e) (fun e=>by cases e) (fun e=>by cases e) (fun x _=>by rw[aP];exact h7);have hR:∀ j,j≠k→bB c j (some f) none st (di s1 (.head f) (.mine k) [sn t] []):=fun j hj=>(R1 j hj).trans G G1 (R2 j hj);refine aM.iI X (di s1 (.head f) (.mine k) [sn t] []) (hx:=some f) (px:=none) (t':={ t with many:=0,back:=73,pc:=80 }) (pc:=72) (pc':=80) hpc rfl rfl hs rfl rfl rfl (.inl ⟨aL,by decide⟩) (zm G1 hM2) hR (by rw[aP];rfl) (by rw[aP];rfl) (by rw[aP];rfl) (by rw[aP];rfl) ?_ (fun e => ?_) ?_ ?_ ?_ (fun x y => ?_) (fun e=>absurd e (X.rC (by rw[hpc];decide)))
  ·unfold At
   refine⟨L,[],⟨?_,fun x => ?_,?_⟩,h3,?_,rfl,.inr (.inl ⟨rfl,rfl,h2⟩),by rw[hL];exact h8,?_⟩
   ·refine(Dg (st:=s1) (a:=.head f) (b:=.mine k) (l1:=[sn t]) (l2:=[])).trans ?_
    rw[aP];show [sn t]++st.sl (.mine k)=_;rw[h1.ms];rfl
   ·show s1.ol x (.aU k)=if x=sn t then L else []
    rw[aP];by_cases e:x=sn t
    ·rw[e,zu,if_pos rfl,h1.ob]
     split<;>exact ZxP L
    ·rw[o6 (fun e2=>e e2.1) (fun e2=>e e2.1),h1.ob,if_neg e]
     split<;>rfl
   ·refine(kJ (st:=s1) (y:=.chain k) (a:=.head f) (b:=.mine k) (l1:=[sn t]) (l2:=[]) (fun e=>by cases e) (fun e=>by cases e)).trans ?_
    rw[aP];exact h1.ch
   ·rw[aP]
    exact ic
   ·have:gy (st.lk (sn t)) (ky c (sn t)) L (-1):=by rw[hL];exact G.l2 (sn t) f
    rw[aP];exact this
  ·rw[aP]at e
   exact absurd e (X.uj (by rw[hpc];decide))
  ·refine LU X lg (fun i hi => ?_) ?_ uO
   ·have n1:∀ x,i = .hd x→(Ct.head f≠.head x):=fun x e e2=>by
     cases e2;exact hi e
    rw[zy i (fun x e=>⟨fun e2=>n1 x e (by cases e2;rfl),fun e2=>by cases e2⟩) (fun x e=>⟨(fun e2=>by cases e2),fun e2=>by cases e2⟩) (fun _=>⟨(fun e=>by cases e),fun e=>by cases e⟩),aP,
     wP i (fun x e=>⟨n1 x e,fun e2=>by cases e2⟩) (fun x e=>.inr ⟨(fun e=>by cases e),fun e=>by cases e⟩)]
   ·exact GD (zw (fun e=>by cases e))
  ·exact eP (eP X.W (by omega)) (Nat.mod_lt _ (by decide))
  ·refine MF X hR (by rw[aP];rfl) (by rw[aP];rfl) (fun j => ?_) (fun s => ?_) (by rw[aP];rfl) ?_
   ·rw[kJ (fun e=>by cases e) (fun e=>by cases e),aP]
    rfl
   ·have e:(di s1 (.head f) (.mine k) [sn t] []).ol s .first=st.ol s .first:=by
     show s1.ol s .first=_;rw[aP];exact EF (fun e=>by cases e) (fun e=>by cases e) s
    exact⟨Db e,zA e (by rw[aP];rfl) (by rw[aP];rfl)⟩
   ·show aF c _ { t with many:=0,back:=73,pc:=80 }+17≤aF c st t
    unfold aF base pen;simp[hpc,cont];all_goals (try(repeat' split))<;>omega
  ·show s1.loc x y = .out↔_
   rw[aP];exact Br (fun o ho=>by rw[hM1.at_ o ho];intro e;cases e) (fun e=>by cases e) x y
 ·rw[if_neg hc]at hs
  have hT:t.T≠st.ht f:=fun e=>hc ⟨(h5.2 e).1.symm,e.symm⟩;refine aM.read X (t':={ t with pc:=70 }) (pc:=72) (pc':=70) hpc rfl rfl hs ?_ rfl rfl rfl aL ?_
  ·unfold At
   exact⟨h1,h2⟩
  ·unfold aF base pen
   simp[hpc,hf,Ne.symm hT];all_goals omega
end
end Cv
end Go.Proofs.YtfcpdlbkmkhhcaaGreatDoor
