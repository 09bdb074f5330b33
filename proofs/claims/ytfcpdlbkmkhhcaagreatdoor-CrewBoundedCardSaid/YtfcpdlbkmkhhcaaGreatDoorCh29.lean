/-
  Texts of this claim, joined. No condition.
-/
import Derived.Test.YtfcpdlbkmkhhcaaGreatDoorCh1
import Derived.Test.YtfcpdlbkmkhhcaaGreatDoorCh28
namespace Go.Proofs.YtfcpdlbkmkhhcaaGreatDoor
set_option maxRecDepth 100000
set_option maxHeartbeats 40000000
namespace Cv
open See Cw
section
variable {c:Ch}{mn cp:Nat}{st st1 st':St}{g g':List Nat}{k:Nat}{t t':Tk}
theorem p8 {P:Nat→Prop}{a:Nat}(h:P a):∀ x∈[a],P x:=fun x hx=>by
 rw[ZxE]at hx;rw[hx];exact h
theorem p33 (X:Cx c mn cp st g k t)(hpc:t.pc=33):∃ t' g' st',aM c mn cp st g k t t' g' st':=by
 have hA:=X.at_;unfold At at hA;rw[hpc]at hA;have ai:=X.aB;have aL:=X.w0 (by omega) (by omega);have hC:=X.C;have hS:=X.S;have hO:=X.O;have G:=X.I.G;obtain⟨h1,h2,h3,h4,h5⟩:=hA;have hs:iO c mn cp g t=if pw (st.sl (.part k))=t.N∧st.pt k=t.T then some ({ t with pc:=21 },(g.set (nD k) t.F).set (nD k+1) ((t.T+1) % jC)) else some ({ t with pc:=30 },g):=by
  rw[jV (by omega) (by omega)];unfold dD;rw[hpc];show mK _ _ _ _ _ _ _ _=_;rw[ai];exact uo (X.Kr X.kC) (X.Kt X.kC)
 by_cases hc:pw (st.sl (.part k))=t.N∧st.pt k=t.T
 ·rw[if_pos hc]at hs
  have uO:st.pt k+1=(t.T+1) % jC:=by rw[← hc.2];exact(EP X k).2.symm
  obtain⟨h6,r,h7,h8⟩:=h5.2 hc.2.symm;have ho:st.own (sn t) = .part k:=(G.sm _ rfl (sn t)).1 (by rw[h7];exact ZnJ);have ic:=G.hpc (sn t) k (.inr (.inl ho))
  have hM:vI c cp st (.part k) (.mine k) [sn t] r:={
   ne:=fun e=>by cases e
   src:=fun _=>h7
   at_:=p8 ho
   nd:=by simp
   ad:=⟨(fun e=>by cases e),fun e=>by cases e⟩
   bd:=fun e=>by cases e
   lv:=p8 ic.1
   k:=fun x e=>by rcases e with e|e|e|e<;>cases e;exact X.kC
   one:=fun x e=>by rw[h1.ms];simp
   fu:=fun e=>by cases e
   sh:=fun e=>by cases e
   hp:=fun x e=>by rcases e with e|e|e<;>cases e
   oh:=fun x e=>by cases e
   cP:=fun x e=>by rcases e with e|e<;>cases e
   cS:=fun e=>by cases e
   cap:=fun x e=>by cases e }
  have hR:∀ j,j≠k→bB c j none (some k) st (di st (.part k) (.mine k) [sn t] r):=fun j hj=>zn (k:=k) hj (fun _ e=>by rcases e with e|e<;>cases e) (fun _ e=>by rcases e with e|e<;>cases e;rfl) (fun x e=>by rcases e with e|e<;>cases e) (fun x e=>by rcases e with e|e<;>cases e;rfl) (fun _ e=>by cases e) (fun e=>by cases e) (fun e=>by cases e) (fun x e=>by cases e);have xx:(di st (.part k) (.mine k) [sn t] r).sl (.part k)=r:=zw (fun e=>by cases e);refine aM.iI X (di st (.part k) (.mine k) [sn t] r) (hx:=none) (px:=some k) (t':={ t with pc:=21 }) (pc:=33) (pc':=21) hpc rfl rfl hs rfl rfl rfl (.inl ⟨aL,by decide⟩) (zm G hM) hR rfl rfl rfl rfl ?_ (fun e=>absurd e (X.uj (by rw[hpc];decide))) ?_ ?_ ?_ (fun _ _=>Iff.rfl) (fun _ s=>Zpy (.inr (.inl rfl)))
  ·unfold At
   refine⟨⟨?_,fun x => ?_,?_⟩,h3,ic,?_⟩
   ·exact(Dg (st:=st) (a:=.part k) (b:=.mine k) (l1:=[sn t]) (l2:=r)).trans (by rw[h1.ms];rfl)
   ·refine(h1.ob x).trans ?_
    split<;>split<;>rfl
   ·exact(kJ (st:=st) (y:=.chain k) (a:=.part k) (b:=.mine k) (l1:=[sn t]) (l2:=r) (fun e=>by cases e) (fun e=>by cases e)).trans h1.ch
   ·exact(kJ (st:=st) (y:=.head k) (a:=.part k) (b:=.mine k) (l1:=[sn t]) (l2:=r) (fun e=>by cases e) (fun e=>by cases e)).trans h2
  ·refine Us X X.kC (fun i hi => ?_) ?_ uO
   ·refine zy i (fun x e=>⟨(fun e2=>by cases e2),fun e2=>by cases e2⟩) (fun x e=>⟨fun e2 => ?_,fun e2=>by cases e2⟩) (fun _=>⟨(fun e=>by cases e),fun e=>by cases e⟩)
    cases e2;exact hi e
   ·rw[xx,h8]
  ·exact eP (eP X.W h4) (Nat.mod_lt _ (by decide))
  ·refine U5 X X.kC hR rfl rfl (fun j hj=>kJ (fun e=>by cases e) (fun e=>by cases e;exact hj rfl)) (fun _=>⟨rfl,rfl⟩) rfl ?_
   rw[xx,h7];show aF c _ { t with pc:=21 }+17+_≤aF c st t+_;unfold aF base pen;simp[hpc,ai,AA];all_goals (try(repeat' split))<;>omega
 ·rw[if_neg hc]at hs
  have hT:t.T≠st.pt k:=fun e=>hc ⟨(h5.2 e).1.symm,e.symm⟩;refine aM.read X (t':={ t with pc:=30 }) (pc:=33) (pc':=30) hpc rfl rfl hs ?_ rfl rfl rfl aL ?_
  ·unfold At
   exact⟨h1,h2⟩
  ·unfold aF base pen
   simp[hpc,ai,AA,Ne.symm hT]
theorem p63 (X:Cx c mn cp st g k t)(hpc:t.pc=63):∃ t' g' st',aM c mn cp st g k t t' g' st':=by
 have hA:=X.at_;unfold At at hA;rw[hpc]at hA;have ai:=X.aB;have aL:=X.w0 (by omega) (by omega);have hC:=X.C;have hS:=X.S;have hO:=X.O;have bN:=X.cp;have G:=X.I.G;obtain⟨h1,h2,h3,⟨a,b,h4,h4a,h4b⟩,h5,h6⟩:=hA;have eD:0≤b:=by
  unfold partOf at h4;split at h4
  ·cases h4
   omega
  ·split at h4
   ·cases h4
    omega
   ·cases h4
 have hs:iO c mn cp g t=if pw (st.sl (.part k))=t.N∧st.pt k=t.T then some ({ t with fin:=1 },(g.set (nD k) (qF (sn t:Int) (b+1))).set (nD k+1) ((t.T+1) % jC)) else some ({ t with pc:=60 },g):=by
  rw[kZ (by omega) (by omega)];unfold dZ;rw[hpc];refine(fM h2).trans ((Zo9 h4).trans ((dQ (by omega)).trans ?_));rw[ai];exact uo (X.Kr X.kC) (X.Kt X.kC)
 have cB:=h1.own G;by_cases hc:pw (st.sl (.part k))=t.N∧st.pt k=t.T
 ·rw[if_pos hc]at hs
  have uO:st.pt k+1=(t.T+1) % jC:=by rw[← hc.2];exact(EP X k).2.symm
  have h7:=h5.2 hc.2.symm;obtain⟨hl,Cq⟩:=Lr X k;have JY:b=((st.sl (.part k)).length:Int):=by
   rw[h7,Li Cq hl]at h4;cases h4;rfl
  have hM:vI c cp st (.mine k) (.part k) [sn t] []:={
   ne:=fun e=>by cases e
   src:=fun _=>h1.ms
   at_:=p8 cB
   nd:=by simp
   ad:=⟨(fun e=>by cases e),fun e=>by cases e⟩
   bd:=fun e=>by cases e
   lv:=p8 h3.1
   k:=fun x e=>by rcases e with e|e|e|e<;>cases e;exact X.kC
   one:=fun x e=>by rcases e with e|e<;>cases e
   fu:=fun e=>by cases e
   sh:=fun e=>by cases e
   hp:=fun x e=>p8 h3.2
   oh:=fun x e=>by cases e
   cP:=fun x e=>⟨by rw[h6,h7];rfl,(G.cP k).1⟩
   cS:=fun e=>by cases e
   cap:=fun x e=>by
    show(st.sl (.part k)).length+1≤cp;omega }
  have hR:∀ j,j≠k→bB c j none (some k) st (di st (.mine k) (.part k) [sn t] []):=fun j hj=>zn (k:=k) hj (fun _ e=>by rcases e with e|e<;>cases e;rfl) (fun _ e=>by rcases e with e|e<;>cases e) (fun x e=>by rcases e with e|e<;>cases e) (fun x e=>by rcases e with e|e<;>cases e;rfl) (fun _ e=>by cases e) (fun e=>by cases e) (fun e=>by cases e) (fun x e=>by cases e);have D5:(di st (.mine k) (.part k) [sn t] []).sl (.part k)=[sn t]++st.sl (.part k):=Dg;have hpw:pw ([sn t]++st.sl (.part k))=qF (sn t:Int) (b+1):=by
   rw[JY];rfl
  refine aM.Dw X (di st (.mine k) (.part k) [sn t] []) (hx:=none) (px:=some k) hs rfl rfl (zm G hM) hR rfl rfl rfl rfl ⟨zw (fun e=>by cases e),fun x => ?_,?_⟩ (X.uj (by rw[hpc];decide)) ?_ ?_ ?_ ?_ (fun e=>absurd e (X.rC (by rw[hpc];decide)))
  ·refine(h1.ob x).trans ?_
   split<;>split<;>rfl
  ·exact(kJ (st:=st) (y:=.chain k) (a:=.mine k) (b:=.part k) (l1:=[sn t]) (l2:=[]) (fun e=>by cases e) (fun e=>by cases e)).trans h1.ch
  ·refine Us X X.kC (fun i hi => ?_) ?_ uO
   ·refine zy i (fun x e=>⟨(fun e2=>by cases e2),fun e2=>by cases e2⟩) (fun x e=>⟨(fun e2=>by cases e2),fun e2 => ?_⟩) (fun _=>⟨(fun e=>by cases e),fun e=>by cases e⟩)
    cases e2;exact hi e
   ·rw[D5,hpw]
  ·refine eP (eP X.W ?_) (Nat.mod_lt _ (by decide))
   have:=dG h2;unfold qF;omega
  ·refine U5 X X.kC hR rfl rfl (fun j hj=>kJ (fun e=>by cases e;exact hj rfl) (fun e=>by cases e)) (fun _=>⟨rfl,rfl⟩) rfl ?_
   rw[D5];show 0+17+_≤aF c st t+_;have hb:base c st t=64:=by
    unfold base;rw[hpc];rfl
   unfold aF;simp;omega
  ·rw[if_neg (X.rC (by rw[hpc];decide))]
   exact fun _ _=>Iff.rfl
 ·rw[if_neg hc]at hs
  have hT:t.T≠st.pt k:=fun e=>hc ⟨(h5.2 e).symm,e.symm⟩;refine aM.read X (t':={ t with pc:=60 }) (pc:=63) (pc':=60) hpc rfl rfl hs ?_ rfl rfl rfl aL ?_
  ·unfold At
   exact⟨h1,h2,h3⟩
  ·unfold aF base pen
   simp[hpc,ai,Ne.symm hT]
theorem p74 (X:Cx c mn cp st g k t)(hpc:t.pc=74):∃ t' g' st',aM c mn cp st g k t t' g' st':=by
 have hA:=X.at_;unfold At at hA;rw[hpc]at hA;have ai:=X.aB;have aL:=X.w0 (by omega) (by omega);have hC:=X.C;have hS:=X.S;have hO:=X.O;have G:=X.I.G;obtain⟨h1,h2,h3⟩:=hA;have hf:t.for_.toNat<c.C:=by
  have:=h2.1;have:=h2.2;omega
 have hr:=X.Kr hf;obtain⟨hl,hb⟩:=Lr X t.for_.toNat;cases hP:st.sl (.part t.for_.toNat) with
 |nil =>
  have hs:iO c mn cp g t=some ({ t with N:=0,fin:=1 },g):=by
   rw[iP (by omega)];unfold bG;rw[hpc];refine(dQ (show 0≤t.for_∧t.for_<c.C from h2)).trans ((dM hr).trans ?_);rw[hP];rfl
  refine aM.Dw X st (hx:=none) (px:=none) hs rfl rfl G (fun j hj=>bB.refl) rfl rfl rfl rfl h1 (X.uj (by rw[hpc];decide)) (X.E.same fun i _=>vN i) X.W (jX X (fun j hj=>bB.refl) rfl rfl (fun _=>rfl) rfl rfl rfl ?_) ?_
  ·show 0+1≤aF c st t
   have hb:base c st t=19:=by
    unfold base;rw[hpc];rfl
   unfold aF;omega
  ·rw[if_neg (X.rC (by rw[hpc];decide))]
   exact fun _ _=>Iff.rfl
 |cons s r =>
  have hs:=nY X.I.G (x:=.part t.for_.toNat) rfl (s:=s) (by rw[hP];exact ZnJ);refine aM.read X (t':={ t with N:=pw (st.sl (.part t.for_.toNat)),pc:=75 }) (pc:=74) (pc':=75) hpc rfl rfl ?_ ?_ rfl rfl rfl aL ?_
  ·rw[iP (by omega)]
   unfold bG;rw[hpc];refine(dQ (show 0≤t.for_∧t.for_<c.C from h2)).trans ((dM hr).trans ((Jg hb hl).trans ?_));rw[hP];show(if (s:Int) = -1 then _ else need (0≤(s:Int)∧(s:Int)<c.S) _)=_;rw[if_neg (by omega),dQ (by omega)]
  ·unfold At
   exact⟨h1,h2,⟨by show pw (st.sl (.part t.for_.toNat))≠0;rw[hP];exact UF,ZtG hb hl⟩,h3,fun _=>rfl⟩
  ·unfold aF base pen
   simp[hpc];all_goals (try(repeat' split))<;>omega
theorem p75 (X:Cx c mn cp st g k t)(hpc:t.pc=75):∃ t' g' st',aM c mn cp st g k t t' g' st':=by
 have hA:=X.at_;unfold At at hA;rw[hpc]at hA;have ai:=X.aB;have aL:=X.w0 (by omega) (by omega);have hC:=X.C;have hS:=X.S;have hO:=X.O;have G:=X.I.G;obtain⟨h1,h2,h3,h5⟩:=hA;have lg:t.for_.toNat<c.C:=by
  have:=h2.1;have:=h2.2;omega
 obtain⟨f,hf⟩:=Zx9 (t.for_.toNat);rw[hf]at lg h5;have hs:iO c mn cp g t=if pw (st.sl (.part f))=t.N∧st.pt f=t.T then some ({ t with H:=t.N,pc:=79 },(g.set (nD f) 0).set (nD f+1) ((t.T+1) % jC)) else some ({ t with pc:=73 },g):=by
  rw[iP (by omega)];unfold bG;rw[hpc];refine(dQ (show 0≤t.for_∧t.for_<c.C from h2)).trans ?_;rw[hf];exact uo (X.Kr lg) (X.Kt lg)
 by_cases hc:pw (st.sl (.part f))=t.N∧st.pt f=t.T
 ·rw[if_pos hc]at hs
  have uO:st.pt f+1=(t.T+1) % jC:=by rw[← hc.2];exact(EP X f).2.symm
  obtain⟨L,hL⟩:∃ L,L=st.sl (.part f):=⟨_,rfl⟩;have hLo:∀ s∈L,st.own s = .part f:=fun s hs=>(G.sm _ rfl s).1 (by rw[← hL];exact hs);have hLn:L≠[]:=by
   intro e;rw[← hL,e]at hc;exact h3.1 hc.1.symm
  have hM:vI c cp st (.part f) (.chain k) L []:={
   ne:=fun e=>by cases e
   src:=fun _=>by rw[ZxP,hL]
   at_:=hLo
   nd:=by rw[hL];exact G.sd _ rfl
   ad:=⟨(fun e=>by cases e),fun e=>by cases e⟩
   bd:=fun e=>by cases e
   lv:=fun s hs=>(G.hpc s f (.inr (.inl (hLo s hs)))).1
   k:=fun x e=>by rcases e with e|e|e|e<;>cases e;exact X.kC
   one:=fun x e=>by rcases e with e|e<;>cases e
   fu:=fun e=>by cases e
   sh:=fun e=>by cases e
   hp:=fun x e s hs=>(G.hpc s f (.inr (.inl (hLo s hs)))).2
   oh:=fun x e=>by cases e
   cP:=fun x e=>by rw[h1.ch,ZxP,hL];exact(G.cP f).1
   cS:=fun e=>by cases e
   cap:=fun x e=>by cases e }
  have hR:∀ j,j≠k→bB c j none (some f) st (di st (.part f) (.chain k) L []):=fun j hj=>zn (k:=k) hj (fun _ e=>by rcases e with e|e<;>cases e) (fun _ e=>by rcases e with e|e<;>cases e;rfl) (fun x e=>by rcases e with e|e<;>cases e) (fun x e=>by rcases e with e|e<;>cases e;rfl) (fun _ e=>by cases e) (fun e=>by cases e) (fun e=>by cases e) (fun x e=>by cases e);have xx:(di st (.part f) (.chain k) L []).sl (.part f)=[]:=zw (fun e=>by cases e);have D5:(di st (.part f) (.chain k) L []).sl (.chain k)=L:=by rw[Dg,h1.ch,ZxP]
  refine aM.iI X (di st (.part f) (.chain k) L []) (hx:=none) (px:=some f) (t':={ t with H:=t.N,pc:=79 }) (pc:=75) (pc':=79) hpc rfl rfl hs rfl rfl rfl (.inl ⟨aL,by decide⟩) (zm G hM) hR rfl rfl rfl rfl ?_ (fun e=>absurd e (X.uj (by rw[hpc];decide))) ?_ ?_ ?_ (fun _ _=>Iff.rfl) (fun e=>absurd e (X.rC (by rw[hpc];decide)))
  ·unfold At
   refine⟨L,⟨?_,fun x=>(h1.ob x),D5⟩,hLn,?_⟩
   ·exact(kJ (st:=st) (y:=.mine k) (a:=.part f) (b:=.chain k) (l1:=L) (l2:=[]) (fun e=>by cases e) (fun e=>by cases e)).trans h1.ms
   ·show t.N=pw L
    rw[hL,hc.1]
  ·refine Us X lg (fun i hi => ?_) ?_ uO
   ·refine zy i (fun x e=>⟨(fun e2=>by cases e2),fun e2=>by cases e2⟩) (fun x e=>⟨fun e2 => ?_,fun e2=>by cases e2⟩) (fun _=>⟨(fun e=>by cases e),fun e=>by cases e⟩)
    cases e2;exact hi e
   ·rw[xx]
    rfl
  ·exact eP (eP X.W (by omega)) (Nat.mod_lt _ (by decide))
  ·refine U5 X lg hR rfl rfl (fun j hj=>kJ (fun e=>by cases e) (fun e=>by cases e;exact hj rfl)) (fun _=>⟨rfl,rfl⟩) rfl ?_
   rw[xx,← hL];show aF c (di st (.part f) (.chain k) L []) { t with H:=t.N,pc:=79 }+17+_≤aF c st t+_;have hlen:1≤L.length:=by
    cases hL2:L with
    |nil=>exact absurd hL2 hLn
    |cons a r=>simp
   have hb:base c st t=18:=by
    unfold base;rw[hpc];rfl
   have Hu:base c (di st (.part f) (.chain k) L []) { t with H:=t.N,pc:=79 }=36 * L.length:=by
    show 36 * ((di st (.part f) (.chain k) L []).sl (.chain t.aB)).length=_;rw[ai,D5]
   have mD:pen c (di st (.part f) (.chain k) L []) { t with H:=t.N,pc:=79 }=0:=by
    unfold pen;simp
   unfold aF;simp only[List.length_nil];omega
 ·rw[if_neg hc]at hs
  have hT:t.T≠st.pt f:=fun e=>hc ⟨(h5.2 e).symm,e.symm⟩;refine aM.read X (t':={ t with pc:=73 }) (pc:=75) (pc':=73) hpc rfl rfl hs ?_ rfl rfl rfl aL ?_
  ·unfold At
   exact⟨h1,h2⟩
  ·unfold aF base pen
   simp[hpc,hf,Ne.symm hT]
theorem p79 (X:Cx c mn cp st g k t)(hpc:t.pc=79):∃ t' g' st',aM c mn cp st g k t t' g' st':=by
 have hA:=X.at_;unfold At at hA;rw[hpc]at hA;have ai:=X.aB;have aL:=X.w0 (by omega) (by omega);have hC:=X.C;have hS:=X.S;have hO:=X.O;have G:=X.I.G;obtain⟨ch,h1,h2,h3⟩:=hA;cases gM:ch with
 |nil=>exact absurd gM h2
 |cons a r =>
  subst gM;have bY:∀ s∈a::r,s<c.S:=fun s hs=>nY G (x:=.chain k) rfl (by rw[h1.ch];exact hs);have ha:=bY a ZnJ;have hlen:(a::r).length≤c.S:=zP (h1.ch ▸ G.sd (.chain k) rfl) bY;simp only[ZxJ]at hlen;have hcP:=(G.cP k).2;rw[h1.ch]at hcP;have ho:st.own a = .chain k:=(G.sm _ rfl a).1 (by rw[h1.ch];exact ZnJ);have ic:=G.hpc a k (.inr (.inr ho));have WL:gq r (-1)<c.S:=by
   cases r with
   |nil =>
    show(-1:Int)<c.S;omega
   |cons b r =>
    have:=bY b (by simp);show(b:Int)<c.S;omega
  have hs:iO c mn cp g t=some ({ t with H:=pw r,aA:=(a:Int),obj := -1,many:=0,back:=79,pc:=80 },g):=by
   rw[iP (by omega)];unfold bG;rw[hpc];show ut t.H _=_;rw[h3];refine(Jg (fun s hs=>by have:=bY s hs;omega) (by simp only[ZxJ];omega)).trans ?_;refine(dQ (show 0≤(a:Int)∧(a:Int)<c.S by omega)).trans ((dM (X.yR ha)).trans ?_);rw[hcP.1];refine(Jg (fun s hs=>by have:=bY s (ZnQ _ hs);omega) (by omega)).trans ?_;rw[dQ WL];rfl
  have hM:vI c cp st (.chain k) (.mine k) [a] r:={
   ne:=fun e=>by cases e
   src:=fun _=>h1.ch
   at_:=p8 ho
   nd:=by simp
   ad:=⟨(fun e=>by cases e),fun e=>by cases e⟩
   bd:=fun e=>by cases e
   lv:=p8 ic.1
   k:=fun x e=>by rcases e with e|e|e|e<;>cases e;exact X.kC
   one:=fun x e=>by rw[h1.ms];simp
   fu:=fun e=>by cases e
   sh:=fun e=>by cases e
   hp:=fun x e=>by rcases e with e|e|e<;>cases e
   oh:=fun x e=>by cases e
   cP:=fun x e=>by rcases e with e|e<;>cases e
   cS:=fun e=>by cases e
   cap:=fun x e=>by cases e }
  have hR:∀ j,j≠k→bB c j none none st (di st (.chain k) (.mine k) [a] r):=fun j hj=>zn (k:=k) hj (fun _ e=>by rcases e with e|e<;>cases e;rfl) (fun _ e=>by rcases e with e|e<;>cases e;rfl) (fun x e=>by rcases e with e|e<;>cases e) (fun x e=>by rcases e with e|e<;>cases e) (fun _ e=>by cases e) (fun e=>by cases e) (fun e=>by cases e) (fun x e=>by cases e);have xx:(di st (.chain k) (.mine k) [a] r).sl (.chain k)=r:=zw (fun e=>by cases e);refine aM.iI X (di st (.chain k) (.mine k) [a] r) (hx:=none) (px:=none) (t':={ t with H:=pw r,aA:=(a:Int),obj := -1,many:=0,back:=79,pc:=80 }) (pc:=79) (pc':=80) hpc rfl rfl hs rfl rfl rfl (.inl ⟨aL,by decide⟩) (zm G hM) hR rfl rfl rfl rfl ?_ (fun e=>absurd e (X.uj (by rw[hpc];decide))) (X.E.same fun i _ => ?_) X.W (jX X hR rfl rfl (fun _=>kJ (fun e=>by cases e) (fun e=>by cases e)) rfl rfl rfl ?_) (fun _ _=>Iff.rfl) (fun e=>absurd e (X.rC (by rw[hpc];decide)))
  ·unfold At
   refine⟨[],r,⟨?_,fun x => ?_,xx⟩,⟨by show(0:Int)≤a;omega,by show(a:Int)<c.S;omega⟩,ic,rfl,.inr (.inr (.inr ⟨rfl,rfl⟩)),rfl,trivial⟩
   ·exact(Dg (st:=st) (a:=.chain k) (b:=.mine k) (l1:=[a]) (l2:=r)).trans (by rw[h1.ms];rfl)
   ·refine(h1.ob x).trans ?_
    split<;>split<;>rfl
  ·rw[vN]
   exact zy i (fun x e=>⟨(fun e2=>by cases e2),fun e2=>by cases e2⟩) (fun x e=>⟨(fun e2=>by cases e2),fun e2=>by cases e2⟩) (fun _=>⟨(fun e=>by cases e),fun e=>by cases e⟩)
  ·show aF c (di st (.chain k) (.mine k) [a] r) { t with H:=pw r,aA:=(a:Int),obj := -1,many:=0,back:=79,pc:=80 }+1≤aF c st t
   have hb:base c st t=36 * (r.length+1):=by
    unfold base;rw[hpc];show 36 * (st.sl (.chain t.aB)).length=_;rw[ai,h1.ch];rfl
   unfold aF;rw[hb];unfold base pen;simp[hpc,ai,cont,xx];omega
end
end Cv
namespace Cv
open See Cw
section
variable {c:Ch}{mn cp:Nat}{st st1 st':St}{g g':List Nat}{k:Nat}{t t':Tk}
theorem Loc.lim (G:dH c mn cp st)(hO:1≤c.O)(h:Loc c mn cp st k t){s:Nat}(ho:st.own s = .mine k)(hl:st.lv s=true)(hf:st.dh s=false):st.hold=some k∧st.ol s .first≠[]:=by
 have hm:=(G.sm (.mine k) rfl s).2 ho;have h0:∀ {x:Nat} {l ch:List Nat},Has st k [] x l ch→False:=fun h=>by
  rw[h.ms]at hm;cases hm
 have h1:∀ {y x:Nat} {l ch:List Nat},Has st k [y] x l ch→s=y:=fun h=>by
  rw[h.ms,ZxE]at hm;exact hm
 have h2:∀ {y x:Nat} {l ch:List Nat},Has st k [y] x l ch→Live st y→False:=fun h h'=>by
  have:=h1 h;subst this;rw[h'.2]at hf;cases hf
 have h3:∀ {y x:Nat} {l ch:List Nat},Has st k [y] x l ch→st.lv y=false→False:=fun h h'=>by
  have:=h1 h;subst this;rw[h']at hl;cases hl
 have h4:∀ {y x:Nat} {l ch:List Nat},Has st k [y] x l ch→Full c st y→st.ol s .first≠[]:=fun h h' e=>by
  have:=h1 h;subst this;unfold Full at h';rw[e]at h';simp at h';omega
 have aC:=h.want;have h:=h.at_;unfold At at h;split at h
 all_goals first
  |exact(h0 h).elim
  |exact(h0 h.1).elim
  |exact(h2 h.1 h.2.2.1).elim
  |exact h.elim
  |skip
 case h_20 =>
  obtain⟨⟨l,h5,-⟩,-⟩:=h;exact(h0 h5).elim
 case h_21 =>
  obtain⟨⟨l,h5,-⟩,-⟩:=h;exact(h0 h5).elim
 case h_22 =>
  obtain⟨⟨l,h5,-⟩,-,-,-,-,h6⟩:=h;exact(h2 h5 h6).elim
 case h_23 =>
  obtain⟨⟨l,h5,-⟩,-,-,-,-,h6⟩:=h;exact(h2 h5 h6).elim
 case h_24 =>
  obtain⟨⟨l,h5,-⟩,-,-,-,h6⟩:=h;exact(h2 h5 h6).elim
 case h_25 =>
  obtain⟨⟨l,h5,-⟩,-,-,-,h6⟩:=h;exact(h2 h5 h6).elim
 case h_26 =>
  obtain⟨⟨l,h5,-⟩,-,-,-,h6,-⟩:=h;exact(h2 h5 h6).elim
 case h_27 =>
  rename_i hpc;rcases aC with hw|hw|hw
  ·exact(h3 (h.2 hw).1 (h.2 hw).2.2.2.1).elim
  ·exact(h0 (h.1 hw.2).1).elim
  ·rw[hpc]at hw
   cases hw.1
 case h_43=>exact(h2 h.1 h.2.2).elim
 case h_28=>exact(h3 h.1 h.2.2.2.1).elim
 case h_51=>exact⟨h.2.2.2.2.2.hold,h4 h.1 h.2.2.2.1⟩
 case h_58 =>
  obtain⟨ch,h5,-⟩:=h;exact(h0 h5).elim
 case h_59 =>
  obtain⟨l,ch,h5,-,h6,-⟩:=h;exact(h2 h5 h6).elim
 case h_60 =>
  obtain⟨l,ch,h5,-,h6,-⟩:=h;exact(h2 h5 h6).elim
 case h_61 =>
  obtain⟨l,ch,h5,-,h6,-⟩:=h;exact(h2 h5 h6).elim
 case h_62 =>
  obtain⟨l,ch,h5,-,h6,-⟩:=h;exact(h2 h5 h6).elim
 case h_63 =>
  obtain⟨l,ch,h5,-,h6,-⟩:=h;exact(h2 h5 h6).elim
 case h_64 =>
  obtain⟨l,ch,h5,-,h6,-⟩:=h;exact(h2 h5 h6).elim
 case h_65 =>
  obtain⟨ch,h5,-,-,h6,-,h7,-⟩:=h;exact⟨h7.hold,h4 h5 h6⟩
 case h_66 =>
  obtain⟨ch,h5,-,-,h6,-,h7,-⟩:=h;have:=h1 h5;subst this;exact⟨h7.hold,h6⟩
 case h_67 =>
  obtain⟨ch,h5,-,-,h6,-,h7,-⟩:=h;have:=h1 h5;subst this;exact⟨h7.hold,h6⟩
 case h_68 =>
  obtain⟨ch,h5,-,-,h6,-,h7,-⟩:=h;have:=h1 h5;subst this;exact⟨h7.hold,h6⟩
 case h_69 =>
  obtain⟨ch,h5,-⟩:=h;exact(h0 h5).elim
 case h_70 =>
  obtain⟨ch,h5,-⟩:=h;exact(h0 h5).elim
 case h_71 =>
  obtain⟨ch,h5,-,-,h6,-,h7,-⟩:=h;exact⟨h7.hold,h4 h5 h6⟩
 case h_72 =>
  obtain⟨l,ch,h5,-,h6,-⟩:=h;exact(h3 h5 h6).elim
 case h_73 =>
  obtain⟨l,ch,h5,-,h6,-⟩:=h;exact(h3 h5 h6).elim
 case h_82=>exact⟨h.2.2.2.2.2.hold,h4 h.1 h.2.2.2.1⟩
theorem Inv.Zw (I:Inv c mn cp st)(hO:1≤c.O){s:Nat}(hl:st.lv s=true)(hf:st.dh s=false):st.own s = .full∧st.ol s .first=[]∨st.own s = .shelf∧st.ol s .first≠[]∨∃ j,st.own s = .mine j∧st.hold=some j∧st.ol s .first≠[]:=by
 have G:=I.G;have lZ:∀ x,(st.own s = .head x∨st.own s = .part x∨st.own s = .chain x)→False:=fun x e=>by
  rw[(G.hpc s x e).2]at hf;cases hf
 cases ho:st.own s with
 |dead =>
  rw[G.dead s ho]at hl;cases hl
 |full=>exact .inl ⟨rfl,(G.full s ho).2.2⟩
 |shelf =>
  refine .inr (.inl ⟨rfl,?_⟩);refine((G.shelf s ho).2 fun e => ?_).2;rw[(G.cuts s e).2]at hf;cases hf
 |head x=>exact(lZ x (.inl ho)).elim
 |part x=>exact(lZ x (.inr (.inl ho))).elim
 |chain x=>exact(lZ x (.inr (.inr ho))).elim
 |mine x =>
  cases ht:st.tk x with
  |none =>
   have h1:=(I.idle x ht).ms;have h2:=(G.sm (.mine x) rfl s).2 ho;rw[h1]at h2;cases h2
  |some t =>
   obtain⟨h1,h2⟩:=(I.loc x t ht).2.lim G hO ho hl hf;exact .inr (.inr ⟨x,rfl,h1,h2⟩)
theorem ZpI {l:List Nat}(h:fw l≠0):∃ a r,l=a::r∧fw l=a+1:=by
 cases l with
 |nil=>exact absurd rfl h
 |cons a r=>exact⟨a,r,rfl,rfl⟩
theorem T9 {l:List Nat}(h:fw l=0):l=[]:=by
 cases l with
 |nil=>rfl
 |cons a r=>cases h
theorem UR (l:List Nat):(fw l:Int) - 1=gq l (-1):=by
 cases l with
 |nil=>rfl
 |cons a r =>
  show((a+1:Nat):Int) - 1=(a:Int);omega
theorem Ms (X:Cx c mn cp st g k t){s iu:Nat}{f:Bool}(hl:st.lv s=true)(hK:t.K=dF iu c.O f true)(jS:iu≤c.O)(h:ct c st s=t.K):iu=c.O - (st.ol s .first).length∧st.dh s=f:=by
 rw[vL hl rfl,hK]at h;have:=pack_inj (by omega) jS X.O.1 X.O.2 h;exact⟨this.1.symm,this.2⟩
theorem GU {s:Nat}(hn:¬(fr st s=t.F∧ct c st s=t.K))(hs:sn t=s)(h:t.pc=23∨t.pc=24∨t.pc=39∨t.pc=52∨t.pc=53∨t.pc=54∨t.pc=55∨t.pc=56∨t.pc=86∨t.pc=87):pen c st t=6:=by
 unfold pen;rw[if_neg (by omega),if_neg (by omega),if_neg (by omega),if_neg (by omega),if_neg (by omega),if_pos h,hs,if_neg hn]
theorem p23 (X:Cx c mn cp st g k t)(hpc:t.pc=23):∃ t' g' st',aM c mn cp st g k t t' g' st':=by
 have hA:=X.at_;unfold At at hA;rw[hpc]at hA;have ai:=X.aB;have aL:=X.w0 (by omega) (by omega);have hC:=X.C;have hS:=X.S;have hO:=X.O;have G:=X.I.G;obtain⟨h1,h2,h3,h4,h5,iu,f,hK,jS,rfl⟩:=hA;have hs:iO c mn cp g t=if fr st (sn t)=t.F∧ct c st (sn t)=t.K then some ({ t with obj:=(t.F:Int) - 1,pc:=40 },(g.set (fq c (sn t)) 0).set (fq c (sn t)+1) (dF c.O c.O true true)) else some ({ t with pc:=21 },g):=by
  rw[jV (by omega) (by omega)];unfold dD;rw[hpc];refine(fM h2).trans ((dQ h5).trans ?_);unfold BV;have hk:=o8 (iu:=iu) (ob:=c.O) (f:=true) (x:=fun iu ob f=>need (f=true) (mK g (fq c (sn t)) t.F t.K 0 (dF (if true=true then ob else iu) ob true true) { t with obj:=(t.F:Int) - 1,pc:=40 } { t with pc:=21 })) jS hO.1 hO.2;rw[← hK]at hk;refine hk.trans ((dQ rfl).trans ?_);exact uo (X.xU (dG h2)) (X.vw (dG h2))
 have cB:=h1.own G;have hb:base c st t=AA c+29:=by
  unfold base;rw[hpc];rfl
 by_cases hc:fr st (sn t)=t.F∧ct c st (sn t)=t.K
 ·rw[if_pos hc]at hs
  obtain⟨o,l,fD,Wh⟩:=ZpI (l:=st.ol (sn t) .first) (by have:=hc.1;unfold fr at this;omega);have hFo:t.F=o+1:=by rw[← hc.1];exact Wh
  have hoO:=(ru G (x:=.first) (s:=sn t) (o:=o) rfl (by rw[fD];exact ZnJ)).2;have hM:kI c st (sn t) .first (.aU k) (o::l) []:=kI.of G rfl (fun e=>by cases e) (by rw[ZxP,fD]) (fun e=>by cases e) (fun _ e=>by cases e) (fun e=>by rcases e with e|⟨_,e⟩<;>cases e) (fun _ e=>by cases e) (fun e=>by rw[cB]at e;cases e) (fun x e=>h3.1) (fun _ _ e=>by cases e);have hR:∀ j,j≠k→bB c j none none st (bW st (sn t) .first (.aU k) (o::l) []):=fun j hj=>wR (k:=k) hj (fun _ e=>by cases e) (fun _ e=>by cases e;rfl) (fun x e=>by rcases e with e|e<;>cases e) (fun _=>.inl cB) (fun e=>by cases e) (fun e=>by cases e);have uY:(bW st (sn t) .first (.aU k) (o::l) []).ol (sn t) .first=[]:=yw (fun e=>by cases e);refine aM.iI X (bW st (sn t) .first (.aU k) (o::l) []) (hx:=none) (px:=none) (t':={ t with obj:=(t.F:Int) - 1,pc:=40 }) (pc:=23) (pc':=40) hpc rfl rfl hs rfl rfl rfl (.inl ⟨aL,by decide⟩) (wQ G hM) hR rfl rfl rfl rfl ?_ (fun e=>absurd e (X.uj (by rw[hpc];decide))) ?_ ?_ ?_ (Br (fun o ho=>by rw[hM.at_ o ho];intro e;cases e) (fun e=>by cases e))
  ·unfold At
   have ow:((t.F:Int) - 1).toNat=o:=(by omega);refine⟨⟨l,⟨h1.ms,fun x => ?_,h1.ch⟩,?_⟩,h4,h2,⟨by show(0:Int)≤(t.F:Int) - 1;omega,by show(t.F:Int) - 1<c.O;omega⟩,h3⟩
   ·show(bW st (sn t) .first (.aU k) (o::l) []).ol x (.aU k)=if x=sn t then ((t.F:Int) - 1).toNat::l else []
    rw[ow];by_cases e:x=sn t
    ·rw[e,zu,if_pos rfl,h1.at_,ZxP]
    ·rw[o6 (fun e2=>e e2.1) (fun e2=>e e2.1),h1.ob,if_neg e,if_neg e]
   ·show gy (st.lk (sn t)) (ky c (sn t)) (((t.F:Int) - 1).toNat::l) (-1)
    rw[ow,← fD];exact G.l1 (sn t)
  ·refine Bz X (dG h2) (fun i hi jy => ?_) ?_ ?_
   ·refine wP i (fun x e=>⟨(fun e2=>by cases e2),fun e2=>by cases e2⟩) (fun x e=>.inl ?_)
    rintro rfl;rcases e with e|e
    ·exact hi e
    ·exact jy e
   ·unfold fr
    rw[uY];rfl
   ·rw[vL (st:=bW st (sn t) .first (.aU k) (o::l) []) h3.1 h3.2,uY]
    rfl
  ·exact eP (eP X.W (by omega)) (ED (by omega) hO.2)
  ·refine zN X (dG h2) hR rfl rfl (fun _=>rfl) (fun _ _=>rfl) ?_
   show 19+0+25+(2 * c.S+33) * iq st (sn t)≤aF c st t+_;unfold aF;unfold AA at hb;omega
 ·rw[if_neg hc]at hs
  refine aM.read X (t':={ t with pc:=21 }) (pc:=23) (pc':=21) hpc rfl rfl hs ?_ rfl rfl rfl aL ?_
  ·unfold At
   exact⟨h1,h2,h3,h4⟩
  ·have:=GU hc rfl (.inl hpc)
   show AA c+31+0+1≤aF c st t;unfold aF;omega
theorem p24 (X:Cx c mn cp st g k t)(hpc:t.pc=24):∃ t' g' st',aM c mn cp st g k t t' g' st':=by
 have hA:=X.at_;unfold At at hA;rw[hpc]at hA;have ai:=X.aB;have aL:=X.w0 (by omega) (by omega);have hC:=X.C;have hS:=X.S;have hO:=X.O;have G:=X.I.G;obtain⟨h1,h2,h3,h4,h5,iu,f,hK,jS,rfl⟩:=hA;have hs:iO c mn cp g t=if fr st (sn t)=t.F∧ct c st (sn t)=t.K then some ({ t with pc:=30 },(g.set (fq c (sn t)) 0).set (fq c (sn t)+1) (dF iu c.O false true)) else some ({ t with pc:=21 },g):=by
  rw[jV (by omega) (by omega)];unfold dD;rw[hpc];refine(fM h2).trans ((dQ h5).trans ?_);unfold BV;have hk:=o8 (iu:=iu) (ob:=c.O) (f:=true) (x:=fun iu ob f=>need (f=true) (mK g (fq c (sn t)) t.F t.K 0 (dF (if false=true then ob else iu) ob false true) { t with pc:=30 } { t with pc:=21 })) jS hO.1 hO.2;rw[← hK]at hk;refine hk.trans ((dQ rfl).trans ?_);exact uo (X.xU (dG h2)) (X.vw (dG h2))
 have cB:=h1.own G;have hb:base c st t=AA c+29:=by
  unfold base;rw[hpc];rfl
 by_cases hc:fr st (sn t)=t.F∧ct c st (sn t)=t.K
 ·rw[if_pos hc]at hs
  have fD:st.ol (sn t) .first=[]:=T9 (by have:=hc.1;unfold fr at this;omega);obtain⟨e1,e2⟩:=Ms X h3.1 hK jS hc.2;rw[fD,List.length_nil,Nat.sub_zero]at e1;obtain⟨s1,aP⟩:∃ s1,s1=jr st (sn t) true false:=⟨_,rfl⟩;have G1:dH c mn cp s1:=by rw[aP];exact KW G cB (fun e=>by cases e)
  have mq:s1.lv (sn t)=true:=by rw[aP];exact if_pos rfl
  have qj:s1.dh (sn t)=false:=by rw[aP];exact if_pos rfl
  have hM:vI c cp s1 (.mine k) .full [sn t] []:={
   ne:=fun e=>by cases e
   src:=fun _=>by rw[aP];exact h1.ms
   at_:=p8 (by rw[aP];exact cB)
   nd:=by simp
   ad:=⟨(fun e=>by cases e),fun e=>by cases e⟩
   bd:=fun e=>by cases e
   lv:=p8 mq
   k:=fun x e=>by rcases e with e|e|e|e<;>cases e
   one:=fun x e=>by rcases e with e|e<;>cases e
   fu:=fun e=>p8 ⟨qj,by rw[aP];exact fD⟩
   sh:=fun e=>by cases e
   hp:=fun x e=>by rcases e with e|e|e<;>cases e
   oh:=fun x e=>by cases e
   cP:=fun x e=>by rcases e with e|e<;>cases e
   cS:=fun e=>by cases e
   cap:=fun x e=>by cases e }
  have R1:∀ j,j≠k→bB c j none none st s1:=fun j hj=>by rw[aP];exact Ld hj cB
  have R2:∀ j,j≠k→bB c j none none s1 (di s1 (.mine k) .full [sn t] []):=fun j hj=>zn (k:=k) hj (fun _ e=>by rcases e with e|e<;>cases e;rfl) (fun _ e=>by rcases e with e|e<;>cases e) (fun x e=>by rcases e with e|e<;>cases e) (fun x e=>by rcases e with e|e<;>cases e) (fun _ e=>by cases e) (fun e=>by cases e) (fun e=>by cases e) (fun x e=>by cases e);have hR:∀ j,j≠k→bB c j none none st (di s1 (.mine k) .full [sn t] []):=fun j hj=>(R1 j hj).trans G G1 (R2 j hj);refine aM.iI X (di s1 (.mine k) .full [sn t] []) (hx:=none) (px:=none) (t':={ t with pc:=30 }) (pc:=24) (pc':=30) hpc rfl rfl hs rfl rfl rfl (.inl ⟨aL,by decide⟩) (zm G1 hM) hR (by rw[aP];rfl) (by rw[aP];rfl) (by rw[aP];rfl) (by rw[aP];rfl) ?_ (fun e => ?_) ?_ ?_ ?_ (fun _ _=>by rw[aP];exact Iff.rfl) (fun _ s => ?_)
  ·unfold At
   refine⟨⟨?_,fun x => ?_,?_⟩,?_⟩
   ·exact zw (st:=s1) (a:=.mine k) (b:=.full) (l1:=[sn t]) (l2:=[]) (fun e=>by cases e)
   ·rw[aP]
    refine(h1.ob x).trans ?_;split<;>split<;>rfl
   ·refine(kJ (st:=s1) (y:=.chain k) (a:=.mine k) (b:=.full) (l1:=[sn t]) (l2:=[]) (fun e=>by cases e) (fun e=>by cases e)).trans ?_
    rw[aP];exact h1.ch
   ·refine(kJ (st:=s1) (y:=.head k) (a:=.mine k) (b:=.full) (l1:=[sn t]) (l2:=[]) (fun e=>by cases e) (fun e=>by cases e)).trans ?_
    rw[aP];exact h4
  ·rw[aP]at e
   exact absurd e (X.uj (by rw[hpc];decide))
  ·refine Bz X (dG h2) (fun i hi jy => ?_) ?_ ?_
   ·rw[zy i (fun x e=>⟨(fun e2=>by cases e2),fun e2=>by cases e2⟩) (fun x e=>⟨(fun e2=>by cases e2),fun e2=>by cases e2⟩) (fun _=>⟨(fun e=>by cases e),fun e=>by cases e⟩),aP]
    exact Lc i jy
   ·show fw (s1.ol (sn t) .first)=0
    rw[aP];show fw (st.ol (sn t) .first)=0;rw[fD];rfl
   ·rw[vL (st:=di s1 (.mine k) .full [sn t] []) mq qj]
    show dF (c.O - (s1.ol (sn t) .first).length) c.O false true=_;rw[aP];show dF (c.O - (st.ol (sn t) .first).length) c.O false true=_;rw[fD,e1];rfl
  ·exact eP (eP X.W (by omega)) (ED (by omega) hO.2)
  ·refine zN X (dG h2) hR (by rw[aP];rfl) (by rw[aP];rfl) (fun _ => ?_) (fun x hx => ?_) ?_
   ·rw[kJ (fun e=>by cases e) (fun e=>by cases e),aP]
    rfl
   ·rw[aP]
    exact if_neg hx
   ·have e3:iq (di s1 (.mine k) .full [sn t] []) (sn t)=iq st (sn t):=by
     unfold iq;rw[show(di s1 (.mine k) .full [sn t] []).lv (sn t)=true from mq,h3.1]
    rw[e3];show AA c+4+0+25+_≤aF c st t+_;unfold aF;omega
  ·by_cases e:s∈[sn t]
   ·refine .inr (.inr (.inr ⟨if_pos e,?_⟩))
    rw[ZxE]at e;rw[e];exact⟨cB,fD⟩
   ·refine .inl ((if_neg e).trans ?_)
    rw[aP];rfl
 ·rw[if_neg hc]at hs
  refine aM.read X (t':={ t with pc:=21 }) (pc:=24) (pc':=21) hpc rfl rfl hs ?_ rfl rfl rfl aL ?_
  ·unfold At
   exact⟨h1,h2,h3,h4⟩
  ·have:=GU hc rfl (.inr (.inl hpc))
   show AA c+31+0+1≤aF c st t;unfold aF;omega
theorem p39 (X:Cx c mn cp st g k t)(hpc:t.pc=39):∃ t' g' st',aM c mn cp st g k t t' g' st':=by
 have hA:=X.at_;unfold At at hA;rw[hpc]at hA;have ai:=X.aB;have aL:=X.w0 (by omega) (by omega);have hC:=X.C;have hS:=X.S;have hO:=X.O;have G:=X.I.G;obtain⟨h1,h4,hl,h2,⟨r,hr⟩,h5,iu,f,hK,jS,rfl⟩:=hA;have hs:iO c mn cp g t=if fr st (sn t)=t.F∧ct c st (sn t)=t.K then some ({ t with obj:=(t.F:Int) - 1,pc:=46 },(g.set (fq c (sn t)) 0).set (fq c (sn t)+1) (dF c.O c.O true true)) else some ({ t with pc:=37 },g):=by
  rw[jV (by omega) (by omega)];unfold dD;rw[hpc];refine(fM h2).trans ((dQ h5).trans ?_);unfold BV;have hk:=o8 (iu:=iu) (ob:=c.O) (f:=false) (x:=fun iu ob f=>need (f=false) (mK g (fq c (sn t)) t.F t.K 0 (dF (if true=true then ob else iu) ob true true) { t with obj:=(t.F:Int) - 1,pc:=46 } { t with pc:=37 })) jS hO.1 hO.2;rw[← hK]at hk;refine hk.trans ((dQ rfl).trans ?_);exact uo (X.xU (dG h2)) (X.vw (dG h2))
 have fE:=yh (p:=[]) G hr;have ic:=(G.shelf _ fE).1;have hb:base c st t=48:=by
  unfold base;rw[hpc];rfl
 by_cases hc:fr st (sn t)=t.F∧ct c st (sn t)=t.K
 ·rw[if_pos hc]at hs
  obtain⟨o,l,fD,Wh⟩:=ZpI (l:=st.ol (sn t) .first) (by have:=hc.1;unfold fr at this;omega);have hFo:t.F=o+1:=by rw[← hc.1];exact Wh
  have hoO:=(ru G (x:=.first) (s:=sn t) (o:=o) rfl (by rw[fD];exact ZnJ)).2;obtain⟨s1,aP⟩:∃ s1,s1=zK st (sn t):=⟨_,rfl⟩;have G1:dH c mn cp s1:=by rw[aP];exact Zme G fE hl.hold hl.cut
  have qj:s1.dh (sn t)=true:=by rw[aP];exact if_pos rfl
  have mq:s1.lv (sn t)=true:=by rw[aP];exact ic
  have hM:kI c s1 (sn t) .first (.aU k) (o::l) []:=kI.of G1 rfl (fun e=>by cases e) (by rw[ZxP,aP];exact fD) (fun e=>by cases e) (fun _ e=>by cases e) (fun e=>by rcases e with e|⟨_,e⟩<;>cases e) (fun _ e=>by cases e) (fun _ e=>absurd (by rw[aP];rfl) e) (fun x e=>mq) (fun _ _ e=>by cases e);have R1:∀ j,j≠k→bB c j none none st s1:=fun j hj=>by rw[aP];exact Zmf hj fE hl.hold
  have R2:∀ j,j≠k→bB c j none none s1 (bW s1 (sn t) .first (.aU k) (o::l) []):=fun j hj=>wR (k:=k) hj (fun _ e=>by cases e) (fun _ e=>by cases e;rfl) (fun x e=>by rcases e with e|e<;>cases e) (fun _=>.inr (by rw[aP];exact⟨hl.hold,fE⟩)) (fun e=>by cases e) (fun e=>by cases e);have hR:∀ j,j≠k→bB c j none none st (bW s1 (sn t) .first (.aU k) (o::l) []):=fun j hj=>(R1 j hj).trans G G1 (R2 j hj);have uY:(bW s1 (sn t) .first (.aU k) (o::l) []).ol (sn t) .first=[]:=yw (fun e=>by cases e);have ow:((t.F:Int) - 1).toNat=o:=by omega
  have Aj:s1.loc=st.loc:=by rw[aP];rfl
  have Ir:s1.ol=st.ol:=by rw[aP];rfl
  refine aM.iI X (bW s1 (sn t) .first (.aU k) (o::l) []) (hx:=none) (px:=none) (t':={ t with obj:=(t.F:Int) - 1,pc:=46 }) (pc:=39) (pc':=46) hpc rfl rfl hs rfl rfl rfl (.inl ⟨aL,by decide⟩) (wQ G1 hM) hR (by rw[aP];rfl) (by rw[aP];rfl) (by rw[aP];rfl) (by rw[aP];rfl) ?_ (fun _=>⟨rfl,aL⟩) ?_ ?_ ?_ (fun x y => ?_) (fun _ s=>by rw[aP];exact .inl rfl)
  ·unfold At
   refine⟨⟨l,⟨?_,fun x => ?_,?_⟩,?_⟩,?_,h2,⟨by show(0:Int)≤(t.F:Int) - 1;omega,by show(t.F:Int) - 1<c.O;omega⟩,⟨?_,?_,?_,?_⟩,⟨r,?_⟩,mq,qj⟩
   ·rw[aP]
    exact h1.ms
   ·show(bW s1 (sn t) .first (.aU k) (o::l) []).ol x (.aU k)=if x=sn t then ((t.F:Int) - 1).toNat::l else []
    rw[ow];by_cases e:x=sn t
    ·rw[e,zu,if_pos rfl,Ir,h1.ob]
     split<;>exact ZxP _
    ·rw[o6 (fun e2=>e e2.1) (fun e2=>e e2.1),Ir,h1.ob,if_neg e]
     split<;>rfl
   ·rw[aP]
    exact h1.ch
   ·rw[aP]
    show gy (st.lk (sn t)) (ky c (sn t)) (((t.F:Int) - 1).toNat::l) (-1);rw[ow,← fD];exact G.l1 (sn t)
   ·rw[aP]
    exact h4
   ·rw[aP]
    exact hl.hold
   ·rw[aP]
    rfl
   ·rw[aP]
    exact hl.held
   ·refine ZxL (m:=lT c st) ?_ hl.em
    have mo:(tick (bW s1 (sn t) .first (.aU k) (o::l) []) none none k (some { t with obj:=(t.F:Int) - 1,pc:=46 })).sl .shelf=st.sl .shelf:=by
     rw[aP];rfl
    unfold lT;rw[mo];refine Ey fun x hx he => ?_;rw[Zxu]at he ⊢;by_cases e:x=sn t
    ·subst e
     have wm:(!s1.dh (sn t))=true:=he.2;rw[qj]at wm;cases wm
    ·have e1:(tick (bW s1 (sn t) .first (.aU k) (o::l) []) none none k (some { t with obj:=(t.F:Int) - 1,pc:=46 })).ol x .first=st.ol x .first:=by
      show(bW s1 (sn t) .first (.aU k) (o::l) []).ol x .first=_;rw[o6 (fun e2=>e e2.1) (fun e2=>e e2.1),Ir]
     rw[e1]at he;refine⟨he.1,?_⟩;have wm:(!s1.dh x)=true:=he.2;rw[aP]at wm;have:(zK st (sn t)).dh x=st.dh x:=if_neg e;rw[this]at wm;exact wm
   ·rw[aP]
    exact hr
  ·refine Bz X (dG h2) (fun i hi jy => ?_) ?_ ?_
   ·rw[wP i (fun x e=>⟨(fun e2=>by cases e2),fun e2=>by cases e2⟩) (fun x e=>.inl ?_),aP]
    ·exact Zol i jy
    ·rintro rfl
     rcases e with e|e
     ·exact hi e
     ·exact jy e
   ·unfold fr
    rw[uY];rfl
   ·rw[vL (st:=bW s1 (sn t) .first (.aU k) (o::l) []) mq qj,uY]
    rfl
  ·exact eP (eP X.W (by omega)) (ED (by omega) hO.2)
  ·refine zN X (dG h2) hR (by rw[aP];rfl) (by rw[aP];rfl) (fun _=>by rw[aP];rfl) (fun _ _=>by rw[aP];rfl) ?_
   have e3:iq (bW s1 (sn t) .first (.aU k) (o::l) []) (sn t)=iq st (sn t):=by
    unfold iq;rw[show(bW s1 (sn t) .first (.aU k) (o::l) []).lv (sn t)=true from mq,ic]
   rw[e3];show 23+0+25+_≤aF c st t+_;unfold aF;omega
  ·rw[Br (fun o ho=>by rw[hM.at_ o ho];intro e;cases e) (fun e=>by cases e),Aj]
 ·rw[if_neg hc]at hs
  refine aM.read X (t':={ t with pc:=37 }) (pc:=39) (pc':=37) hpc rfl rfl hs ?_ rfl rfl rfl aL ?_
  ·unfold At
   exact⟨h1,h4,hl,h2,r,hr⟩
  ·have:=GU hc rfl (.inr (.inr (.inl hpc)))
   show 50+0+1≤aF c st t;unfold aF;omega
end
end Cv
end Go.Proofs.YtfcpdlbkmkhhcaaGreatDoor
