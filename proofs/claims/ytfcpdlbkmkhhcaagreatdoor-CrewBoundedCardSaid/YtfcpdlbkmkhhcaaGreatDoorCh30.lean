/-
  Texts of this claim, joined. No condition.
-/
import Derived.Test.YtfcpdlbkmkhhcaaGreatDoorCh1
import Derived.Test.YtfcpdlbkmkhhcaaGreatDoorCh29
namespace Go.Proofs.YtfcpdlbkmkhhcaaGreatDoor
set_option maxRecDepth 100000
set_option maxHeartbeats 40000000
namespace Cv
open See Cw
section
variable {c:Ch}{mn cp:Nat}{st st1 st':St}{g g':List Nat}{k:Nat}{t t':Tk}
theorem Y9 {f:Nat→Nat}{key n:Nat}(h:∀ i,i<n→f i=fZ (if ((i+1:Nat):Int)<n then ((i+1:Nat):Int) else -1) key i):∀ m,m≤n→gy f key (List.range' (n - m) m) (-1)
 |0,_=>trivial
 |m+1,hm=>by
  have ih:=Y9 h m (by omega);have e:n - (m+1)+1=n - m:=by omega
  refine⟨?_,by rw[e];exact ih⟩;rw[h _ (by omega),e];cases m with
  |zero =>
   rw[if_neg (by omega)];rfl
  |succ m =>
   rw[if_pos (by omega)];rfl
theorem ZqU {f:Nat→Nat}{key n:Nat}(h:∀ i,i<n→f i=fZ (if ((i+1:Nat):Int)<n then ((i+1:Nat):Int) else -1) key i):gy f key (List.range n) (-1):=by
 have:=Y9 h n (Zxt _);rw[Nat.sub_self]at this;rw[List.range_eq_range'];exact this
theorem p44 (X:Cx c mn cp st g k t)(hpc:t.pc=44):∃ t' g' st',aM c mn cp st g k t t' g' st':=by
 have hA:=X.at_;unfold At at hA;rw[hpc]at hA;have ai:=X.aB;have aL:=X.w0 (by omega) (by omega);have hC:=X.C;have hS:=X.S;have hO:=X.O;have G:=X.I.G;obtain⟨h1,h4,h2,h3,h5⟩:=hA;have hs:iO c mn cp g t=some ({ t with obj:=0,pc:=40 },g.set (fq c (sn t)+1) (dF c.O c.O true true)):=by
  rw[jV (by omega) (by omega)];unfold dD;rw[hpc];exact(fM h2).trans (jW (X.vw (dG h2)))
 have cB:=h1.own G;have fD:st.ol (sn t) .first=[]:=by
  cases hc:st.ol (sn t) .first with
  |nil=>rfl
  |cons a r =>
   have ha:a∈st.ol (sn t) .first:=(by rw[hc];exact ZnJ);have h6:=G.making (sn t) k cB h3 a (ru G (x:=.first) rfl ha).2;rw[(G.om _ _ rfl a).1 ha]at h6;cases h6
 have hR:∀ j,j≠k→bB c j none none st (jr st (sn t) true true):=fun j hj=>Ld hj cB;have mq:(jr st (sn t) true true).lv (sn t)=true:=if_pos rfl;have qj:(jr st (sn t) true true).dh (sn t)=true:=if_pos rfl;have iK:List.range c.O=0::List.range' 1 (c.O - 1):=by
  obtain⟨n,hn⟩:∃ n,c.O=n+1:=⟨c.O - 1,by omega⟩;rw[hn,List.range_eq_range'];rfl
 refine aM.iI X (jr st (sn t) true true) (hx:=none) (px:=none) (t':={ t with obj:=0,pc:=40 }) (pc:=44) (pc':=40) hpc rfl rfl hs rfl rfl rfl (.inl ⟨aL,by decide⟩) (KW G cB (fun e=>by cases e)) hR rfl rfl rfl rfl ?_ (fun e=>absurd e (X.uj (by rw[hpc];decide))) ?_ ?_ ?_ (fun _ _=>Iff.rfl)
 ·unfold At
  refine⟨⟨List.range' 1 (c.O - 1),⟨h1.ms,fun x=>(h1.ob x).trans ?_,h1.ch⟩,?_⟩,h4,h2,⟨by show(0:Int)≤0;omega,by show(0:Int)<c.O;omega⟩,mq,qj⟩
  ·rw[iK]
   rfl
  ·have:=ZqU (f:=st.lk (sn t)) (key:=ky c (sn t)) (n:=c.O) h5
   rw[iK]at this;exact this
 ·refine X.E.set (i:=.ct (sn t)) (dG h2) (fun j _ hj => ?_) ?_
  ·rw[vN]
   exact Lc j hj
  ·show ct c (jr st (sn t) true true) (sn t)=_
   rw[vL mq qj];show dF (c.O - (st.ol (sn t) .first).length) c.O true true=_;rw[fD];rfl
 ·exact eP X.W (ED (by omega) hO.2)
 ·refine zN X (dG h2) hR rfl rfl (fun _=>rfl) (fun x hx=>if_neg hx) ?_
  have hb:base c st t=77+2 * c.S:=by
   unfold base;rw[hpc];rfl
  have e1:iq (jr st (sn t) true true) (sn t)=1:=by
   unfold iq;rw[mq];rfl
  have e2:iq st (sn t)=0:=by
   unfold iq;rw[h3];rfl
  rw[e1,e2];show 19+0+25+_≤aF c st t+_;unfold aF;omega
theorem Z8 (X:Cx c mn cp st g k t)(h1:Has st k [] (sn t) [on t] []){iu:Nat}{f:Bool}(qN:st.lk (sn t) (on t)=fZ ((t.F:Int) - 1) (ky c (sn t)) (on t))(jS:iu=c.O - (st.ol (sn t) .first).length)(hf:st.dh (sn t)=f)(hF:fr st (sn t)=t.F)(ic:st.lv (sn t)=true)
 (hq:f=true∨t.F≠0∧(1<iu∨st.hold=some k)):kI c st (sn t) (.aU k) .first [on t] []:=by
 have G:=X.I.G;refine kI.of G rfl (fun e=>by cases e) h1.at_ (fun e=>by cases e) (fun _ e=>by cases e) (fun _=>⟨?_,trivial⟩) (fun e _ => ?_) (fun _ _ e=>by cases e) (fun x e=>ic) (fun hh fE _ hlen => ?_)
 ·show _=fZ (gq (st.ol (sn t) .first) (-1)) _ _
  rw[qN,← hF];unfold fr;rw[UR]
 ·obtain⟨-,h3,h4⟩:=G.full _ e
  rcases hq with h5|h5
  ·rw[h3]at hf
   rw[← hf]at h5;cases h5
  ·refine h5.1 ?_
   rw[← hF];unfold fr;rw[h4];rfl
 ·have h3:=((G.shelf _ fE).2 (by rw[(G.rest hh).1];intro e;cases e)).1
  simp only[Zxw,Zx5]at hlen;rcases hq with h5|⟨h5,h6|h6⟩
  ·rw[h3]at hf
   rw[← hf]at h5;cases h5
  ·omega
  ·rw[hh]at h6
   cases h6
theorem p53 (X:Cx c mn cp st g k t)(hpc:t.pc=53):∃ t' g' st',aM c mn cp st g k t t' g' st':=by
 have hA:=X.at_;unfold At at hA;rw[hpc]at hA;have ai:=X.aB;have aL:=X.w0 (by omega) (by omega);have hC:=X.C;have hS:=X.S;have hO:=X.O;have G:=X.I.G;obtain⟨h1,h2,h3,h4,⟨iu,f,hK,jS,h5,h6⟩,h7⟩:=hA;have hs:iO c mn cp g t=if fr st (sn t)=t.F∧ct c st (sn t)=t.K then some ({ t with fin:=1 },(g.set (fq c (sn t)) (on t+1)).set (fq c (sn t)+1) (dF (iu - 1) c.O f true)) else some ({ t with pc:=50 },g):=by
  rw[kZ (by omega) (by omega)];unfold dZ;rw[hpc];refine(fM h2).trans ((pY h3).trans ?_);have hk:=o8 (iu:=iu) (ob:=c.O) (f:=f) (x:=fun _ _ fz=>zH c g t (sn t) (on t) fz fz (fun _=>{ t with fin:=1 }) fun _=>{ t with pc:=50 }) jS hO.1 hO.2;rw[← hK]at hk;rw[hpc]at hk;refine hk.trans ?_;unfold zH;have hk:=o8 (iu:=iu) (ob:=c.O) (f:=f) (x:=fun iu ob f'=>need (f'=f∧1≤iu) (mK g (fq c (sn t)) t.F t.K (on t+1) (dF (iu - 1) ob f true) { t with fin:=1 } { t with pc:=50 })) jS hO.1 hO.2;rw[← hK]at hk;rw[hpc]at hk;refine hk.trans ((dQ ⟨rfl,h5⟩).trans ?_);exact uo (X.xU (dG h2)) (X.vw (dG h2))
 have ic:=PM G (h1.loc G (o:=on t) (by simp)) h1.ms;have Cr:=Jc G h1.at_;simp only[Zx5]at Cr;have hb:base c st t=92:=by
  unfold base;rw[hpc];rfl
 by_cases hc:fr st (sn t)=t.F∧ct c st (sn t)=t.K
 ·rw[if_pos hc]at hs
  obtain⟨e1,e2⟩:=Ms X ic hK jS hc.2;have hM:=Z8 X h1 h7 e1 e2 hc.1 ic (h6.imp id fun h=>⟨h.1,.inl h.2⟩);have hR:∀ j,j≠k→bB c j none none st (bW st (sn t) (.aU k) .first [on t] []):=fun j hj=>wR (k:=k) hj (fun _ e=>by cases e;rfl) (fun _ e=>by cases e) (fun x e=>by rcases e with e|e<;>cases e) (fun e=>by cases e) (fun e=>by cases e) (fun _ bT hlen=>by
   simp only[Zxw,Zx5]at hlen;rcases h6 with h6|h6
   ·rw[bT,h6]at e2
    cases e2
   ·omega)
  have qp:(bW st (sn t) (.aU k) .first [on t] []).ol (sn t) .first=on t::st.ol (sn t) .first:=zu;refine aM.Dw X (bW st (sn t) (.aU k) .first [on t] []) (hx:=none) (px:=none) hs rfl rfl (wQ G hM) hR rfl rfl rfl rfl ⟨h1.ms,fun x => ?_,h1.ch⟩ (X.uj (by rw[hpc];decide)) ?_ ?_ ?_ ?_
  ·by_cases e:x=sn t
   ·rw[e,yw (fun e=>by cases e)]
    split<;>rfl
   ·rw[o6 (fun e2=>e e2.1) (fun e2=>e e2.1),h1.ob,if_neg e]
    split<;>rfl
  ·refine Bz X (dG h2) (fun i hi jy => ?_) ?_ ?_
   ·refine wP i (fun x e=>⟨(fun e2=>by cases e2),fun e2=>by cases e2⟩) (fun x e=>.inl ?_)
    rintro rfl;rcases e with e|e
    ·exact hi e
    ·exact jy e
   ·unfold fr
    rw[qp];rfl
   ·rw[vL (st:=bW st (sn t) (.aU k) .first [on t] []) ic e2,qp,ZxJ]
    congr 1
    omega
  ·exact eP (eP X.W (by have:=qE h3;omega)) (ED (by omega) hO.2)
  ·refine zN X (dG h2) hR rfl rfl (fun _=>rfl) (fun _ _=>rfl) ?_
   show 0+25+(2 * c.S+33) * iq st (sn t)≤aF c st t+_;unfold aF;omega
  ·rw[if_neg (X.rC (by rw[hpc];decide))]
   exact Br (fun o ho=>by rw[hM.at_ o ho];intro e;cases e) (fun e=>by cases e)
 ·rw[if_neg hc]at hs
  refine aM.read X (t':={ t with pc:=50 }) (pc:=53) (pc':=50) hpc rfl rfl hs ?_ rfl rfl rfl aL ?_
  ·unfold At
   exact⟨h1,h2,h3⟩
  ·have:=GU hc rfl (by omega)
   show 95+0+1≤aF c st t;unfold aF;omega
theorem p54 (X:Cx c mn cp st g k t)(hpc:t.pc=54):∃ t' g' st',aM c mn cp st g k t t' g' st':=by
 have hA:=X.at_;unfold At at hA;rw[hpc]at hA;have ai:=X.aB;have aL:=X.w0 (by omega) (by omega);have hC:=X.C;have hS:=X.S;have hO:=X.O;have G:=X.I.G;obtain⟨h1,h2,h3,h4,⟨iu,f,hK,jS,h5,rfl⟩,h7⟩:=hA;have hs:iO c mn cp g t=if fr st (sn t)=t.F∧ct c st (sn t)=t.K then some ({ t with pc:=60 },(g.set (fq c (sn t)) (on t+1)).set (fq c (sn t)+1) (dF (iu - 1) c.O true true)) else some ({ t with pc:=50 },g):=by
  rw[kZ (by omega) (by omega)];unfold dZ;rw[hpc];refine(fM h2).trans ((pY h3).trans ?_);unfold zH;have hk:=o8 (iu:=iu) (ob:=c.O) (f:=false) (x:=fun iu ob f'=>need (f'=false∧1≤iu) (mK g (fq c (sn t)) t.F t.K (on t+1) (dF (iu - 1) ob true true) { t with pc:=60 } { t with pc:=50 })) jS hO.1 hO.2;rw[← hK]at hk;refine hk.trans ((dQ ⟨rfl,h5⟩).trans ?_);exact uo (X.xU (dG h2)) (X.vw (dG h2))
 have ic:=PM G (h1.loc G (o:=on t) (by simp)) h1.ms;have Cr:=Jc G h1.at_;simp only[Zx5]at Cr;have hb:base c st t=92:=by
  unfold base;rw[hpc];rfl
 by_cases hc:fr st (sn t)=t.F∧ct c st (sn t)=t.K
 ·rw[if_pos hc]at hs
  obtain⟨e1,e2⟩:=Ms X ic hK jS hc.2;have fD:st.ol (sn t) .first=[]:=T9 (by have:=hc.1;unfold fr at this;omega);have dS:st.own (sn t) = .full:=by
   rcases X.I.Zw hO.1 ic e2 with h|h|⟨j,h⟩
   ·exact h.1
   ·exact absurd fD h.2
   ·exact absurd fD h.2.2
  have VN:vI c cp st .full (.mine k) [sn t] []:={
   ne:=fun e=>by cases e
   src:=fun e=>by cases e
   at_:=p8 dS
   nd:=by simp
   ad:=⟨(fun e=>by cases e),fun e=>by cases e⟩
   bd:=fun e=>by cases e
   lv:=p8 ic
   k:=fun x e=>by rcases e with e|e|e|e<;>cases e;exact X.kC
   one:=fun x e=>by rw[h1.ms];simp
   fu:=fun e=>by cases e
   sh:=fun e=>by cases e
   hp:=fun x e=>by rcases e with e|e|e<;>cases e
   oh:=fun x e=>by cases e
   cP:=fun x e=>by rcases e with e|e<;>cases e
   cS:=fun e=>by cases e
   cap:=fun x e=>by cases e }
  obtain⟨s1,aP⟩:∃ s1,s1=di st .full (.mine k) [sn t] []:=⟨_,rfl⟩;have G1:dH c mn cp s1:=by rw[aP];exact zm G VN
  have Au:s1.own (sn t) = .mine k:=by rw[aP];exact if_pos (by simp)
  obtain⟨s2,eB⟩:∃ s2,s2=jr s1 (sn t) true true:=⟨_,rfl⟩;have G2:dH c mn cp s2:=by rw[eB];exact KW G1 Au (fun e=>by cases e)
  have kW:s2.lv (sn t)=true:=by rw[eB];exact if_pos rfl
  have rR:s2.dh (sn t)=true:=by rw[eB];exact if_pos rfl
  have j4:s2.ol=st.ol:=by rw[eB,aP];rfl
  have D6:s2.lk=st.lk:=by rw[eB,aP];rfl
  have Ak:s2.loc=st.loc:=by rw[eB,aP];rfl
  have wF:s2.own (sn t) = .mine k:=by rw[eB];exact Au
  have jM:s2.sl=s1.sl:=by rw[eB];rfl
  have hM:kI c s2 (sn t) (.aU k) .first [on t] []:=kI.of G2 rfl (fun e=>by cases e) (by rw[j4];exact h1.at_) (fun e=>by cases e) (fun _ e=>by cases e) (fun _=>⟨by
   show _=fZ (gq (s2.ol (sn t) .first) (-1)) _ _;rw[D6,h7,j4,fD,h4];rfl,trivial⟩) (fun e _=>by rw[wF]at e;cases e) (fun _ _ e=>by cases e) (fun x e=>kW) (fun _ e=>by rw[wF]at e;cases e)
  have R1:∀ j,j≠k→bB c j none none st s1:=fun j hj=>by rw[aP];exact zn (k:=k) hj (fun _ e=>by rcases e with e|e<;>cases e) (fun _ e=>by rcases e with e|e<;>cases e;rfl) (fun x e=>by rcases e with e|e<;>cases e) (fun x e=>by rcases e with e|e<;>cases e) (fun _ e=>by cases e) (fun e=>by cases e) (fun e=>by cases e) (fun x e=>by cases e)
  have R2:∀ j,j≠k→bB c j none none s1 s2:=fun j hj=>by rw[eB];exact Ld hj Au
  have R3:∀ j,j≠k→bB c j none none s2 (bW s2 (sn t) (.aU k) .first [on t] []):=fun j hj=>wR (k:=k) hj (fun _ e=>by cases e;rfl) (fun _ e=>by cases e) (fun x e=>by rcases e with e|e<;>cases e) (fun e=>by cases e) (fun e=>by cases e) (fun _ bT=>by rw[rR]at bT;cases bT);have hR:∀ j,j≠k→bB c j none none st (bW s2 (sn t) (.aU k) .first [on t] []):=fun j hj=>((R1 j hj).trans G G1 (R2 j hj)).trans G G2 (R3 j hj);have qp:(bW s2 (sn t) (.aU k) .first [on t] []).ol (sn t) .first=[on t]:=by rw[zu,j4,fD];rfl
  refine aM.iI X (bW s2 (sn t) (.aU k) .first [on t] []) (hx:=none) (px:=none) (t':={ t with pc:=60 }) (pc:=54) (pc':=60) hpc rfl rfl hs rfl rfl rfl (.inl ⟨aL,by decide⟩) (wQ G2 hM) hR (by rw[eB,aP];rfl) (by rw[eB,aP];rfl) (by rw[eB,aP];rfl) (by rw[eB,aP];rfl) ?_ (fun e => ?_) ?_ ?_ ?_ (fun x y => ?_) (fun e=>absurd e (X.rC (by rw[hpc];decide)))
  ·unfold At
   refine⟨⟨?_,fun x => ?_,?_⟩,h2,kW,rR⟩
   ·show s2.sl (.mine k)=[sn t]
    rw[jM,aP,Dg,h1.ms];rfl
   ·show(bW s2 (sn t) (.aU k) .first [on t] []).ol x (.aU k)=_
    by_cases e:x=sn t
    ·rw[e,yw (fun e=>by cases e)]
     split<;>rfl
    ·rw[o6 (fun e2=>e e2.1) (fun e2=>e e2.1),j4,h1.ob,if_neg e]
     split<;>rfl
   ·show s2.sl (.chain k)=[]
    rw[jM,aP,kJ (fun e=>by cases e) (fun e=>by cases e)];exact h1.ch
  ·rw[eB,aP]at e
   exact absurd e (X.uj (by rw[hpc];decide))
  ·refine Bz X (dG h2) (fun i hi jy => ?_) ?_ ?_
   ·rw[wP i (fun x e=>⟨(fun e2=>by cases e2),fun e2=>by cases e2⟩) (fun x e=>.inl ?_),eB,Lc i jy,aP]
    ·exact zy i (fun x e=>⟨(fun e2=>by cases e2),fun e2=>by cases e2⟩) (fun x e=>⟨(fun e2=>by cases e2),fun e2=>by cases e2⟩) (fun _=>⟨(fun e=>by cases e),fun e=>by cases e⟩)
    ·rintro rfl
     rcases e with e|e
     ·exact hi e
     ·exact jy e
   ·unfold fr
    rw[qp];rfl
   ·rw[vL (st:=bW s2 (sn t) (.aU k) .first [on t] []) kW rR,qp]
    rw[e1,fD];rfl
  ·exact eP (eP X.W (by have:=qE h3;omega)) (ED (by omega) hO.2)
  ·refine zN X (dG h2) hR (by rw[eB,aP];rfl) (by rw[eB,aP];rfl) (fun _ => ?_) (fun x hx => ?_) ?_
   ·show s2.sl _=_
    rw[jM,aP];exact kJ (fun e=>by cases e) (fun e=>by cases e)
   ·show s2.lv x=_
    rw[eB,aP];exact if_neg hx
   ·have e3:iq (bW s2 (sn t) (.aU k) .first [on t] []) (sn t)=iq st (sn t):=by
     unfold iq;rw[show(bW s2 (sn t) (.aU k) .first [on t] []).lv (sn t)=true from kW,ic]
    rw[e3];have hp:aF c (tick (bW s2 (sn t) (.aU k) .first [on t] []) none none k (some { t with pc:=60 })) { t with pc:=60 }=67:=by
     unfold aF base pen;simp
    show aF c _ { t with pc:=60 }+25+_≤aF c st t+_;rw[hp];unfold aF;omega
  ·rw[Br (fun o ho=>by rw[hM.at_ o ho];intro e;cases e) (fun e=>by cases e),Ak]
 ·rw[if_neg hc]at hs
  refine aM.read X (t':={ t with pc:=50 }) (pc:=54) (pc':=50) hpc rfl rfl hs ?_ rfl rfl rfl aL ?_
  ·unfold At
   exact⟨h1,h2,h3⟩
  ·have:=GU hc rfl (by omega)
   show 95+0+1≤aF c st t;unfold aF;omega
theorem Yz {α:Type}[DecidableEq α]{p q:α→Bool}{s:α}:∀ {l:List α},l.Nodup→(∀ x∈l,x≠s→p x=true→q x=true)→l.countP p≤l.countP q+1
 |[],_,_=>by simp
 |x::l,hn,h=>by
  simp only[List.countP_cons];by_cases e:x=s
  ·subst e
   have:=Ey (l:=l) (p:=p) (q:=q) fun y hy hp=>h y (ZnQ _ hy) (fun e=>(List.nodup_cons.1 hn).1 (e ▸ hy)) hp;split<;>split<;>omega
  ·have ih:=Yz (s:=s) (List.nodup_cons.1 hn).2 (fun y hy=>h y (ZnQ _ hy))
   by_cases hp:p x=true
   ·rw[if_pos hp,if_pos (h x ZnJ e hp)]
    omega
   ·rw[if_neg hp]
    omega
theorem p56 (X:Cx c mn cp st g k t)(hpc:t.pc=56):∃ t' g' st',aM c mn cp st g k t t' g' st':=by
 have hA:=X.at_;unfold At at hA;rw[hpc]at hA;have ai:=X.aB;have aL:=X.w0 (by omega) (by omega);have hC:=X.C;have hS:=X.S;have hO:=X.O;have G:=X.I.G;obtain⟨h1,h2,h3,h4,⟨iu,f,hK,jS,h5,rfl⟩,h7,hl⟩:=hA;have hs:iO c mn cp g t=if fr st (sn t)=t.F∧ct c st (sn t)=t.K then some ({ t with pc:=58,F:=on t+1,K:=dF (iu - 1) c.O false true },(g.set (fq c (sn t)) (on t+1)).set (fq c (sn t)+1) (dF (iu - 1) c.O false true)) else some ({ t with pc:=57 },g):=by
  rw[kZ (by omega) (by omega)];unfold dZ;rw[hpc];refine(fM h2).trans ((pY h3).trans ?_);unfold zH;have hk:=o8 (iu:=iu) (ob:=c.O) (f:=false) (x:=fun iu ob f'=>need (f'=false∧1≤iu) (mK g (fq c (sn t)) t.F t.K (on t+1) (dF (iu - 1) ob false true) { t with pc:=58,F:=on t+1,K:=dF (iu - 1) ob false true } { t with pc:=57 })) jS hO.1 hO.2;rw[← hK]at hk;refine hk.trans ((dQ ⟨rfl,by omega⟩).trans ?_);exact uo (X.xU (dG h2)) (X.vw (dG h2))
 have ic:=PM G (h1.loc G (o:=on t) (by simp)) h1.ms;have Cr:=Jc G h1.at_;simp only[Zx5]at Cr;have hb:base c st t=91:=by
  unfold base;rw[hpc];rfl
 by_cases hc:fr st (sn t)=t.F∧ct c st (sn t)=t.K
 ·rw[if_pos hc]at hs
  obtain⟨e1,e2⟩:=Ms X ic hK jS hc.2;have hne:st.ol (sn t) .first≠[]:=by
   intro e;have:=hc.1;unfold fr at this;rw[e]at this;change 0=t.F at this;omega
  have dS:st.own (sn t) = .shelf:=by
   rcases X.I.Zw hO.1 ic e2 with h|h|⟨j,h⟩
   ·exact absurd h.2 hne
   ·exact h.1
   ·have h8:=h.2.1
    rw[hl.hold]at h8;cases h8;have:=(G.sm (.mine k) rfl (sn t)).2 h.1;rw[h1.ms]at this;cases this
  have hM:=Z8 X h1 h7 e1 e2 hc.1 ic (.inr ⟨by omega,.inr hl.hold⟩);have hR:∀ j,j≠k→bB c j none none st (bW st (sn t) (.aU k) .first [on t] []):=fun j hj=>wR (k:=k) hj (fun _ e=>by cases e;rfl) (fun _ e=>by cases e) (fun x e=>by rcases e with e|e<;>cases e) (fun e=>by cases e) (fun e=>by cases e) (fun _ bT hlen=>.inr (.inr ⟨hl.hold,dS⟩));have qp:(bW st (sn t) (.aU k) .first [on t] []).ol (sn t) .first=on t::st.ol (sn t) .first:=zu;have Ns:fr (bW st (sn t) (.aU k) .first [on t] []) (sn t)=on t+1:=by
   unfold fr;rw[qp];rfl
  have Ng:ct c (bW st (sn t) (.aU k) .first [on t] []) (sn t)=dF (iu - 1) c.O false true:=by
   rw[vL (st:=bW st (sn t) (.aU k) .first [on t] []) ic e2,qp,ZxJ]
   congr 1
   omega
  refine aM.iI X (bW st (sn t) (.aU k) .first [on t] []) (hx:=none) (px:=none) (t':={ t with pc:=58,F:=on t+1,K:=dF (iu - 1) c.O false true }) (pc:=56) (pc':=58) hpc rfl rfl hs rfl rfl rfl (.inl ⟨aL,by decide⟩) (wQ G hM) hR rfl rfl rfl rfl ?_ (fun _=>⟨rfl,aL⟩) ?_ ?_ ?_ (Br (fun o ho=>by rw[hM.at_ o ho];intro e;cases e) (fun e=>by cases e))
  ·unfold At
   refine⟨⟨h1.ms,fun x => ?_,h1.ch⟩,h2,dS,?_,⟨Ns.symm,Ng.symm⟩,hl.hold,hl.cut,hl.held,?_⟩
   ·show(bW st (sn t) (.aU k) .first [on t] []).ol x (.aU k)=_
    by_cases e:x=sn t
    ·rw[e,yw (fun e=>by cases e)]
     split<;>rfl
    ·rw[o6 (fun e2=>e e2.1) (fun e2=>e e2.1),h1.ob,if_neg e]
     split<;>rfl
   ·show((bW st (sn t) (.aU k) .first [on t] []).ol (sn t) .first).length=c.O
    rw[qp,ZxJ];omega
   ·refine ZxL (Yz (s:=sn t) (q:=fun s=>(st.ol s .first).length==c.O && !st.dh s) (G.sd .shelf rfl) fun x hx hne he => ?_) (Nat.succ_le_succ hl.em)
    have e5:(bW st (sn t) (.aU k) .first [on t] []).ol x .first=st.ol x .first:=o6 (fun e2=>hne e2.1) (fun e2=>hne e2.1);have wm:(((bW st (sn t) (.aU k) .first [on t] []).ol x .first).length==c.O && !st.dh x)=true:=he;rw[e5]at wm;exact wm
  ·refine Bz X (dG h2) (fun i hi jy => ?_) Ns Ng
   refine wP i (fun x e=>⟨(fun e2=>by cases e2),fun e2=>by cases e2⟩) (fun x e=>.inl ?_);rintro rfl;rcases e with e|e
   ·exact hi e
   ·exact jy e
  ·exact eP (eP X.W (by have:=qE h3;omega)) (ED (by omega) hO.2)
  ·refine zN X (dG h2) hR rfl rfl (fun _=>rfl) (fun _ _=>rfl) ?_
   show 9+c.S+0+25+(2 * c.S+33) * iq st (sn t)≤aF c st t+_;unfold aF;omega
 ·rw[if_neg hc]at hs
  refine aM.read X (t':={ t with pc:=57 }) (pc:=56) (pc':=57) hpc rfl rfl hs ?_ rfl rfl rfl aL ?_
  ·unfold At
   exact⟨h1,h2,h3,hl⟩
  ·have:=GU hc rfl (by omega)
   show 96+0+1≤aF c st t;unfold aF;omega
end
end Cv
namespace Cv
open See Cw
section
variable {c:Ch}{mn cp:Nat}{st st1 st':St}{g g':List Nat}{k:Nat}{t t':Tk}
theorem Js {s:Nat}{p q:List Nat}{y:Own}(h1:y≠.mine k)(h2:y≠.shelf):(off st k p s q).sl y=st.sl y:=by
 unfold off;dsimp only;rw[if_neg h1,if_neg h2]
theorem Un {s:Nat}{p q:List Nat}(i:Ix)(h1:i≠.shelf)(h2:∀ x,i = .nx x→p.getLast?≠some x):val c (off st k p s q) i=val c st i:=by
 cases i with
 |hd x=>exact zl (Js (fun e=>by cases e) (fun e=>by cases e)) fun _=>rfl
 |pd x=>show pw ((off st k p s q).sl _)=pw (st.sl _);rw[Js (fun e=>by cases e) (fun e=>by cases e)]
 |shelf=>exact absurd rfl h1
 |nx x=>exact if_neg (h2 x rfl)
 |_=>rfl
theorem Pp {s:Nat}{p q:List Nat}:(off st k p s q).sl .shelf=p++q:=by
 unfold off;dsimp only;rw[if_neg (fun e=>by cases e),if_pos rfl]
theorem Zo {s:Nat}{p q:List Nat}:(off st k p s q).sl (.mine k)=[s]:=if_pos rfl
theorem Zpz {s x:Nat}{p q:List Nat}:AO k st (off st k p s q) x:=by
 by_cases e:x=s
 ·exact .inr (.inr (.inl (if_pos e)))
 ·exact .inl (if_neg e)
theorem Z5 {s:Nat}{p q:List Nat}{t':Tk}(X:Cx c mn cp st g k t)(h:st.sl .shelf=p++s::q)(hh:st.hold=some k)(hp:aF c (tick (off st k p s q) none none k (some t')) t'+1≤aF c st t):gW c (tick (off st k p s q) none none k (some t'))+1≤gW c st :=
 jX X (fun j hj=>TP X.I.G hj h hh) rfl rfl (fun _=>Js (fun e=>by cases e) (fun e=>by cases e)) rfl rfl rfl hp
theorem p47 (X:Cx c mn cp st g k t)(hpc:t.pc=47):∃ t' g' st',aM c mn cp st g k t t' g' st':=by
 have hA:=X.at_;unfold At at hA;rw[hpc]at hA;have ai:=X.aB;have aL:=X.w0 (by omega) (by omega);have hC:=X.C;have hS:=X.S;have hO:=X.O;have G:=X.I.G;obtain⟨⟨l,h1,h2⟩,h3,h4,h5,h6,⟨r,h7,h8⟩,h9⟩:=hA;have hs:iO c mn cp g t=some ({ t with pc:=48 },g.set (o7 c) t.N):=by
  rw[jV (by omega) (by omega)];unfold dD;rw[hpc];exact jW X.Dm
 have aK:t.N<18446744073709551616:=by
  rw[h8];exact U1 fun s hs=>by
   have:=nY G (x:=.shelf) rfl (s:=s) (by rw[h7];exact ZnQ _ hs);omega
 have hh:=h6.held;have hhl:(sn t::r).length=r.length+1:=rfl;rw[h7,hhl]at hh;refine aM.iI X (off st k [] (sn t) r) (hx:=none) (px:=none) (t':={ t with pc:=48 }) (pc:=47) (pc':=48) hpc rfl rfl hs rfl rfl rfl (.inl ⟨aL,by decide⟩) (Zn G h7 h1.ms X.kC h6.hold (fun y e=>by rw[h6.cut]at e;cases e;rfl) hS.2) (fun j hj=>TP G hj h7 h6.hold) rfl rfl rfl rfl ?_ (fun _=>⟨rfl,aL⟩) ?_ (eP X.W aK) (Z5 X h7 h6.hold ?_) (fun _ _=>Iff.rfl) (fun _ s=>Zpz)
 ·unfold At
  refine⟨⟨l,⟨Zo,h1.ob,?_⟩,h2⟩,?_,h4,h5,⟨h6.hold,rfl,?_,?_⟩,h9⟩
  ·exact(Js (st:=st) (k:=k) (s:=sn t) (p:=[]) (q:=r) (y:=.chain k) (fun e=>by cases e) (fun e=>by cases e)).trans h1.ch
  ·exact(Js (st:=st) (k:=k) (s:=sn t) (p:=[]) (q:=r) (y:=.head k) (fun e=>by cases e) (fun e=>by cases e)).trans h3
  ·show st.held+0=r.length+1
   omega
  ·refine ZxL ?_ h6.em
   have e1:lT c (tick (off st k [] (sn t) r) none none k (some { t with pc:=48 }))=r.countP fun s=>(st.ol s .first).length==c.O && !st.dh s:=rfl;rw[e1];unfold lT;rw[h7,List.countP_cons];omega
 ·refine X.E.set (i:=.shelf) trivial (fun j _ hj => ?_) ?_
  ·rw[vN]
   exact Un j hj (fun x _ e=>by cases e)
  ·show sw r=t.N
   exact h8.symm
 ·show 21+0+1≤aF c st t
  have hb:base c st t=22:=by
   unfold base;rw[hpc];rfl
  unfold aF;omega
theorem ZM (X:Cx c mn cp st g k t){pc pc':Int}{e:Nat}(hpc:t.pc=pc)(xH:pc=67∧pc'=68∧e=1∨pc=102∧pc'=103∧e=0)(h1:Has st k [] 0 [] [])(h2:eu c t)(h4:Full c st (sn t))(h5:FK c st t (sn t))(h6:fK c mn st k none 0 0 e){p q:List Nat}(h7:st.sl .shelf=p++sn t::q)(h8:t.bS=uq p)(h9:t.N=sw q)
 (hs:iO c mn cp g t=if t.bS = -1 then some ({ t with pc:=pc' },g.set (o7 c) t.N) else some ({ t with pc:=pc' },g.set (mO c t.bS.toNat) t.N)) (IA:base c st t=base c st { t with pc:=pc' }+1):∃ t' g' st',aM c mn cp st g k t t' g' st':=by
 have ai:=X.aB;have aL:=X.w0 (by omega) (by omega);have hC:=X.C;have hS:=X.S;have hO:=X.O;have G:=X.I.G;have fE:=yh G h7;have hcut:st.cut=none:=h6.cut;obtain⟨ic,hx⟩:=G.shelf _ fE;have bT:=(hx (by rw[hcut];intro e;cases e)).1;have aK:t.N<18446744073709551616:=by
  rw[h9];exact U1 fun s hs=>by
   have:=nY G (x:=.shelf) rfl (s:=s) (by rw[h7];simp[hs]);omega
 have hh:=h6.held;rw[h7]at hh;simp only[Zxw,ZxJ]at hh;have hG:=Zn G h7 h1.ms X.kC h6.hold (fun y e=>by rw[hcut]at e;cases e) hS.2;have J3:lT c (tick (off st k p (sn t) q) none none k (some { t with pc:=pc' }))+1=lT c st:=by
  have e1:lT c (tick (off st k p (sn t) q) none none k (some { t with pc:=pc' }))=(p++q).countP fun s=>(st.ol s .first).length==c.O && !st.dh s:=by
   show((off st k p (sn t) q).sl .shelf).countP _=_;rw[Pp];rfl
  rw[e1];unfold lT;rw[h7,List.countP_append,List.countP_append,List.countP_cons];have He:(st.ol (sn t) .first).length=c.O:=h4;have:((st.ol (sn t) .first).length==c.O && !st.dh (sn t))=true:=by
   rw[bT,He];simp
  rw[if_pos this];omega
 have hem2:=h6.em;have hE:∀ x:Option Tk,Enc c (tick (off st k p (sn t) q) none none k x) (if t.bS = -1 then g.set (o7 c) t.N else g.set (mO c t.bS.toNat) t.N):=by
  intro x;split
  ·rename_i sD
   have hp:p=[]:=Zny (by rw[← h8];exact sD);subst hp;refine X.E.set (i:=.shelf) trivial (fun j _ hj => ?_) ?_
   ·rw[vN]
    exact Un j hj (fun x _ e=>by cases e)
   ·show sw ((off st k [] (sn t) q).sl .shelf)=t.N
    rw[Pp,h9];rfl
  ·rename_i sD
   obtain⟨p',a,hp,ha⟩:=SV (l:=p) (by rw[← h8];exact sD);have WT:t.bS.toNat=a:=(by omega);rw[WT];have VQ:a<c.S:=nY G (x:=.shelf) rfl (by rw[h7,hp];simp);have Ag:p.getLast?=some a:=(by rw[hp];simp);refine X.E.set (i:=.nx a) VQ (fun j _ hj => ?_) ?_
   ·rw[vN]
    by_cases Rt:j = .shelf
    ·subst Rt
     show sw ((off st k p (sn t) q).sl .shelf)=sw (st.sl .shelf);rw[Pp,h7];cases p with
     |nil =>
      cases p'<;>cases hp
     |cons b p=>rfl
    ·refine Un j Rt (fun x e e2 => ?_)
     rw[Ag]at e2;cases e2;exact hj e
   ·show(if p.getLast?=some a then sw q else st.nx a)=t.N
    rw[if_pos Ag,h9]
 have eB:iO c mn cp g t=some ({ t with pc:=pc' },if t.bS = -1 then g.set (o7 c) t.N else g.set (mO c t.bS.toNat) t.N):=by
  rw[hs];split<;>rfl
 have hW:xX (if t.bS = -1 then g.set (o7 c) t.N else g.set (mO c t.bS.toNat) t.N):=by
  split<;>exact eP X.W aK
 have hLk:fK c mn (tick (off st k p (sn t) q) none none k (some { t with pc:=pc' })) k none 0 1 0:=by
  refine⟨h6.hold,rfl,?_,by rcases xH with h|h<;>omega⟩;show st.held+0=((off st k p (sn t) q).sl .shelf).length+1;rw[Pp,Zxw];omega
 have lD:Has (tick (off st k p (sn t) q) none none k (some { t with pc:=pc' })) k [sn t] (sn t) [] []:=by
  refine⟨Zo,fun x=>(h1.ob x).trans ?_,?_⟩
  ·split<;>split<;>rfl
  ·exact(Js (st:=st) (k:=k) (s:=sn t) (p:=p) (q:=q) (y:=.chain k) (fun e=>by cases e) (fun e=>by cases e)).trans h1.ch
 refine aM.iI X (off st k p (sn t) q) (hx:=none) (px:=none) (t':={ t with pc:=pc' }) (pc:=pc) (pc':=pc') hpc rfl ?_ eB rfl rfl rfl (.inl ⟨aL,by omega⟩) hG (fun j hj=>TP G hj h7 h6.hold) rfl rfl rfl rfl ?_ (fun _=>⟨?_,aL⟩) (hE _) hW (Z5 X h7 h6.hold ?_) (fun _ _=>Iff.rfl) (fun _ s=>Zpz)
 ·rcases xH with⟨rfl,rfl,-⟩|⟨rfl,rfl,-⟩<;>rfl
 ·rcases xH with⟨rfl,rfl,-⟩|⟨rfl,rfl,-⟩
  ·unfold At
   exact⟨lD,h2,⟨ic,bT⟩,h4,h5,hLk⟩
  ·unfold At
   exact⟨lD,h2,⟨ic,bT⟩,h4,h5,hLk⟩
 ·rcases xH with⟨rfl,rfl,-⟩|⟨rfl,rfl,-⟩<;>rfl
 ·have hb:base c (tick (off st k p (sn t) q) none none k (some { t with pc:=pc' })) { t with pc:=pc' }=base c st { t with pc:=pc' }:=by
   rcases xH with⟨rfl,rfl,-⟩|⟨rfl,rfl,-⟩<;>rfl
  have hp:pen c (tick (off st k p (sn t) q) none none k (some { t with pc:=pc' })) { t with pc:=pc' }=0:=by
   rcases xH with⟨rfl,rfl,-⟩|⟨rfl,rfl,-⟩<;>rfl
  unfold aF;rw[hb,hp];omega
theorem p67 (X:Cx c mn cp st g k t)(hpc:t.pc=67):∃ t' g' st',aM c mn cp st g k t t' g' st':=by
 have hA:=X.at_;unfold At at hA;rw[hpc]at hA;obtain⟨h1,h2,h3,h4,h5,h6,p,q,h7,h8,h9⟩:=hA;refine ZM X (pc':=68) hpc (.inl ⟨rfl,rfl,rfl⟩) h1 h2 h4 h5 h6 h7 h8 h9 ?_ ?_
 ·rw[kZ (by omega) (by omega)]
  unfold dZ;rw[hpc];show(if t.bS = -1 then wr g (o7 c) t.N _ else need (0≤t.bS∧t.bS<c.S) (wr g (mO c t.bS.toNat) t.N _))=_;split
  ·exact jW X.Dm
  ·rename_i sD
   obtain⟨p',a,hp,ha⟩:=SV (l:=p) (by rw[← h8];exact sD);have VQ:a<c.S:=nY X.I.G (x:=.shelf) rfl (by rw[h7,hp];simp);refine(dQ (by omega)).trans (jW (X.yR (s:=t.bS.toNat) (by omega)))
 ·unfold base
  rw[hpc];rfl
theorem Zud (X:Cx c mn cp st g k t)(hpc:t.pc=102):∃ t' g' st',aM c mn cp st g k t t' g' st':=by
 have hA:=X.at_;unfold At at hA;rw[hpc]at hA;obtain⟨h1,h6,h2,⟨p,q,h7,h8,h9⟩,h4,h5⟩:=hA;refine ZM X (pc':=103) hpc (.inr ⟨rfl,rfl,rfl⟩) h1 h2 h4 h5 h6 h7 h8 h9 ?_ ?_
 ·rw[iP (by omega)]
  unfold bG;rw[hpc];show(if t.bS = -1 then wr g (o7 c) t.N _ else need (0≤t.bS∧t.bS<c.S) (wr g (mO c t.bS.toNat) t.N _))=_;split
  ·exact jW X.Dm
  ·rename_i sD
   obtain⟨p',a,hp,ha⟩:=SV (l:=p) (by rw[← h8];exact sD);have VQ:a<c.S:=nY X.I.G (x:=.shelf) rfl (by rw[h7,hp];simp);refine(dQ (by omega)).trans (jW (X.yR (s:=t.bS.toNat) (by omega)))
 ·unfold base
  rw[hpc];rfl
theorem p92 (X:Cx c mn cp st g k t)(hpc:t.pc=92):∃ t' g' st',aM c mn cp st g k t t' g' st':=by
 have hA:=X.at_;unfold At at hA;rw[hpc]at hA;have ai:=X.aB;have aL:=X.w0 (by omega) (by omega);have hC:=X.C;have hS:=X.S;have hO:=X.O;have G:=X.I.G;obtain⟨ch,h1,h2,h3,h4,h5,h6,h7,h8⟩:=hA;have hs:iO c mn cp g t=some ({ t with pc:=93 },g.set (o7 c) (sn t+1)):=by
  rw[iP (by omega)];unfold bG;rw[hpc];exact(fM h2).trans (jW X.Dm)
 have cB:=h1.own G
 have hM:vI c cp st (.mine k) .shelf [sn t] []:={
  ne:=fun e=>by cases e
  src:=fun _=>h1.ms
  at_:=p8 cB
  nd:=by simp
  ad:=⟨(fun e=>by cases e),fun e=>by cases e⟩
  bd:=fun e=>by cases e
  lv:=p8 h3.1
  k:=fun x e=>by rcases e with e|e|e|e<;>cases e
  one:=fun x e=>by rcases e with e|e<;>cases e
  fu:=fun e=>by cases e
  sh:=fun e=>⟨(by rw[h6.hold];intro e;cases e),p8 ⟨h3.2,h4⟩⟩
  hp:=fun x e=>by rcases e with e|e|e<;>cases e
  oh:=fun x e=>by cases e
  cP:=fun x e=>by rcases e with e|e<;>cases e
  cS:=fun e=>⟨h8,G.cS⟩
  cap:=fun x e=>by cases e }
 have hR:∀ j,j≠k→bB c j none none st (di st (.mine k) .shelf [sn t] []):=fun j hj=>zn (k:=k) hj (fun _ e=>by rcases e with e|e<;>cases e;rfl) (fun _ e=>by rcases e with e|e<;>cases e) (fun x e=>by rcases e with e|e<;>cases e) (fun x e=>by rcases e with e|e<;>cases e) (fun _ e=>by cases e) (fun _=>h6.hold) (fun e=>by cases e) (fun x e=>by cases e);have D5:(di st (.mine k) .shelf [sn t] []).sl .shelf=sn t::st.sl .shelf:=Dg;have hh:=h6.held;have J3:=h6.em;have mV:lT c st≤(st.sl .shelf).length:=List.countP_le_length;refine aM.iI X (di st (.mine k) .shelf [sn t] []) (hx:=none) (px:=none) (t':={ t with pc:=93 }) (pc:=92) (pc':=93) hpc rfl rfl hs rfl rfl rfl (.inl ⟨aL,by decide⟩) (zm G hM) hR rfl rfl rfl rfl ?_ (fun _=>⟨rfl,aL⟩) ?_ (eP X.W (by have:=dG h2;omega)) (jX X hR rfl rfl (fun _=>kJ (fun e=>by cases e) (fun e=>by cases e)) rfl rfl rfl ?_) (fun _ _=>Iff.rfl) (fun e=>absurd e (X.rC (by rw[hpc];decide)))
 ·unfold At
  refine⟨ch,⟨?_,fun x=>(h1.ob x).trans ?_,?_⟩,⟨h6.hold,h6.cut,?_,?_⟩,h7⟩
  ·exact zw (st:=st) (a:=.mine k) (b:=.shelf) (l1:=[sn t]) (l2:=[]) (fun e=>by cases e)
  ·split<;>split<;>rfl
  ·exact(kJ (st:=st) (y:=.chain k) (a:=.mine k) (b:=.shelf) (l1:=[sn t]) (l2:=[]) (fun e=>by cases e) (fun e=>by cases e)).trans h1.ch
  ·show st.held+1=((di st (.mine k) .shelf [sn t] []).sl .shelf).length+0
   rw[D5,ZxJ];omega
  ·have e1:lT c (tick (di st (.mine k) .shelf [sn t] []) none none k (some { t with pc:=93 }))=(sn t::st.sl .shelf).countP fun s=>(st.ol s .first).length==c.O && !st.dh s:=by
    show((di st (.mine k) .shelf [sn t] []).sl .shelf).countP _=_;rw[D5];rfl
   rw[e1,List.countP_cons];have e2:(st.sl .shelf).countP (fun s=>(st.ol s .first).length==c.O && !st.dh s)=lT c st:=rfl;rw[e2];by_cases hf:Full c st (sn t)
   ·have:=h5 hf
    split<;>omega
   ·rw[if_neg]
    ·omega
    ·intro e
     rw[Zxu,beq_iff_eq]at e;exact hf e.1
 ·refine X.E.set (i:=.shelf) trivial (fun j _ hj => ?_) ?_
  ·rw[vN]
   exact zy j (fun x e=>⟨(fun e2=>by cases e2),fun e2=>by cases e2⟩) (fun x e=>⟨(fun e2=>by cases e2),fun e2=>by cases e2⟩) (fun e=>absurd e hj)
  ·show sw ((di st (.mine k) .shelf [sn t] []).sl .shelf)=_
   rw[D5];rfl
 ·have e1:cont c (di st (.mine k) .shelf [sn t] []) t.back t.aB=cont c st t.back t.aB:=by
   unfold cont;rw[kJ (fun e=>by cases e) (fun e=>by cases e)]
  show 2+cont c (di st (.mine k) .shelf [sn t] []) t.back t.aB+0+1≤aF c st t;have hb:base c st t=3+cont c st t.back t.aB:=by
   unfold base;rw[hpc];rfl
  rw[e1];unfold aF;omega
theorem p76 (X:Cx c mn cp st g k t)(hpc:t.pc=76):∃ t' g' st',aM c mn cp st g k t t' g' st':=by
 have hA:=X.at_;unfold At at hA;rw[hpc]at hA;have ai:=X.aB;have aL:=X.w0 (by omega) (by omega);have hC:=X.C;have hS:=X.S;have hO:=X.O;have G:=X.I.G;obtain⟨ch,h1,h2,h3,h4,h5,h6,h7⟩:=hA;have hs:iO c mn cp g t=some ({ t with pc:=77 },(g.set (fq c (sn t)) 0).set (fq c (sn t)+1) 0):=by
  rw[iP (by omega)];unfold bG;rw[hpc];exact(fM h2).trans ((dM (X.xU (dG h2))).trans ((dM (X.vw (dG h2))).trans (dQ ⟨h5.1.symm,h5.2.symm⟩)))
 have cB:=h1.own G;obtain⟨L,hL⟩:∃ L,L=st.ol (sn t) .first:=⟨_,rfl⟩;have hall:∀ o,o<c.O→o∈L:=fun o ho=>by
  rw[hL];exact Zt9 (G.od _ .first rfl) (fun x hx=>(ru G (x:=.first) rfl hx).2) h4 ho
 have hM:kI c st (sn t) .first (.aU k) L []:=kI.of G rfl (fun e=>by cases e) (by rw[ZxP,hL]) (fun e=>by cases e) (fun _ e=>by cases e) (fun e=>by rcases e with e|⟨_,e⟩<;>cases e) (fun _ e=>by cases e) (fun e=>by rw[cB]at e;cases e) (fun x e=>h3.1) (fun _ _ e=>by cases e);obtain⟨s1,aP⟩:∃ s1,s1=bW st (sn t) .first (.aU k) L []:=⟨_,rfl⟩;have G1:dH c mn cp s1:=by rw[aP];exact wQ G hM
 have nP:s1.own (sn t) = .mine k:=by rw[aP];exact cB
 have Aj:∀ o,o<c.O→s1.loc (sn t) o = .aU k:=fun o ho=>by
  rw[aP];exact if_pos ⟨rfl,hall o ho⟩
 have R1:∀ j,j≠k→bB c j none none st s1:=fun j hj=>by rw[aP];exact wR (k:=k) hj (fun _ e=>by cases e) (fun _ e=>by cases e;rfl) (fun x e=>by rcases e with e|e<;>cases e) (fun _=>.inl cB) (fun e=>by cases e) (fun e=>by cases e)
 have R2:∀ j,j≠k→bB c j none none s1 (jr s1 (sn t) false false):=fun j hj=>Ld hj nP;have hR:∀ j,j≠k→bB c j none none st (jr s1 (sn t) false false):=fun j hj=>(R1 j hj).trans G G1 (R2 j hj);have kW:(jr s1 (sn t) false false).lv (sn t)=false:=if_pos rfl;have uY:(jr s1 (sn t) false false).ol (sn t) .first=[]:=by
  show s1.ol (sn t) .first=[];rw[aP];exact yw (fun e=>by cases e)
 refine aM.iI X (jr s1 (sn t) false false) (hx:=none) (px:=none) (t':={ t with pc:=77 }) (pc:=76) (pc':=77) hpc rfl rfl hs rfl rfl rfl (.inl ⟨aL,by decide⟩) (KW G1 nP (fun _=>Aj)) hR (by rw[aP];rfl) (by rw[aP];rfl) (by rw[aP];rfl) (by rw[aP];rfl) ?_ (fun _=>⟨rfl,aL⟩) ?_ ?_ ?_ (fun x y => ?_) (fun e=>absurd e (X.rC (by rw[hpc];decide)))
 ·unfold At
  refine⟨L,ch,⟨?_,fun x => ?_,?_⟩,h2,kW,⟨?_,?_,?_,?_⟩,h7⟩
  ·rw[aP]
   exact h1.ms
  ·show s1.ol x (.aU k)=if x=sn t then L else []
   rw[aP];by_cases e:x=sn t
   ·rw[e,zu,if_pos rfl,h1.at_,ZxP]
   ·rw[o6 (fun e2=>e e2.1) (fun e2=>e e2.1),h1.ob,if_neg e,if_neg e]
  ·rw[aP]
   exact h1.ch
  ·rw[aP]
   exact h6.hold
  ·rw[aP]
   exact h6.cut
  ·rw[aP]
   exact h6.held
  ·refine ZxL (m:=lT c st) ?_ h6.em
   have mo:(tick (jr s1 (sn t) false false) none none k (some { t with pc:=77 })).sl .shelf=st.sl .shelf:=by
    rw[aP];rfl
   unfold lT;rw[mo];refine Ey fun x hx he => ?_;have hne:x≠sn t:=by
    rintro rfl;rw[G.sm _ rfl,cB]at hx;cases hx
   have e1:(tick (jr s1 (sn t) false false) none none k (some { t with pc:=77 })).ol x .first=st.ol x .first:=by
    show s1.ol x .first=_;rw[aP];exact o6 (fun e2=>hne e2.1) (fun e2=>hne e2.1)
   have e2:(tick (jr s1 (sn t) false false) none none k (some { t with pc:=77 })).dh x=st.dh x:=by
    show(jr s1 (sn t) false false).dh x=_;rw[show(jr s1 (sn t) false false).dh x=s1.dh x from if_neg hne,aP];rfl
   rw[e1,e2]at he;exact he
 ·refine Bz X (dG h2) (fun i hi jy => ?_) ?_ ?_
  ·rw[Lc i jy,aP]
   refine wP i (fun x e=>⟨(fun e2=>by cases e2),fun e2=>by cases e2⟩) (fun x e=>.inl ?_);rintro rfl;rcases e with e|e
   ·exact hi e
   ·exact jy e
  ·unfold fr
   rw[uY];rfl
  ·unfold ct
   rw[kW];rfl
 ·exact eP (eP X.W (by omega)) (by omega)
 ·refine zN X (dG h2) hR (by rw[aP];rfl) (by rw[aP];rfl) (fun _=>by rw[aP];rfl) (fun x hx => ?_) ?_
  ·rw[show(jr s1 (sn t) false false).lv x=s1.lv x from if_neg hx,aP]
   rfl
  ·have e1:iq (jr s1 (sn t) false false) (sn t)=0:=by
    unfold iq;rw[kW];rfl
   have e2:iq st (sn t)=1:=by
    unfold iq;rw[h3.1];rfl
   have e3:cont c (jr s1 (sn t) false false) t.back t.aB=cont c st t.back t.aB:=by
    rw[aP];rfl
   rw[e1,e2];show 2+cont c (jr s1 (sn t) false false) t.back t.aB+0+25+_≤aF c st t+_;rw[e3];have hb:base c st t=if t.back=95 then 7 else 3+cont c st t.back t.aB:=by
    unfold base;rw[hpc];rfl
   unfold aF;rw[hb];split
   ·rename_i e
    have:cont c st t.back t.aB=2 * c.S+12:=by
     unfold cont;rw[if_neg (by omega),if_pos e]
    omega
   ·omega
 ·show s1.loc x y = .out↔_
  rw[aP];exact Br (fun o ho=>by rw[hM.at_ o ho];intro e;cases e) (fun e=>by cases e) x y
end
end Cv
end Go.Proofs.YtfcpdlbkmkhhcaaGreatDoor
