/-
  Texts of this claim, joined. No condition.
-/
import Derived.Test.YtfcpdlbkmkhhcaaGreatDoorCh1
import Derived.Test.YtfcpdlbkmkhhcaaGreatDoorCh33
import Derived.Test.YtfcpdlbkmkhhcaaGreatDoorCh23
import Derived.Test.YtfcpdlbkmkhhcaaGreatDoorCh24
import Derived.BigFrame
namespace Go.Proofs.YtfcpdlbkmkhhcaaGreatDoor
set_option maxRecDepth 100000
set_option maxHeartbeats 40000000
namespace Cv
open See Cw
section
variable {c:Ch}{mn cp:Nat}{st st1 st':St}{g g':List Nat}{k:Nat}{t t':Tk}
structure kP (c:Ch)(mn cp:Nat)(st:St)(g:List Nat):Prop where
 I:Inv c mn cp st
 E:Enc c st g
 W:xX g
 C:1≤c.C∧c.C≤5
 S:1≤c.S∧c.S≤32
 O:1≤c.O∧c.O≤16
 cp:cp≤32
 mn:mn≤32
theorem kP.cx (Z:kP c mn cp st g)(ht:st.tk k=some t)(hn:st.n<1000000000):Cx c mn cp st g k t:=⟨Z.I,Z.E,Z.W,ht,Z.C,Z.S,Z.O,Z.cp,Z.mn,hn⟩
def makes (t:Tk):Bool:=(t.want==0&&(t.pc==43||t.pc==44))||t.pc==77||t.pc==78
theorem Loc.making (G:dH c mn cp st)(h:Loc c mn cp st k t){s:Nat}(ho:st.own s = .mine k)(hl:st.lv s=false):makes t=true∧t.aA=(s:Int):=by
 have hm:=(G.sm (.mine k) rfl s).2 ho;have h0:∀ {x:Nat} {l ch:List Nat},Has st k [] x l ch→False:=fun h=>by
  rw[h.ms]at hm;cases hm
 have h1:∀ {y x:Nat} {l ch:List Nat},Has st k [y] x l ch→s=y:=fun h=>by
  rw[h.ms,ZxE]at hm;exact hm
 have h2:∀ {y x:Nat} {l ch:List Nat},Has st k [y] x l ch→st.lv y=true→False:=fun h h'=>by
  have:=h1 h;subst this;rw[h']at hl;cases hl
 have h3:∀ {x:Nat} {l ch:List Nat},Has st k [sn t] x l ch→eu c t→t.aA=(s:Int):=fun h h'=>by
  rw[h1 h];exact Dt h'
 have aC:=h.want;have h:=h.at_;unfold At at h;split at h
 all_goals first
  |exact(h0 h).elim
  |exact(h0 h.1).elim
  |exact(h2 h.1 h.2.2.1.1).elim
  |exact h.elim
  |skip
 case h_20 =>
  obtain⟨⟨l,h5,-⟩,-⟩:=h;exact(h0 h5).elim
 case h_21 =>
  obtain⟨⟨l,h5,-⟩,-⟩:=h;exact(h0 h5).elim
 case h_22 =>
  obtain⟨⟨l,h5,-⟩,-,-,-,-,h6⟩:=h;exact(h2 h5 h6.1).elim
 case h_23 =>
  obtain⟨⟨l,h5,-⟩,-,-,-,-,h6⟩:=h;exact(h2 h5 h6.1).elim
 case h_24 =>
  obtain⟨⟨l,h5,-⟩,-,-,-,h6⟩:=h;exact(h2 h5 h6.1).elim
 case h_25 =>
  obtain⟨⟨l,h5,-⟩,-,-,-,h6⟩:=h;exact(h2 h5 h6.1).elim
 case h_26 =>
  obtain⟨⟨l,h5,-⟩,-,-,-,h6,-⟩:=h;exact(h2 h5 h6.1).elim
 case h_27 =>
  rename_i hpc;rcases aC with hw|hw|hw
  ·refine⟨?_,h3 (h.2 hw).1 (h.2 hw).2.2.1⟩
   unfold makes;rw[hpc,hw];rfl
  ·exact(h0 (h.1 hw.2).1).elim
  ·rw[hpc]at hw
   cases hw.1
 case h_28 =>
  rename_i hpc;refine⟨?_,h3 h.1 h.2.2.1⟩;rcases aC with hw|hw|hw
  ·unfold makes
   rw[hpc,hw];rfl
  ·rw[hpc]at hw
   cases hw.1
  ·rw[hpc]at hw
   cases hw.1
 case h_43=>exact(h2 h.1 h.2.2.1).elim
 case h_58 =>
  obtain⟨ch,h5,-⟩:=h;exact(h0 h5).elim
 case h_59 =>
  obtain⟨l,ch,h5,-,h6,-⟩:=h;exact(h2 h5 h6.1).elim
 case h_60 =>
  obtain⟨l,ch,h5,-,h6,-⟩:=h;exact(h2 h5 h6.1).elim
 case h_61 =>
  obtain⟨l,ch,h5,-,h6,-⟩:=h;exact(h2 h5 h6.1).elim
 case h_62 =>
  obtain⟨l,ch,h5,-,h6,-⟩:=h;exact(h2 h5 h6.1).elim
 case h_63 =>
  obtain⟨l,ch,h5,-,h6,-⟩:=h;exact(h2 h5 h6.1).elim
 case h_64 =>
  obtain⟨l,ch,h5,-,h6,-⟩:=h;exact(h2 h5 h6.1).elim
 case h_65 =>
  obtain⟨ch,h5,-,h6,-⟩:=h;exact(h2 h5 h6.1).elim
 case h_66 =>
  obtain⟨ch,h5,-,h6,-⟩:=h;exact(h2 h5 h6.1).elim
 case h_67 =>
  obtain⟨ch,h5,-,h6,-⟩:=h;exact(h2 h5 h6.1).elim
 case h_68 =>
  obtain⟨ch,h5,-,h6,-⟩:=h;exact(h2 h5 h6.1).elim
 case h_69 =>
  obtain⟨ch,h5,-⟩:=h;exact(h0 h5).elim
 case h_70 =>
  obtain⟨ch,h5,-⟩:=h;exact(h0 h5).elim
 case h_71 =>
  obtain⟨ch,h5,-,h6,-⟩:=h;exact(h2 h5 h6.1).elim
 case h_72 =>
  rename_i hpc;obtain⟨l,ch,h5,h6,-⟩:=h;refine⟨?_,h3 h5 h6⟩;unfold makes;rw[hpc];simp
 case h_73 =>
  rename_i hpc;obtain⟨l,ch,h5,h6,-⟩:=h;refine⟨?_,h3 h5 h6⟩;unfold makes;rw[hpc];simp
theorem Loc.mine (G:dH c mn cp st)(h:Loc c mn cp st k t)(hm:makes t=true):st.own (sn t) = .mine k∧t.aA=(sn t:Int)∧st.lv (sn t)=false:=by
 have hA:=h.at_;unfold makes at hm;simp only[Bool.or_eq_true,Zxu,beq_iff_eq]at hm;rcases hm with(⟨hw,hp|hp⟩|hp)|hp
 ·unfold At at hA
  rw[hp]at hA;have:=hA.2 hw;exact⟨this.1.own G,Dt this.2.2.1,this.2.2.2.1⟩
 ·unfold At at hA
  rw[hp]at hA;exact⟨hA.1.own G,Dt hA.2.2.1,hA.2.2.2.1⟩
 ·unfold At at hA
  rw[hp]at hA;obtain⟨l,ch,h1,h2,h3,-⟩:=hA;exact⟨h1.own G,Dt h2,h3⟩
 ·unfold At at hA
  rw[hp]at hA;obtain⟨l,ch,h1,h2,h3,-⟩:=hA;exact⟨h1.own G,Dt h2,h3⟩
def making (tk:Nat→Option Tk)(C s:Nat):Prop:=∃ j,j<C∧∃ t,tk j=some t∧makes t=true∧t.aA=(s:Int)
theorem Zqd {s:Nat}(h:ct c st s=0):st.lv s=false:=by
 unfold ct at h;split at h
 ·have e:dF (c.O - (st.ol s .first).length) c.O (st.dh s) true=(c.O - (st.ol s .first).length)+256 * c.O+(if st.dh s then 65536 else 0)+131072:=rfl
  omega
 ·rename_i h2
  simpa using h2
theorem Y7 (I:Inv c mn cp st){s:Nat}(_hs:s<c.S):st.own s = .dead↔ct c st s=0∧¬making st.tk c.C s:=by
 constructor
 ·intro h
  refine⟨?_,?_⟩
  ·unfold ct
   rw[I.G.dead s h];rfl
  ·rintro⟨j,hj,t,ht,hm,bC⟩
   have:=(I.loc j t ht).2.mine I.G hm;have e:sn t=s:=by
    unfold sn;omega
   rw[e,h]at this;cases this.1
 ·rintro⟨h1,h2⟩
  have hl:=Zqd h1;have hn:∀ {b:Bool},st.lv s=true→b=true:=fun e=>by
   rw[hl]at e;cases e
  cases ho:st.own s with
  |dead=>rfl
  |full =>
   have:=(I.G.full s ho).1;rw[hl]at this;cases this
  |shelf =>
   have:=(I.G.shelf s ho).1;rw[hl]at this;cases this
  |head x =>
   have:=(I.G.hpc s x (.inl ho)).1;rw[hl]at this;cases this
  |part x =>
   have:=(I.G.hpc s x (.inr (.inl ho))).1;rw[hl]at this;cases this
  |chain x =>
   have:=(I.G.hpc s x (.inr (.inr ho))).1;rw[hl]at this;cases this
  |mine x =>
   exfalso;cases ht:st.tk x with
   |none =>
    have h3:=(I.idle x ht).ms;have h4:=(I.G.sm (.mine x) rfl s).2 ho;rw[h3]at h4;cases h4
   |some t =>
    obtain⟨hx,hL⟩:=I.loc x t ht;obtain⟨h5,h6⟩:=hL.making I.G ho hl;exact h2 ⟨x,hx,t,ht,h5,h6⟩
theorem LX {x:Option Tk}(I:Inv c mn cp st)(hk:k<c.C)(R:∀ j,j≠k→bB c j none none st st1)(qm:st1.ht=st.ht)(qx:st1.pt=st.pt)(h1:∀ j,st1.sl (.part j)=st.sl (.part j))(h2:∀ s,st1.ol s .first=st.ol s .first)(h3:st1.lv=st.lv)(h4:st1.dh=st.dh) :
 gW c (tick st1 none none k x)+sZ c st k≤gW c st+xg c (tick st1 none none k x) x:=by
 have h:=TV (f:=sZ c st) (f':=sZ c (tick st1 none none k x)) (k:=k) (q:=0) hk fun j _ hj=>by
  have:=YV (q1:=0) (q2:=0) (q3:=0) I ((R j hj).left (t:=x) hj qm qx) (fun _ y=>by show st1.ht y=_;rw[qm]) (fun _ y=>by show st1.pt y=_;rw[qx]) (fun _ s=>⟨Db (h2 s),zA (h2 s) (by show st1.lv s=_;rw[h3]) (by show st1.dh s=_;rw[h4])⟩) ⟨.inl rfl,.inl rfl,.inl rfl⟩;simpa using this
 have e1:gY (tV (tick st1 none none k x)) c.C=gY (tV st) c.C:=yc fun j _=>by
  show(st1.sl _).length=(st.sl _).length;rw[h1]
 have e2:gY (iq (tick st1 none none k x)) c.S=gY (iq st) c.S:=yc fun j _=>by
  show(if st1.lv j=true then 1 else 0)=(if st.lv j=true then 1 else 0);rw[h3]
 rw[L8 (st:=tick st1 none none k x) (k:=k) (x:=x) upd_same]at h;unfold gW;rw[e1,e2];omega
abbrev PJ (c:Ch):Nat:=2 * c.S+c.O+131
structure Nx (c:Ch)(mn cp:Nat)(st:St)(g:List Nat)(k:Nat)(x:Option Tk)(st':St):Prop where
 Z:kP c mn cp st' g
 tk:st'.tk=upd st.tk k x
 n:st'.n=st.n+1
theorem JD {x:Option Tk}(Z:kP c mn cp st g)(hk:k<c.C)(G1:dH c mn cp st1)(R:∀ j,j≠k→bB c j none none st st1)(qm:st1.ht=st.ht)(qx:st1.pt=st.pt)(hn:st1.n=st.n)(dI:st1.tk=st.tk)(tK:st1.hold=st.hold)(FM:st.hold≠some k)
 (h:x=none∧Has st1 k [] 0 [] []∨∃ t',x=some t'∧Loc c mn cp (tick st1 none none k x) k t') (hv:∀ i:Ix,i.ok c→val c st1 i=val c st i):Nx c mn cp st g k x (tick st1 none none k x):=by
 refine⟨⟨Z.I.step hk (TA G1) (fun j hj=>(R j hj).left hj qm qx) ?_ ?_,Z.E.same fun i hi=>(vN i).trans (hv i hi),Z.W,Z.C,Z.S,Z.O,Z.cp,Z.mn⟩,?_,?_⟩
 ·rcases h with⟨h1,h2⟩|⟨t',h1,h2⟩
  ·exact .inl ⟨upd_same.trans h1,h2⟩
  ·exact .inr ⟨t',upd_same.trans h1,h2⟩
 ·intro e
  have e2:st1.hold=some k:=e;rw[tK]at e2;exact absurd e2 FM
 ·show upd st1.tk k x=_
  rw[dI]
 ·show st1.n+1=_
  rw[hn]
inductive Mv (c:Ch)(k:Nat):Tk→Prop where
 |alloc:Mv c k { job:=1,aB:=k,pc:=0 }
 |flush (f:Nat) (h:f<c.C):Mv c k { job:=3,aB:=k,pc:=70,for_:=(f:Int) }
 |trim:Mv c k { job:=4,aB:=k,pc:=95 }
theorem Zow (Z:kP c mn cp st g)(hk:k<c.C)(ht:st.tk k=none)(h:Mv c k t):∃ st',Nx c mn cp st g k (some t) st'∧gW c st'+1≤gW c st+PJ c∧st'.loc=st.loc∧st'.own=st.own∧st'.ol=st.ol:=by
 have hi:=Z.I.idle k ht;have FM:st.hold≠some k:=fun e=>by
  obtain⟨t2,e1,_⟩:=Z.I.gL k e;rw[ht]at e1;cases e1
 have hL:Loc c mn cp (tick st none none k (some t)) k t:=by
  cases h with
  |alloc=>exact⟨rfl,rfl,⟨fun _=>rfl,fun _=>rfl⟩,.inl rfl,(fun e=>by cases e),hi⟩
  |flush f hf=>exact⟨rfl,rfl,(by constructor<;>intro e<;>cases e),.inl rfl,(fun e=>by cases e),hi,by show(0:Int)≤f;omega,by show(f:Int)<c.C;omega⟩
  |trim=>exact⟨rfl,rfl,(by constructor<;>intro e<;>cases e),.inl rfl,(fun e=>by cases e),hi⟩
 refine⟨_,JD Z hk Z.I.G (fun j hj=>bB.refl) rfl rfl rfl rfl rfl FM (.inr ⟨t,rfl,hL⟩) fun _ _=>rfl,?_,rfl,rfl,rfl⟩;have:=LX (x:=some t) Z.I hk (fun j hj=>bB.refl) rfl rfl (fun _=>rfl) (fun _=>rfl) rfl rfl;have hp:xg c (tick st none none k (some t)) (some t)+1≤PJ c:=by
  cases h with
  |alloc =>
   show AA c+51+0+1≤_;unfold AA PJ;omega
  |flush f hf =>
   show 74+c.O+0+1≤_;unfold PJ;omega
  |trim =>
   show 2 * c.S+12+0+1≤_;unfold PJ;omega
 omega
theorem SN {s o:Nat}(Z:kP c mn cp st g)(hk:k<c.C)(ht:st.tk k=none)(ho:st.loc s o = .out):∃ st',Nx c mn cp st g k (some { job:=2,aB:=k,pc:=10,aA:=(s:Int),obj:=(o:Int) }) st'∧gW c st'+1≤gW c st+PJ c∧(∀ x y,st'.loc x y = .out↔st.loc x y = .out∧¬(x=s∧y=o))∧st'.own=st.own:=by
 have G:=Z.I.G;have hi:=Z.I.idle k ht;have hb:=G.ob s o (by rw[ho];intro e;cases e);have FM:st.hold≠some k:=fun e=>by
  obtain⟨t2,e1,_⟩:=Z.I.gL k e;rw[ht]at e1;cases e1
 have Wt:∀ x,st.own s = .mine x→st.lv s=true:=fun x e=>by
  cases hl:st.lv s with
  |true=>rfl
  |false =>
   have:=G.making s x e hl o hb.2;rw[ho]at this;cases this
 have hM:kI c st s .out (.aU k) [o] []:={
  ne:=fun e=>by cases e
  src:=fun e=>by cases e
  at_:=p8 ho
  nd:=by simp
  an:=fun e=>by cases e
  bn:=fun e=>by cases e
  hb:=fun _ e=>by cases e
  lb:=fun e=>by rcases e with e|⟨_,e⟩<;>cases e
  fu:=fun _ e=>by cases e
  sh:=fun _ _ e=>by cases e
  OG:=Wt
  em:=fun _ _ e=>by cases e }
 have hR:∀ j,j≠k→bB c j none none st (bW st s .out (.aU k) [o] []):=fun j hj=>wR (k:=k) hj (fun _ e=>by cases e) (fun _ e=>by cases e;rfl) (fun x e=>by rcases e with e|e<;>cases e) (fun e=>by cases e) (fun e=>by cases e) (fun e=>by cases e);have hL:Loc c mn cp (tick (bW st s .out (.aU k) [o] []) none none k (some { job:=2,aB:=k,pc:=10,aA:=(s:Int),obj:=(o:Int) })) k { job:=2,aB:=k,pc:=10,aA:=(s:Int),obj:=(o:Int) }:=by
  refine⟨rfl,rfl,(by constructor<;>intro e<;>cases e),.inl rfl,(fun e=>by cases e),⟨hi.ms,fun x => ?_,hi.ch⟩,⟨by show(0:Int)≤s;omega,by show(s:Int)<c.S;omega⟩,by show(0:Int)≤o;omega,by show(o:Int)<c.O;omega⟩;show(bW st s .out (.aU k) [o] []).ol x (.aU k)=if x=s then [o] else []
  by_cases e:x=s
  ·rw[e,zu,if_pos rfl,hi.ob]
   split<;>rfl
  ·rw[o6 (fun e2=>e e2.1) (fun e2=>e e2.1),hi.ob,if_neg e]
   split<;>rfl
 refine⟨_,JD Z hk (wQ G hM) hR rfl rfl rfl rfl rfl FM (.inr ⟨_,rfl,hL⟩) fun i _ => ?_,?_,fun x y => ?_,rfl⟩
 ·exact wP i (fun x e=>⟨(fun e2=>by cases e2),fun e2=>by cases e2⟩) (fun x e=>.inr ⟨(fun e=>by cases e),fun e=>by cases e⟩)
 ·have:=LX (x:=some { job:=2,aB:=k,pc:=10,aA:=(s:Int),obj:=(o:Int) }) Z.I hk hR rfl rfl (fun _=>rfl) (fun x=>EF (fun e=>by cases e) (fun e=>by cases e) x) rfl rfl
  have hp:xg c (tick (bW st s .out (.aU k) [o] []) none none k (some { job:=2,aB:=k,pc:=10,aA:=(s:Int),obj:=(o:Int) })) (some { job:=2,aB:=k,pc:=10,aA:=(s:Int),obj:=(o:Int) })+1≤PJ c:=by
   show 97+0+1≤_;unfold PJ;omega
  omega
 ·show(bW st s .out (.aU k) [o] []).loc x y = .out↔_
  unfold bW;dsimp only;by_cases e:x=s∧y∈[o]
  ·rw[if_pos e]
   rw[ZxE]at e;exact⟨(fun e2=>by cases e2),fun e2=>absurd e e2.2⟩
  ·rw[if_neg e]
   rw[ZxE]at e;exact⟨fun e2=>⟨e2,e⟩,fun e2=>e2.1⟩
theorem Ztc (h:Loc c mn cp st k t)(hw:t.want=1):t.pc=43∧Has st k [] 0 [] []∧mg st k:=by
 have hA:=h.at_;rcases h.want with h1|h1|h1
 ·rw[hw]at h1
  cases h1
 ·unfold At at hA
  rw[h1.1]at hA;exact⟨h1.1,hA.1 hw⟩
 ·rw[hw]at h1
  cases h1.2
theorem Ztd (h:Loc c mn cp st k t)(hw:t.want=2):t.pc=78:=by
 rcases h.want with h1|h1|h1
 ·rw[hw]at h1
  cases h1
 ·rw[hw]at h1
  cases h1.2
 ·exact h1.1
theorem TJ (I:Inv c mn cp st)(ht:st.tk k=some t)(hw:t.want≠0):st.hold≠some k:=fun e=>by
 obtain⟨t2,e1,_,e3⟩:=I.gL k e;rw[ht]at e1;cases e1;exact hw e3
theorem ZmO (Z:kP c mn cp st g)(ht:st.tk k=some t)(hw:t.want=1):∃ st',Nx c mn cp st g k none st'∧gW c st'+1≤gW c st∧st'.loc=st.loc∧st'.own=st.own:=by
 obtain⟨hk,hL⟩:=Z.I.loc k t ht;obtain⟨hp,h1,_⟩:=Ztc hL hw;refine⟨_,JD Z hk Z.I.G (fun j hj=>bB.refl) rfl rfl rfl rfl rfl (TJ Z.I ht (by rw[hw];decide)) (.inl ⟨rfl,h1⟩) fun _ _=>rfl,?_,rfl,rfl⟩;have:=LX (x:=none) Z.I hk (fun j hj=>bB.refl) rfl rfl (fun _=>rfl) (fun _=>rfl) rfl rfl;rw[Dh ht]at this;have hb:base c st t=AA c - 1:=by
  unfold base;rw[hp];exact if_pos hw
 have e:xg c (tick st none none k none) none=0:=rfl;unfold aF at this;unfold AA at hb;omega
theorem Zl4 {s:Nat}(Z:kP c mn cp st g)(ht:st.tk k=some t)(hw:t.want=1)(hs:s<c.S)(hd:st.own s = .dead):∃ st',Nx c mn cp st g k (some { t with want:=0,aA:=(s:Int),many:=0,pc:=43 }) st'∧gW c st'+1≤gW c st∧(∀ x y,st'.loc x y = .out↔st.loc x y = .out)∧∀ x,st'.own x=st.own x∨st'.own x = .mine k:=by
 have hO:=Z.O;have G:=Z.I.G;obtain⟨hk,hL⟩:=Z.I.loc k t ht;obtain⟨hp,h1,h2⟩:=Ztc hL hw;have ic:=G.dead s hd;have hn:∀ o,st.loc s o = .none:=fun o=>by
  by_cases e:st.loc s o = .none
  ·exact e
  ·have h1:=G.ob s o e
   exact(G.live s o h1.1 h1.2).2 hd
 have hG:=ZnG (l:=List.range c.O) G hd hs hk (fun o=>ZxW) List.nodup_range h1.ms;have bA:∀ x z,z≠.aU k→(make st k s (List.range c.O)).ol x z=st.ol x z:=by
  intro x z hz;unfold make;dsimp only;rw[if_neg (fun e=>hz e.2)]
 have bC:∀ y,y≠.mine k→(make st k s (List.range c.O)).sl y=st.sl y:=by
  intro y hy;unfold make;dsimp only;rw[if_neg hy]
 have hL':Loc c mn cp (tick (make st k s (List.range c.O)) none none k (some { t with want:=0,aA:=(s:Int),many:=0,pc:=43 })) k { t with want:=0,aA:=(s:Int),many:=0,pc:=43 }:=by
  refine⟨hL.aB,hL.fin,?_,.inl rfl,(fun e=>by cases e),?_,fun _=>⟨⟨if_pos rfl,fun x => ?_,?_⟩,?_,⟨by show(0:Int)≤s;omega,by show(s:Int)<c.S;omega⟩,ic,⟨by show(0:Int)≤0;omega,by show(0:Int)<c.O;omega⟩,fun i hi => ?_⟩⟩
  ·have:=hL.job
   rw[hp]at this;exact this
  ·intro e
   cases e
  ·show(if x=s∧Ct.aU k = .aU k then List.range c.O else st.ol x (.aU k))=if x=s then List.range c.O else []
   by_cases e:x=s
   ·rw[if_pos ⟨e,rfl⟩,if_pos e]
   ·rw[if_neg (fun e2=>e e2.1),if_neg e,h1.ob]
    split<;>rfl
  ·exact(bC _ (fun e=>by cases e)).trans h1.ch
  ·exact(bC _ (fun e=>by cases e)).trans h2
  ·have:i<(0:Int).toNat:=hi
   simp at this
 refine⟨_,JD Z hk hG (fun j hj=>Zd hj) rfl rfl rfl rfl rfl (TJ Z.I ht (by rw[hw];decide)) (.inr ⟨_,rfl,hL'⟩) fun i _ => ?_,?_,fun x y => ?_,fun x => ?_⟩
 ·cases i with
  |hd x=>exact zl (bC _ (fun e=>by cases e)) (fun y=>bA y _ (fun e=>by cases e))
  |pd x=>show pw ((make st k s _).sl _)=pw (st.sl _);rw[bC _ (fun e=>by cases e)]
  |shelf=>show sw ((make st k s _).sl _)=sw (st.sl _);rw[bC _ (fun e=>by cases e)]
  |fr x=>exact Db (bA x _ (fun e=>by cases e))
  |ct x=>exact zA (bA x _ (fun e=>by cases e)) rfl rfl
  |_=>rfl
 ·have:=LX (x:=some { t with want:=0,aA:=(s:Int),many:=0,pc:=43 }) Z.I hk (fun j hj=>Zd (s:=s) (l:=List.range c.O) hj) rfl rfl (fun _=>bC _ (fun e=>by cases e)) (fun x=>bA x _ (fun e=>by cases e)) rfl rfl
  rw[Dh ht]at this;have hb:base c st t=AA c - 1:=by
   unfold base;rw[hp];exact if_pos hw
  have mD:xg c (tick (make st k s (List.range c.O)) none none k (some { t with want:=0,aA:=(s:Int),many:=0,pc:=43 })) (some { t with want:=0,aA:=(s:Int),many:=0,pc:=43 })=77+2 * c.S+c.O:=rfl;rw[mD]at this;unfold aF at this;unfold AA at hb;omega
 ·show(make st k s (List.range c.O)).loc x y = .out↔_
  unfold make;dsimp only;split
  ·rename_i e
   rw[e.1,hn];exact⟨(fun e=>by cases e),fun e=>by cases e⟩
  ·exact Iff.rfl
 ·by_cases e:x=s
  ·exact .inr (if_pos e)
  ·exact .inl (if_neg e)
theorem ZG (Z:kP c mn cp st g)(ht:st.tk k=some t)(hw:t.want=2):∃ t',kY { t with want:=0 }=some t'∧∃ st',Nx c mn cp st g k (stop t') st'∧(t'.fin=0∨t'.fin=1)∧t'.job=t.job∧t.job≠1∧gW c st'+1≤gW c st∧(∀ x y,st'.loc x y = .out↔st.loc x y = .out):=by
 have G:=Z.I.G;obtain⟨hk,hL⟩:=Z.I.loc k t ht;have hp:=Ztd hL hw;have hA:=hL.at_;unfold At at hA;rw[hp]at hA;obtain⟨l,ch,h1,h2,h3,h4⟩:=hA;have jH:t.job≠1:=fun e=>by
  have:=hL.job.1 e;rw[hp]at this;cases this
 have hG:=Znw G h1.ms h3;have bA:∀ x z,z≠.aU k→(kill st k (sn t)).ol x z=st.ol x z:=by
  intro x z hz;unfold kill;dsimp only;rw[if_neg (fun e=>hz e.2)]
 have bC:∀ y,y≠.mine k→(kill st k (sn t)).sl y=st.sl y:=by
  intro y hy;unfold kill;dsimp only;rw[if_neg hy]
 have lD:Has (kill st k (sn t)) k [] 0 [] ch:=by
  refine⟨if_pos rfl,fun x => ?_,(bC _ (fun e=>by cases e)).trans h1.ch⟩;show(if x=sn t∧Ct.aU k = .aU k then [] else st.ol x (.aU k))=if x=0 then [] else []
  by_cases e:x=sn t
  ·rw[if_pos ⟨e,rfl⟩]
   split<;>rfl
  ·rw[if_neg (fun e2=>e e2.1),h1.ob,if_neg e]
   split<;>rfl
 have FM:=TJ Z.I ht (by rw[hw];decide);have hv:∀ i:Ix,i.ok c→val c (kill st k (sn t)) i=val c st i:=fun i _=>by
  cases i with
  |hd x=>exact zl (bC _ (fun e=>by cases e)) (fun y=>bA y _ (fun e=>by cases e))
  |pd x=>show pw ((kill st k _).sl _)=pw (st.sl _);rw[bC _ (fun e=>by cases e)]
  |shelf=>show sw ((kill st k _).sl _)=sw (st.sl _);rw[bC _ (fun e=>by cases e)]
  |fr x=>exact Db (bA x _ (fun e=>by cases e))
  |ct x=>exact zA (bA x _ (fun e=>by cases e)) rfl rfl
  |_=>rfl
 have fB:∀ x y,(kill st k (sn t)).loc x y = .out↔st.loc x y = .out:=fun x y=>by
  unfold kill;dsimp only;split
  ·rename_i e
   constructor
   ·intro e2
    cases e2
   ·intro e2
    have hb:=G.ob x y (by rw[e2];intro e;cases e);have:=G.making (sn t) k (h1.own G) h3 y hb.2;rw[← e,e2]at this;cases this
  ·exact Iff.rfl
 have rX:∀ x,gW c (tick (kill st k (sn t)) none none k x)+aF c st t≤gW c st+xg c (tick (kill st k (sn t)) none none k x) x:=fun x=>by
  have:=LX (x:=x) Z.I hk (fun j hj=>Tc (s:=sn t) hj) rfl rfl (fun _=>bC _ (fun e=>by cases e)) (fun x=>bA x _ (fun e=>by cases e)) rfl rfl;rw[Dh ht]at this;exact this
 have hb:aF c st t=1+cont c st t.back t.aB:=by
  unfold aF base pen;simp[hp]
 have aI:ch=[]→kY { t with want:=0 }=some { t with want:=0,fin:=1 }→∃ t',kY { t with want:=0 }=some t'∧∃ st',Nx c mn cp st g k (stop t') st'∧(t'.fin=0∨t'.fin=1)∧t'.job=t.job∧t.job≠1∧gW c st'+1≤gW c st∧(∀ x y,st'.loc x y = .out↔st.loc x y = .out):=by
  intro gM hg;have aW:stop { t with want:=0,fin:=1 }=none:=if_neg (show ¬(1:Int)=0 by decide);refine⟨_,hg,tick (kill st k (sn t)) none none k none,by rw[aW];exact JD Z hk hG (fun j hj=>Tc hj) rfl rfl rfl rfl rfl FM (.inl ⟨rfl,by rw[gM]at lD;exact lD⟩) hv,.inr rfl,rfl,jH,?_,fB⟩;have h5:=rX none;have e:xg c (tick (kill st k (sn t)) none none k none) none=0:=rfl;omega
 have hgo:∀ t',t'.aB=t.aB→t'.fin=0→t'.job=t.job→t'.want=0→t'.pc≠78→alloc t'.pc=false→At c mn cp (tick (kill st k (sn t)) none none k (some t')) k t'→aF c (tick (kill st k (sn t)) none none k (some t')) t'≤cont c st t.back t.aB→kY { t with want:=0 }=some t' →
  ∃ t',kY { t with want:=0 }=some t'∧∃ st',Nx c mn cp st g k (stop t') st'∧(t'.fin=0∨t'.fin=1)∧t'.job=t.job∧t.job≠1∧gW c st'+1≤gW c st∧(∀ x y,st'.loc x y = .out↔st.loc x y = .out):=by
  intro t' hc hf hj hw' lm ha hAt IA hg;have aW:stop t'=some t':=if_pos hf;have hJ:t'.job=1↔alloc t'.pc=true:=by
   rw[hj,ha];exact⟨fun e=>absurd e jH,fun e=>by cases e⟩
  refine⟨_,hg,tick (kill st k (sn t)) none none k (some t'),by rw[aW];exact JD Z hk hG (fun j hj=>Tc hj) rfl rfl rfl rfl rfl FM (.inr ⟨t',rfl,hc.trans hL.aB,hf,hJ,.inl hw',fun e=>absurd e lm,hAt⟩) hv,.inl hf,hj,jH,?_,fB⟩
  ·have h5:=rX (some t')
   have e:xg c (tick (kill st k (sn t)) none none k (some t')) (some t')=aF c (tick (kill st k (sn t)) none none k (some t')) t':=rfl;omega
 rcases h4 with⟨mR,gM⟩|⟨mR,gM,hf⟩|⟨mR,gM⟩|⟨mR,hH⟩
 ·exact aI gM (if_pos mR)
 ·refine hgo { t with want:=0,pc:=73 } rfl hL.fin rfl rfl (fun e=>by cases e) rfl ?_ ?_ ?_
  ·unfold At
   rw[gM]at lD;exact⟨lD,hf⟩
  ·show 20+0≤_
   unfold cont;rw[if_pos mR];exact Zxt _
  ·unfold kY
   rw[if_neg (show ¬t.back=0 by omega),if_pos (show t.back=73 from mR)]
 ·refine hgo { t with want:=0,pc:=95 } rfl hL.fin rfl rfl (fun e=>by cases e) rfl ?_ ?_ ?_
  ·unfold At
   rw[gM]at lD;exact lD
  ·show 2 * c.S+12+0≤_
   unfold cont;rw[if_neg (by omega),if_pos mR];omega
  ·unfold kY
   rw[if_neg (show ¬t.back=0 by omega),if_neg (show ¬t.back=73 by omega),if_pos (show t.back=95 from mR)]
 ·cases gM:ch with
  |nil =>
   refine aI gM ?_;unfold kY;rw[if_neg (show ¬t.back=0 by omega),if_neg (show ¬t.back=73 by omega),if_neg (show ¬t.back=95 by omega),if_pos (show t.back=79 from mR),if_pos (show t.H=0 by rw[hH,gM];rfl)]
  |cons a r =>
   refine hgo { t with want:=0,pc:=79 } rfl hL.fin rfl rfl (fun e=>by cases e) rfl ?_ ?_ ?_
   ·unfold At
    exact⟨ch,lD,by rw[gM];simp,hH⟩
   ·show 36 * ((kill st k (sn t)).sl (.chain t.aB)).length+0≤_
    rw[bC _ (fun e=>by cases e)];unfold cont;rw[if_neg (by omega),if_neg (by omega),if_pos mR];omega
   ·unfold kY
    rw[if_neg (show ¬t.back=0 by omega),if_neg (show ¬t.back=73 by omega),if_neg (show ¬t.back=95 by omega),if_pos (show t.back=79 from mR),if_neg (show ¬t.H=0 by rw[hH,gM];exact UF)]
end
end Cv
namespace Cw
open Go Ex Mem
open Go.RowKit
open Go.ChangeMaps (setBlock)
section
variable {P:Program}{W w:World}{m:List (Nat×Obj)}{b bt bi ck since c0:Nat}{es:Array MapEntry}{seen:Array Nat}
variable {ops:Array Oper}{rest:List Oper}{x:Oper}{a:Act}{Q:Exit→Act→World→Prop}
theorem Zke (hg:x.guard=none)(p:Operand)(dX:x.op=Op.next p false)(hp:a.eval p = .pointer (some ⟨bi,0,none⟩))(hO:Own W ((bi,.mapIter (some bt) since seen c0)::m) w)(hb:(bt,.map es ck)∈m)(hold:∀ x∈es.toList,x.born<since)(II:since≤c0)(h0:(leftOf es seen).size=0)
 (Ia:wpList P ops Q rest (a.put x.dst (.tuple #[.bool false])) w):wpList P ops Q (x::rest) a w :=
 Yu hg p dX hp hO hb hold II (fun _=>Ia) fun e _ he _=>by
  have:(leftOf es seen).toList.length=0:=by rw[Array.length_toList];exact h0
  rw[List.eq_nil_of_length_eq_zero this]at he;cases he
theorem Zkf (hg:x.guard=none)(p:Operand)(dX:x.op=Op.next p false)(hp:a.eval p = .pointer (some ⟨bi,0,none⟩))(hO:Own W ((bi,.mapIter (some bt) since seen c0)::m) w)(hb:(bt,.map es ck)∈m)(hold:∀ x∈es.toList,x.born<since)(II:since≤c0)(h0:(leftOf es seen).size≠0)
 (dK:∀ e w',e∈(leftOf es seen).toList→Own W ((bi,.mapIter (some bt) since (seen.push e.born) ck)::m) w'→wpList P ops Q rest (a.put x.dst (.tuple #[.bool true,e.key,e.val])) w'):wpList P ops Q (x::rest) a w :=
 Yu hg p dX hp hO hb hold II (fun h=>absurd h h0) dK
end
section
variable {W w:World}{M:List (Nat×Obj)}{es:Array MapEntry}{ck n b:Nat}{f:Int→Option Int}
theorem Zk1 (h:IM es n f)(hb:w.heap[b]?=some (.map es ck)){k:Int}(hk:(Lit.int .i64 k).wf=true) :
 (Instr.lookup 98 (.map (some b)) (.int .i64 k) false).run Tryz.prog w = .ok (.int .i64 ((f k).getD 0)) w:=by
 have aV:=keyOf_i64 hk;have K:=int_keyed';rcases K.find w aV es.toList h.GC with⟨h1,h2⟩|⟨j,e0,h1,h2,h3⟩
 ·have hf:=h.Qj h2
  simp[Instr.lookup,run_underlying Tryz.underlying98,MapKept.run_getObj_map hb,K.check w _ aV,h1,Result.andThen,hf]
 ·have hm:=Zxz h2
  obtain⟨k',c,e1,e2,-⟩:=h.ints e0 hm;have hf:f k=some c:=(h.fits k c).2 ⟨e0,hm,h3,e2⟩;simp[Instr.lookup,run_underlying Tryz.underlying98,MapKept.run_getObj_map hb,K.check w _ aV,h1,Result.andThen,hf,e2]
variable {ops:Array Oper}{rest:List Oper}{o:Oper}{a:Act}{Q:Exit→Act→World→Prop}
theorem XG (hw:Region.wanted o (yielded ops a.tmps)=true)(m x:Operand)(dX:o.op=Op.lookup 98 m x false){k:Int}(hm:a.eval m = .map (some b))(hx:a.eval x = .int .i64 k)
 (h:IM es n f) (hb:w.heap[b]?=some (.map es ck)) (hk:(Lit.int .i64 k).wf=true)
 (hK:wpList Tryz.prog ops Q rest (a.put o.dst (.int .i64 ((f k).getD 0))) w):wpList Tryz.prog ops Q (o::rest) a w:=by
 refine Go.BigFrame.wpList_want hw fun K' hK' => ?_;unfold Oper.wp;simp only[execOp,dX,hm,hx,Zxy,Zk1 h hb hk,Result.andThen];exact hK' _ _ hK
end
section
def oo (tk:Nat→Option Tk)(C:Nat):Int→Option Value:=fun j=>if 0≤j∧j<(C:Int) then (tk j.toNat).map bH else none
variable {tk:Nat→Option Tk}{C i:Nat}{t t':Tk}
theorem BI (hi:i<C):oo tk C (i:Int)=(tk i).map bH:=by
 unfold oo;rw[if_pos ⟨by omega,by omega⟩,Zx2]
theorem LM (hi:i<C):vS (oo tk C) (i:Int) (bH t)=oo (Cv.upd tk i (some t)) C:=by
 funext j
 unfold vS oo;by_cases e:j=(i:Int)
 ·subst e
  rw[if_pos rfl,if_pos ⟨by omega,by omega⟩,Zx2,Cv.upd_same];rfl
 ·rw[if_neg e]
  by_cases h:0≤j∧j<(C:Int)
  ·rw[if_pos h,if_pos h,Cv.upd_ne (by omega)]
  ·rw[if_neg h,if_neg h]
theorem Zqf (hi:i<C):Fg (oo tk C) (i:Int)=oo (Cv.upd tk i none) C:=by
 funext j
 unfold Fg oo;by_cases e:j=(i:Int)
 ·subst e
  rw[if_pos rfl,if_pos ⟨by omega,by omega⟩,Zx2,Cv.upd_same];rfl
 ·rw[if_neg e]
  by_cases h:0≤j∧j<(C:Int)
  ·rw[if_pos h,if_pos h,Cv.upd_ne (by omega)]
  ·rw[if_neg h,if_neg h]
theorem Tq (hi:i<C)(hc:t.aB=i):GK (oo tk C) t=oo (Cv.upd tk i (Cv.stop t)) C:=by
 unfold GK Cv.stop;rw[hc,LM hi,Zqf hi];split
 ·rfl
 ·congr 1
  funext j
  by_cases e:j=i
  ·rw[e,Cv.upd_same,Cv.upd_same]
  ·rw[Cv.upd_ne e,Cv.upd_ne e,Cv.upd_ne e]
theorem Um {a b:Tk}(h:bH a=bH b):a=b:=by
 cases a;cases b;simp only[bH,Value.agg.injEq,Array.mk.injEq,List.cons.injEq,Value.int.injEq,true_and,and_true]at h;simp only[Tk.mk.injEq];omega
end
end Cw
end Go.Proofs.YtfcpdlbkmkhhcaaGreatDoor
