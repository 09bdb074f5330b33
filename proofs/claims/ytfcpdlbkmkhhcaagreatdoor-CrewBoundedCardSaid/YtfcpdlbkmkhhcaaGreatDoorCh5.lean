/-
  Texts of this claim, joined. No condition.
-/
import Derived.Test.YtfcpdlbkmkhhcaaGreatDoorCh1
import Derived.Test.YtfcpdlbkmkhhcaaGreatDoorCh4
namespace Go.Proofs.YtfcpdlbkmkhhcaaGreatDoor
set_option maxRecDepth 100000
set_option maxHeartbeats 40000000
namespace Ex
open Go
variable [au]
section
variable {P:Program}{ρ ρ':Ren}
def LH (ρ:Ren)(cs:T AV)(cur:Array Value):Prop:=∀ i v,cs.get i=some v→v.one=true∧∃ y,cur[i]?=some y∧VR ρ v y
theorem Jd {cs:T AV}{cur:Array Value}(hc:LH ρ cs cur):∀ {n i:Nat} {l:List AV},nZ cs i n=some l→∃ ys:List Value,ys.length=n∧aH ρ l ys∧(∀ (j:Nat) y,ys[j]?=some y→cur[i+j]?=some y)∧∀ y∈ys,y.oneCell'=true
 |0,_,l,h=>by simp only[nZ,ZlP]at h;subst h;exact⟨[],rfl,aH.nil,by simp,by simp⟩
 |n+1,i,l,h=>by
  unfold nZ at h;split at h<;>try(cases h;done)
  rename_i v hv;split at h<;>try(cases h;done)
  rename_i m hm;simp only[ZlP]at h;subst h;obtain⟨h1,y,hy,hr⟩:=hc _ _ hv;obtain⟨ys,hl,CF,hg,ho⟩:=Jd hc hm;refine⟨y::ys,by simp[hl],aH.cons hr CF,fun j z hz => ?_,fun z hz => ?_⟩
  ·cases j with
   |zero=>simp at hz;subst hz;simpa using hy
   |succ j =>
    have:=hg j z (by simpa using hz)
    rwa [show Nat.add i 1+j=i+(j+1) from by show i+1+j=_;omega]at this
  ·rcases List.mem_cons.1 hz with rfl|hz
   ·exact hr.oneCell h1
   ·exact ho z hz
omit [au] in
theorem Gm:∀ {l:List AV} {cs:T AV} {i j:Nat} {v:AV},(Dz cs i l).get j=some v→(i≤j∧j<i+l.length∧l[j - i]?=some v)∨((j<i∨i+l.length≤j)∧cs.get j=some v)
 |[],cs,i,j,v,h=>.inr ⟨by simp;omega,h⟩
 |x::l,cs,i,j,v,h=>by
  unfold Dz at h;rcases Gm h with⟨h1,h2,h3⟩|⟨h1,h2⟩
  ·have h1:i+1≤j:=h1
   have h2:j<i+1+l.length:=h2;refine .inl ⟨by omega,by simp;omega,?_⟩;have h3:l[j - (i+1)]?=some v:=h3;rw[show j - i=(j - (i+1))+1 from by omega,List.getElem?_cons_succ];exact h3
  ·have h1:j<i+1∨i+1+l.length≤j:=h1
   rcases T.get_put h2 with⟨h3,h4⟩|⟨h3,h4⟩
   ·subst h3
    refine .inl ⟨Zxt _,by simp,?_⟩;rw[Nat.sub_self];simpa using h4
   ·refine .inr ⟨?_,h4⟩
    simp only[ZxJ];omega
omit [au] in
theorem T.sQ {α:Type}(j:Nat):(T.e:T α).get j=none:=T.Gv _
theorem O4 {l:List AV}{ys:List Value}(h:aH ρ l ys)(h1:kz l=true)(e:TypeId):OR ρ (cellsOf e l) ys.length (some (.cells ys.toArray e (0,0))):=by
 refine⟨ys.toArray,rfl,by simp,by rw[h.len];exact Zxt _,fun i v hv => ?_⟩;rcases Gm hv with⟨_,_,h3⟩|⟨_,h3⟩
 ·rw[Nat.sub_zero]at h3
  refine⟨F9 h1 v (Zxz h3),?_⟩;obtain⟨y,hy,hr⟩:=h.get h3;exact⟨y,by simpa using hy,hr⟩
 ·rw[T.sQ]at h3;cases h3
theorem Yr {y:AV}{k:IntKind}{e:SE}{u:Value}(h:tq y=some (k,e))(hv:VR ρ y u):u = .int k (e.ev au.σ):=by
 unfold tq at h;split at h<;>try(cases h;done)
 ·simp only[ZlP,ZxA]at h
  obtain⟨rfl,rfl⟩:=h;exact hv.BD
 ·simp only[ZlP,ZxA]at h
  obtain⟨rfl,rfl⟩:=h;unfold VR at hv;exact hv
theorem Sn {d k:IntKind}{e:SE}:∀ {es:List (AV×AV)} {xs:List MapEntry} {r:Option (Nat×AV)} (idx:Nat),Mj k e es=some r→MR ρ es xs →
 (r=none∧Instr.findNow (.int d) (.int k (e.ev au.σ)) xs idx=some none)∨∃ j v x,r=some (j,v)∧Instr.findNow (.int d) (.int k (e.ev au.σ)) xs idx=some (some (idx+j,x.val))∧xs[j]?=some x∧x.key = .int k (e.ev au.σ)∧VR ρ v x.val
 |[],xs,r,idx,h,hm=>by
  unfold Mj at h;simp only[ZlP]at h;subst h;have:xs=[]:=hm;subst this;exact .inl ⟨rfl,rfl⟩
 |(a,v)::es,xs,r,idx,h,hm=>by
  obtain⟨x,xs',rfl,h1,h2,h3⟩:=hm;unfold Mj at h;split at h<;>try(cases h;done)
  rename_i k' e' Ol;have hk:=Yr Ol h1;split at h<;>try(cases h;done)
  rename_i NG;have NG:=Zx6 NG;subst NG;split at h<;>try(cases h;done)
  ·rename_i hq
   have hq:=yg hq;simp only[ZlP]at h;subst h;have he:e.ev au.σ=e'.ev au.σ:=eq_of_beq hq;refine .inr ⟨0,v,x,rfl,?_,rfl,by rw[hk,he],h2⟩;simp[Instr.findNow,Instr.sameNow,hk,he]
  ·rename_i hq
   have hq:=yg hq;have step:∀ r',Instr.findNow (.int d) (.int k (e.ev au.σ)) xs' (idx+1)=r'→Instr.findNow (.int d) (.int k (e.ev au.σ)) (x::xs') idx=r':=fun r' nS=>by
    simp only[Instr.findNow,Instr.sameNow,hk,if_true,hq];exact nS
   split at h
   ·rename_i n u hn
    simp only[ZlP]at h;subst h;rcases Sn (d:=d) (idx+1) hn h3 with⟨h4,_⟩|⟨j,v',x',h4,h5,h6,h7,h8⟩
    ·cases h4
    ·cases h4
     exact .inr ⟨n+1,u,x',rfl,by rw[step _ h5,show idx+1+n=idx+(n+1) by omega],by simpa using h6,h7,h8⟩
   ·rename_i hne
    rcases Sn (d:=d) (idx+1) h h3 with⟨h4,h5⟩|⟨j,v',x',h4,h5,h6,h7,h8⟩
    ·exact .inl ⟨h4,step _ h5⟩
    ·exact absurd (h.trans (congrArg some h4)) (hne _ _)
theorem Zjt {d:IntKind}{es:List (AV×AV)}{xs:List MapEntry}{y:AV}{y2:Value}{r:Option (Nat×AV)}(h:UC es y=some r)(hm:MR ρ es xs)(hy:VR ρ y y2) :
 ∃ k i,y2 = .int k i∧((r=none∧Instr.findNow (.int d) (.int k i) xs 0=some none)∨∃ j v x,r=some (j,v)∧Instr.findNow (.int d) (.int k i) xs 0=some (some (j,x.val))∧xs[j]?=some x∧x.key = .int k i∧VR ρ v x.val):=by
 unfold UC at h;split at h<;>try(cases h;done)
 rename_i k e Ol;refine⟨k,_,Yr Ol hy,?_⟩;rcases Sn (d:=d) 0 h hm with h1|⟨j,v,x,h1,h2,h3⟩
 ·exact .inl h1
 ·exact .inr ⟨j,v,x,h1,by rw[h2,Nat.zero_add],h3⟩
omit [au] in
theorem Zi5 (b:Bool)(n:Nat){kt:TypeId}{d k:IntKind}{i:Int}(hu:P.underlying kt=some (.int d))(w:World):(Instr.checkKey b (n+1) kt (.int k i)).run P w = .ok () w:=by
 unfold Instr.checkKey;rw[Zxy,run_underlying hu w];rfl
omit [au] in
theorem Yc {es:List MapEntry}{kt:TypeId}{d k:IntKind}{i:Int}{r:Option (Nat×Value)}(hu:P.underlying kt=some (.int d))(h:Instr.findNow (.int d) (.int k i) es 0=some r)(w:World) :
 (Instr.findKey kt (.int k i) es).run P w = .ok r w:=by
 unfold Instr.findKey;rw[Zxy,run_underlying hu w];simp only[Zxs,h];rfl
omit [au] in
theorem wN {r:Nat}{w:World}{xs:Array MapEntry}{c:Nat}(h:w.heap[r]?=some (.map xs c)):(getObj r).run P w = .ok (.map xs c) w:=by
 simp only[getObj,Sem.run,h]
theorem ZkS {y:AV}{v x:Value}(h:QA y=some v)(hx:VR ρ y x):x=v:=by
 unfold QA at h;split at h<;>try(cases h;done)
 ·cases h;unfold VR at hx;exact hx
 ·cases h;unfold VR at hx;exact hx
theorem X5:∀ {l:List AV} {vs xs:List Value},EW l=some vs→aH ρ l xs→xs=vs
 |[],vs,xs,h,hx=>by
  unfold EW at h;cases h;have:=aH.len hx;exact List.length_eq_zero_iff.1 this.symm
 |v::l,vs,xs,h,hx=>by
  unfold EW at h;split at h<;>try(cases h;done)
  rename_i x hv;split at h<;>try(cases h;done)
  rename_i ys mX;cases h;obtain⟨y,zs,rfl,h1,h2⟩:=hx.nA;rw[ZkS hv h1,X5 mX h2]
theorem Zmo {y:AV}{v x:Value}(h:MB y=some v)(hx:VR ρ y x):x=v:=by
 unfold MB at h;split at h<;>try(cases h;done)
 split at h<;>try(cases h;done)
 rename_i vs mX;cases h;unfold VR at hx;obtain⟨a,rfl,ha⟩:=hx;have:=X5 mX ha;subst this;rfl
theorem Zk:∀ {a b:List AV} {ys zs:List Value},EU.go a b=true→aH ρ a ys→aH ρ b zs→ys=zs
 |[],[],ys,zs,_,h1,h2=>by
  have:=aH.len h1;have e1:=List.length_eq_zero_iff.1 this.symm;have:=aH.len h2;have e2:=List.length_eq_zero_iff.1 this.symm;rw[e1,e2]
 |x::a,y::b,ys,zs,h,h1,h2=>by
  unfold EU.go at h;split at h<;>try(cases h;done)
  ·rename_i e1 e2
   cases e1
  ·rename_i k n a' k' n' b' e1 e2
   cases e1;cases e2;rw[Zxu,Zxu]at h;obtain⟨hk,hn,hr⟩:=h;obtain⟨u,us,rfl,g1,g2⟩:=h1.nA;obtain⟨v,vs,rfl,g3,g4⟩:=h2.nA;unfold VR at g1 g3;rw[g1,g3,Zx6 hk,eq_of_beq hn,Zk hr g2 g4]
 |[],_::_,_,_,h,_,_=>by unfold EU.go at h;cases h
 |x::_,[],_,_,h,_,_=>by cases x<;>(unfold EU.go at h;cases h)
theorem ZkR {x y:AV}{u v:Value}(h:EU y x=true)(hy:VR ρ y v)(hx:VR ρ x u):u=v:=by
 unfold EU at h;split at h<;>try(cases h;done)
 unfold VR at hx hy;obtain⟨a,rfl,ha⟩:=hy;obtain⟨b,rfl,hb⟩:=hx;have:=Zk h ha hb;rw[Array.ext' this]
omit [au] in
theorem XJ {kt:TypeId}{k:Value}{e:MapEntry}{es:List MapEntry}{i:Nat}{b:Bool}(w:World)(h:(Op.equal kt k e.key).run P w = .ok b w) :
 (Instr.findAsking kt k (e::es) i).run P w=if b then .ok (some (i,e.val)) w else (Instr.findAsking kt k es (i+1)).run P w:=by
 rw[Instr.findAsking,Zxy,h,Zxs];cases b<;>rfl
theorem Sm {kt:TypeId}{y:AV}{y2:Value}(hy:VR ρ y y2):∀ {es:List (AV×AV)} {xs:List MapEntry} {r:Option (Nat×AV)} (idx:Nat),Mi P EU kt y es=some r→MR ρ es xs →
 (r=none∧∀ w,(Instr.findAsking kt y2 xs idx).run P w = .ok none w)∨∃ j v x,r=some (j,v)∧(∀ w,(Instr.findAsking kt y2 xs idx).run P w = .ok (some (idx+j,x.val)) w)∧xs[j]?=some x∧x.key=y2∧VR ρ v x.val
 |[],xs,r,idx,h,hm=>by
  unfold Mi at h;simp only[ZlP]at h;subst h;have:xs=[]:=hm;subst this;exact .inl ⟨rfl,fun w=>rfl⟩
 |(a,v)::es,xs,r,idx,h,hm=>by
  obtain⟨x,xs',rfl,h1,h2,h3⟩:=hm;unfold Mi at h;split at h<;>try(cases h;done)
  ·rename_i hq
   have hq:=fun w=>K9 (P:=P) (ρ:=ρ) 40 9960 _ _ _ _ _ _ hq hy h1 w;split at h<;>try(cases h;done)
   rename_i hl;simp only[ZlP]at h;subst h;exact .inr ⟨0,v,x,rfl,fun w=>by rw[XJ w (hq w)];rfl,rfl,ZkR hl hy h1,h2⟩
  ·rename_i hq
   have hq:=fun w=>K9 (P:=P) (ρ:=ρ) 40 9960 _ _ _ _ _ _ hq hy h1 w;have step:∀ w,(Instr.findAsking kt y2 (x::xs') idx).run P w=(Instr.findAsking kt y2 xs' (idx+1)).run P w:=fun w=>(by rw[XJ w (hq w)];rfl);split at h
   ·rename_i n u hn
    simp only[ZlP]at h;subst h;rcases Sm hy (idx+1) hn h3 with⟨h4,_⟩|⟨j,v',x',h4,h5,h6,h7,h8⟩
    ·cases h4
    ·cases h4
     exact .inr ⟨n+1,u,x',rfl,fun w=>by rw[step w,h5 w,show idx+1+n=idx+(n+1) by omega],by simpa using h6,h7,h8⟩
   ·rename_i hne
    rcases Sm hy (idx+1) h h3 with⟨h4,h5⟩|⟨j,v',x',h4,h5,h6,h7,h8⟩
    ·exact .inl ⟨h4,fun w=>(step w).trans (h5 w)⟩
    ·exact absurd (h.trans (congrArg some h4)) (hne _ _)
omit [au] in
theorem XQ (n:Nat)(k:IntKind)(i:Int):Instr.sameBits n (.int k i) (.int k i)=true:=by
 cases n<;>simp[Instr.sameBits]
omit [au] in
theorem XP (n:Nat):∀ {l:List AV} {vs:List Value},EW l=some vs→(vs.zip vs).all (fun p=>Instr.sameBits n p.1 p.2)=true
 |[],vs,h=>by unfold EW at h;cases h;rfl
 |v::l,vs,h=>by
  unfold EW at h;split at h<;>try(cases h;done)
  rename_i x hv;split at h<;>try(cases h;done)
  rename_i ys mX;cases h;have h1:Instr.sameBits n x x=true:=by
   unfold QA at hv;split at hv<;>try(cases hv;done)
   ·cases hv;cases n<;>simp[Instr.sameBits]
   ·cases hv;exact XQ _ _ _
  simp only[List.zip_cons_cons,List.all_cons,h1,Bool.true_and];exact XP n mX
omit [au] in
theorem Zix (n:Nat){y:AV}{v:Value}(h:MB y=some v):Instr.sameBits (n+1) v v=true:=by
 unfold MB at h;split at h<;>try(cases h;done)
 split at h<;>try(cases h;done)
 rename_i vs mX;cases h;simp only[Instr.sameBits,beq_self_eq_true,Bool.true_and];exact XP n mX
theorem Ph {kt:TypeId}{es:List (AV×AV)}{xs:List MapEntry}{y:AV}{y2:Value}{r:Option (Nat×AV)}(h:vO P kt es y=some r)(hm:MR ρ es xs)(hy:VR ρ y y2) :
 (∀ b w,(Instr.checkKey b 10000 kt y2).run P w = .ok () w)∧(∀ w,(Instr.keyThatStays y2 y2).run P w = .ok y2 w) ∧
 ((r=none∧∀ w,(Instr.findKey kt y2 xs).run P w = .ok none w)∨∃ j v x,r=some (j,v)∧(∀ w,(Instr.findKey kt y2 xs).run P w = .ok (some (j,x.val)) w)∧xs[j]?=some x∧x.key=y2∧VR ρ v x.val):=by
 unfold vO at h;split at h<;>try(cases h;done)
 ·rename_i d NH
  obtain⟨k,i,rfl,hf⟩:=Zjt (d:=d) h hm hy;refine⟨fun b w=>Zi5 b 9999 NH w,fun w => ?_,?_⟩
  ·unfold Instr.keyThatStays
   rw[XQ,if_pos rfl];rfl
  ·rcases hf with⟨h1,h2⟩|⟨j,v,x,h1,h2,h3,h4,h5⟩
   ·exact .inl ⟨h1,fun w=>Yc NH h2 w⟩
   ·exact .inr ⟨j,v,x,h1,fun w=>Yc NH h2 w,h3,h4,h5⟩
 ·rename_i fs NH
  split at h<;>try(cases h;done)
  rename_i hk;unfold ZtY at hk;split at hk<;>try(cases hk;done)
  rename_i v0 CG;have e0:=Zmo CG hy;subst e0;rw[Zxu,Zxu]at hk;obtain⟨k1,k2,k3⟩:=hk;obtain⟨la,xx⟩:=Option.isSome_iff_exists.1 k3;have lg:∀ r',(∀ w,(Instr.findAsking kt y2 xs 0).run P w = .ok r' w)→∀ w,(Instr.findKey kt y2 xs).run P w = .ok r' w:=fun r' nS w=>by
   unfold Instr.findKey;rw[Zxy,run_underlying NH w,Zxs];cases xs with
   |nil =>
    have:=nS w;simpa [Instr.findNow,Instr.findAsking] using this
   |cons e es' =>
    have hn:Instr.findNow (.struct fs) y2 (e::es') 0=none:=(by simp[Instr.findNow,Instr.sameNow]);rw[hn];exact nS w
  refine⟨fun b w=>run_checkKey_deep b 9980 20 kt k1 w 20 y2 la k2 xx,fun w => ?_,?_⟩
  ·unfold Instr.keyThatStays
   rw[show Instr.sameBits 10000 y2 y2=true from Zix 9999 CG,if_pos rfl];rfl
  ·rcases Sm hy 0 h hm with⟨h1,h2⟩|⟨j,v,x,h1,h2,h3,h4,h5⟩
   ·exact .inl ⟨h1,lg _ h2⟩
   ·exact .inr ⟨j,v,x,h1,lg _ (fun w=>by rw[h2 w,Nat.zero_add]),h3,h4,h5⟩
theorem MR.len:∀ {es:List (AV×AV)} {xs:List MapEntry},MR ρ es xs→es.length=xs.length
 |[],xs,h=>by have:xs=[]:=h;subst this;rfl
 |_::es,xs,h=>by
  obtain⟨e,xs',rfl,_,_,h3⟩:=h;simp[MR.len h3]
theorem TN (k:CK)(e:SE):VR ρ (JM k e) (k.val (e.ev au.σ)):=by
 cases k with
 |int k=>unfold JM VR CK.val;rfl
 |bool =>
  unfold JM VR CK.val dB.ev;simp only[SE.ev];cases h:(e.ev au.σ==0)<;>rfl
omit [au] in
theorem Zov {t:TypeId}(h:vP P t=some true):∃ d,P.underlying t=some d∧d.isRow=true:=by
 unfold vP at h;split at h
 ·rename_i hu;exact⟨_,hu,rfl⟩
 ·rename_i hu;exact⟨_,hu,rfl⟩
 ·cases h
 ·cases h
theorem Uw {e:SE}{j:Nat}(he:e.ev au.σ≥0):∀ l:SE,(Cn e j l).ev au.σ=l.jd au.σ (e.ev au.σ).toNat j
 | .jY l x k v=>by
   have ih:=Uw (j:=j) he l;unfold Cn;simp only[SE.jd];split
   ·rename_i J8
    have J8:j≠k:=Nat.ne_of_beq_eq_false J8;rw[ih,if_neg (by omega)]
   ·rename_i J8
    have J8:j=k:=Zxq J8;split
    ·rename_i hq
     have hq:=eq_of_beq (yg hq);rw[hq,if_pos ⟨rfl,J8⟩]
    ·rename_i hq
     have hq:=ne_of_beq_false (yg hq);split
     ·rename_i hx
      have hx:=of_decide_eq_false (qY hx);simp only[SE.ev]at hx;rw[ih,if_neg (by omega)]
     ·simp only[SE.ev,SE.jd]
    ·simp only[SE.ev,SE.jd]
 | .dA _ | .dW _ _ | .fV _ _ | .jf | .at _ _ _ | .len _ | .var _ | .lit _ | .iH _ _ _ | .fH _ _ _ | .cv _ _=>by simp only[Cn,SE.ev]
 | .kG _=>by simp only[Cn,SE.ev,SE.jd]
theorem XM {l e:SE}{ks:List CK}{cur:Array Value}(he:e.ev au.σ≥0)(dJ:∀ j k,ks[j]?=some k→cur[(e.ev au.σ).toNat * ks.length+j]?=some (k.val (l.jd au.σ (e.ev au.σ).toNat j))) :
 ∀ {n j:Nat} {r:List AV},L9 l e ks j n=some r→∃ ys:List Value,ys.length=n∧aH ρ r ys∧∀ (i:Nat) y,ys[i]?=some y→cur[(e.ev au.σ).toNat * ks.length+j+i]?=some y
 |0,j,r,h=>by
  simp only[L9,ZlP]at h;subst h;exact⟨[],rfl,aH.nil,by simp⟩
 |n+1,j,r,h=>by
  unfold L9 at h;split at h<;>try(cases h;done)
  rename_i k hk;split at h<;>try(cases h;done)
  rename_i r' hr;simp only[ZlP]at h;subst h;obtain⟨ys,h1,h2,h3⟩:=XM he dJ hr;refine⟨k.val (l.jd au.σ (e.ev au.σ).toNat j)::ys,by simp[h1],aH.cons ?_ h2,fun i y hy => ?_⟩
  ·have:=TN (ρ:=ρ) k (Cn e j l)
   rwa [Uw he]at this
  ·cases i with
   |zero =>
    simp only[ZxN,ZlP]at hy;subst hy;exact dJ j k hk
   |succ i =>
    have:=h3 i y (by simpa using hy)
    rwa [show(e.ev au.σ).toNat * ks.length+Nat.add j 1+i=(e.ev au.σ).toNat * ks.length+j+(i+1) from by show _+(j+1)+i=_;omega]at this
theorem XT {t:TypeId}{b:Bool}{s:Nat}{l e:SE}{ks:List CK}{j blk:Nat}{v:AV}{w:World}{z:Nat}{et:TypeId}(hb:vP P t=some b)(hs:iA P t=some s)(h:Qe b s l e ks j=some v)
 (hO:OR ρ (.recs l ks et) z w.heap[blk]?) {off:Nat} (nQ:off=(e.ev au.σ).toNat * ks.length+j):∃ x,VR ρ v x∧(loadVar t ⟨blk,off,none⟩).run P w = .ok x w:=by
 subst nQ;obtain⟨cur,dJ,dn,iF,gK⟩:=hO;unfold Qe at h;split at h<;>try(cases h;done)
 rename_i hw;obtain⟨w1,w2⟩:=Gg hw;rw[Gn]at w2;have hr:(e.ev au.σ).toNat<l.iR au.σ:=by omega
 split at h
 ·split at h<;>try(cases h;done)
  rename_i r hg;simp only[ZlP]at h;subst h;obtain⟨ys,h1,h2,h3⟩:=XM (ρ:=ρ) (cur:=cur) w1 (fun j k hk=>gK _ j k hr hk) hg;have iK:w.rangeAt blk ((e.ev au.σ).toNat * ks.length+j) ys:=fun i y hy=>by
   have:=h3 i y hy;simp[World.cell?,dJ,this]
  obtain⟨d,hu,hd⟩:=Zov hb;have:=run_loadAt_mid (P:=P) w blk ((e.ev au.σ).toNat * ks.length+j) t ys d iK hu hd (by rw[K8 hs,h1]);refine⟨.agg ys.toArray,by unfold VR;exact⟨_,rfl,by simpa using h2⟩,?_⟩;simpa [Instr.loadAt,Instr.sureAddr] using this
 ·split at h<;>try(cases h;done)
  rename_i k hk;simp only[ZlP]at h;subst h;refine⟨k.val (l.jd au.σ (e.ev au.σ).toNat j),?_,?_⟩
  ·have:=TN (ρ:=ρ) k (Cn e j l)
   rwa [Uw w1]at this
  ·have hc:w.cell? ⟨blk,(e.ev au.σ).toNat * ks.length+j,none⟩=some (k.val (l.jd au.σ (e.ev au.σ).toNat j)):=by
    simp[World.cell?,dJ,gK _ j k hr hk]
   simp[loadVar,EK hb w,hc]
omit [au] in
theorem Zr {ks:List CK}(off:Nat):off=(recAt ks off).1 * ks.length+(recAt ks off).2:=by
 unfold recAt;show off=off / ks.length * ks.length+off % ks.length;rw[Nat.mul_comm];exact(Nat.div_add_mod _ _).symm
omit [au] in
theorem Zjl {r:Nat}{w:World}{m:Option Nat}{since last:Nat}{seen:Array Nat}(h:w.heap[r]?=some (.mapIter m since seen last)):(getObj r).run P w = .ok (.mapIter m since seen last) w:=by
 simp[getObj,Sem.run,h]
omit [au] in
theorem X4:∀ {l:List Nat} {b:Nat},lastOf l=some b→l.getLast?=some b
 |a::l,b,h=>by
  unfold lastOf at h;split at h
  ·rename_i c hc
   have:=X4 hc;cases l with
   |nil=>cases this
   |cons x l=>rw[List.getLast?_cons_cons,this];exact h
  ·rename_i hc
   cases l with
   |nil=>exact h
   |cons x l =>
    unfold lastOf at hc;split at hc<;>cases hc
theorem XC {b:Nat}{k v:AV}:∀ {es:List (AV×AV)} {bs:List Nat} {xs:List MapEntry},Jn b es bs=some (k,v)→MR ρ es xs→xs.map (·.born)=bs→∃ e,xs.find? (·.born==b)=some e∧VR ρ k e.key∧VR ρ v e.val
 |p::es,c::bs,xs,h,hm,hb=>by
  obtain⟨e,xs',rfl,h1,h2,h3⟩:=hm;rw[List.map_cons,List.cons.injEq]at hb;obtain⟨rfl,hb⟩:=hb;unfold Jn at h;split at h
  ·rename_i hc
   have hc:=Zxq hc;simp only[ZlP]at h;subst h;refine⟨e,?_,h1,h2⟩;rw[List.find?_cons,show(e.born==b)=true by simpa using hc]
  ·rename_i hc
   have hc:=Nat.ne_of_beq_eq_false hc;obtain⟨e',h4,h5⟩:=XC h h3 hb;refine⟨e',?_,h5⟩;rw[List.find?_cons,show(e.born==b)=false by simpa using hc];exact h4
 |[],_,_,h,_,_=>by simp[Jn]at h
 |_::_,[],_,h,_,_=>by simp[Jn]at h
theorem SG {o:Oper}{a:Act}{vs:List AV}{v:AV}{h:AH}{nx:Nat}{w:World}(hr:HR ρ h.get nx w)(ax:yA P o.op vs h=some v)(hv:aH ρ vs (o.op.operands.toList.map a.eval)) :
 ∃ x,VR ρ v x∧(execOp a.eval o).run P w = .ok (.value x) w:=by
 unfold execOp;generalize o.op=op at ax hv;cases op with
 |load t p =>
  simp only[yA]at ax;split at ax<;>try(cases ax;done)
  case h_2 =>
   rename_i n e z j;split at ax<;>try(cases ax;done)
   rename_i l ks et hg;split at ax<;>try(cases ax;done)
   rename_i hz;have hz:=Zxq hz;subst hz;split at ax<;>try(cases ax;done)
   rename_i bb iJ;split at ax<;>try(cases ax;done)
   rename_i s hs;obtain⟨y,hy,hp⟩:=hv.one;simp[Op.operands]at hy;unfold VR at hp;obtain⟨b,z,hb,rfl⟩:=hp;obtain⟨b',s',dP,hO⟩:=hr.obj _ _ hg;rw[hb]at dP;cases dP;obtain⟨x,hx,aO⟩:=XT iJ hs ax hO rfl;exact⟨x,hx,by simp[hy,Instr.loadAt,Instr.sureAddr,aO]⟩
  case h_3 =>
   rename_i i e;split at ax<;>try(cases ax;done)
   rename_i iJ;split at ax<;>try(cases ax;done)
   rename_i k hk;simp only[ZlP]at ax;subst ax;obtain⟨y,hy,hp⟩:=hv.one;simp[Op.operands]at hy;unfold VR at hp;obtain⟨A,len,c,Oh,rfl,aK⟩:=hp;have hc:=((hr.rl i k (some A) len c hk Oh).2 A rfl (by omega)).2 _ aK;refine⟨k.val (au.σ (lc i (e.ev au.σ).toNat 0)),?_,?_⟩
   ·have:=TN (ρ:=ρ) k (.at (.dA i) e 0)
    simpa only[SE.ev,SE.jd] using this
   ·simp[hy,Instr.loadAt,Instr.sureAddr,loadVar,EK iJ w,hc]
  case h_4 =>
   rename_i b off;split at ax<;>try(cases ax;done)
   rename_i l hl;split at ax<;>try(cases ax;done)
   rename_i iJ;split at ax<;>try(cases ax;done)
   rename_i c hc;simp only[ZlP]at ax;subst ax;obtain⟨y,hy,hp⟩:=hv.one;simp[Op.operands]at hy;unfold VR at hp;subst hp;obtain⟨e,q,dJ⟩:=hr.gl b l hl;refine⟨.int .i64 c,by unfold VR;rfl,?_⟩;have rO:w.cell? ⟨b,off,none⟩=some (.int .i64 c):=(by simp[World.cell?,dJ,hc]);simp[hy,Instr.loadAt,Instr.sureAddr,loadVar,EK iJ w,rO]
  rename_i n off;split at ax<;>try(cases ax;done)
  rotate_left
  ·rename_i l ks et hg
   split at ax<;>try(cases ax;done)
   rename_i bb iJ;split at ax<;>try(cases ax;done)
   rename_i s hs;split at ax<;>try(cases ax;done)
   obtain⟨y,hy,hp⟩:=hv.one;simp[Op.operands]at hy;obtain⟨b,z,hb,rfl⟩:=hp.zx;obtain⟨b',s',dP,hO⟩:=hr.obj _ _ hg;rw[hb]at dP;cases dP;obtain⟨x,hx,aO⟩:=XT (off:=off) iJ hs ax hO (by simp only[SE.ev];exact Zr off);exact⟨x,hx,by simp[hy,Instr.loadAt,Instr.sureAddr,aO]⟩
  rename_i cs k e hg;obtain⟨y,hy,hp⟩:=hv.one;simp[Op.operands]at hy;obtain⟨b,s,hb,rfl⟩:=hp.zx;obtain⟨b',s',dP,hO⟩:=hr.obj _ _ hg;rw[hb]at dP;cases dP;obtain⟨cur,dJ,hs,hk,gu⟩:=hO;split at ax
  ·rename_i iJ
   split at ax<;>try(cases ax;done)
   rename_i sz dn;split at ax<;>try(cases ax;done)
   rename_i l hl;simp only[ZlP]at ax;subst ax;obtain⟨ys,mY,CF,gK,_⟩:=Jd gu hl;refine⟨.agg ys.toArray,by unfold VR;exact⟨_,rfl,by simpa using CF⟩,?_⟩;have iK:w.rangeAt b off ys:=fun j z hz=>by
    have:=gK j z hz;simp[World.cell?,dJ,this]
   obtain⟨d,hu,hd⟩:∃ d,P.underlying t=some d∧d.isRow=true:=by
    unfold vP at iJ;split at iJ
    ·rename_i hu;exact⟨_,hu,rfl⟩
    ·rename_i hu;exact⟨_,hu,rfl⟩
    ·cases iJ
    ·cases iJ
   have:=run_loadAt_mid (P:=P) w b off t ys d iK hu hd (by rw[K8 dn,mY]);simp[hy,this]
  ·rename_i iJ
   obtain⟨h1,z,hz,sH⟩:=gu _ _ ax;refine⟨z,sH,?_⟩;have hc:w.cell? ⟨b,off,none⟩=some z:=(by simp[World.cell?,dJ,hz]);simp[hy,Instr.loadAt,Instr.sureAddr,loadVar,EK iJ w,hc]
  ·cases ax
 |lookup t m ix ok =>
  simp only[yA]at ax;split at ax<;>try(cases ax;done)
  rename_i kt e hu;split at ax<;>try(cases ax;done)
  rename_i x y;obtain⟨y1,y2,hy,jL,dO⟩:=hv.two;simp[Op.operands]at hy;obtain⟨e1,e2⟩:=hy;split at ax<;>try(cases ax;done)
  rename_i es oM;have Ac:∃ xs:Array MapEntry,MR ρ es xs.toList∧((y1 = .map none∧xs=#[])∨∃ b c,y1 = .map (some b)∧w.heap[b]?=some (.map xs c)):=by
   split at oM
   ·simp only[ZlP]at oM;subst oM
    unfold VR at jL;subst jL;exact⟨#[],rfl,.inl ⟨rfl,rfl⟩⟩
   ·rename_i n
    split at oM<;>try(cases oM;done)
    rename_i es' bs' bO hg;simp only[ZlP]at oM;subst oM;unfold VR at jL;obtain⟨b,s,hb,rfl⟩:=jL;obtain⟨b',s',dP,hO⟩:=hr.obj _ _ hg;rw[hb]at dP;cases dP;obtain⟨xs,hx,hm,-⟩:=hO;exact⟨xs,hm,.inr ⟨b,_,rfl,hx⟩⟩
   ·cases oM
  obtain⟨xs,hm,Ac⟩:=Ac;obtain⟨r0,kg⟩:∃ r0,vO P kt es y=some r0:=by
   cases hl:vO P kt es y with
   |none=>rw[hl]at ax;cases ax
   |some r=>exact⟨r,rfl⟩
  obtain⟨uQ,-,gZ⟩:=Ph kg hm dO
  have wJ:∀ {r:Option (Nat×Value)},(∀ w,(Instr.findKey kt y2 xs.toList).run P w = .ok r w) →
   (Instr.lookup t y1 y2 ok).run P w=(match r with|some (_,v)=>(Result.ok (v,true) w)|none=>((zeroValue e).run P w).andThen fun z w'=>.ok (z,false) w').andThen fun p w'=>.ok (if ok then .tuple #[p.1,.bool p.2] else p.1) w':=by
   intro r hf;have qi:=uQ xs.isEmpty w;have lg:=hf w;unfold Instr.lookup;rcases Ac with⟨rfl,rfl⟩|⟨b,c,rfl,hx⟩
   ·simp only[Zxy,run_underlying hu w,Zxs,ZxM,qi,lg]
    cases r with
    |none=>cases hz:(zeroValue e).run P w<;>simp[hz]
    |some p=>simp
   ·simp only[Zxy,run_underlying hu w,Zxs,ZxM,wN hx,qi,lg]
    cases r with
    |none=>cases hz:(zeroValue e).run P w<;>simp[hz]
    |some p=>simp
  split at ax<;>try(cases ax;done)
  ·rename_i j0 v0 hl
   rw[kg]at hl;cases hl;rcases gZ with⟨h1,_⟩|⟨j,v',xe,h1,h2,-,-,h3⟩
   ·cases h1
   ·cases h1
    obtain⟨x',AU⟩:=Zx9 (xe.val);simp only[AU]at h2 h3;have:=wJ h2;split at ax<;>(simp only[ZlP]at ax;subst ax)
    ·refine⟨.tuple #[x',.bool true],by unfold VR;exact⟨_,rfl,aH.cons h3 (aH.cons (by unfold VR;rfl) aH.nil)⟩,?_⟩
     simp[e1,e2,this]
    ·refine⟨x',h3,?_⟩
     simp[e1,e2,this]
  ·rename_i hl
   rw[kg]at hl;cases hl;rcases gZ with⟨_,h2⟩|⟨j,v',x',h1,_⟩
   ·split at ax<;>try(cases ax;done)
    rename_i z hz;obtain⟨_,zv,_,_,j3,sH⟩:=EG hz;have Bb:=Bu ρ j3;have:=wJ h2;simp only[sH w,Zxs]at this;split at ax<;>(simp only[ZlP]at ax;subst ax)
    ·refine⟨.tuple #[zv,.bool false],by unfold VR;exact⟨_,rfl,aH.cons Bb (aH.cons (by unfold VR;rfl) aH.nil)⟩,?_⟩
     simp[e1,e2,this]
    ·refine⟨zv,Bb,?_⟩
     simp[e1,e2,this]
   ·cases h1
 |call c =>
  simp only[yA]at ax;obtain⟨callee,args,argTypes⟩:=c;cases callee with
  |builtin b =>
   have dX:(Op.call ⟨.builtin b,args,argTypes⟩).operands=args:=(by simp[Op.operands,Call.operands]);rw[dX]at hv
   cases b<;>first
    |(cases ax;done)
    |skip
   dsimp only at ax;split at ax<;>try(cases ax;done)
   rename_i x t gK;obtain⟨y,hy,hx⟩:=hv.one;have AZ:(args.map a.eval)[0]?=some y:=by
    rw[← Array.getElem?_toList,Array.toList_map,hy];rfl
   have fin:∀ {n:Int},(Builtin.len_ argTypes o.type (args.map a.eval)).run P w = .ok (.int .i64 n) w→∃ x,VR ρ (.int .i64 n) x ∧
    ((do let d ← resolve a.eval { callee:=.builtin .len,args:=args,argTypes:=argTypes } o.type;invoke d.target d.args:Sem Next)).run P w = .ok (.value x) w:=by
    intro n hn;refine⟨_,by unfold VR;rfl,?_⟩;simp[resolve,invoke,builtin,hn]
   have fin':∀ {e:SE},(Builtin.len_ argTypes o.type (args.map a.eval)).run P w = .ok (.int .i64 (e.ev au.σ)) w→∃ x,VR ρ (.sym .i64 e) x ∧
    ((do let d ← resolve a.eval { callee:=.builtin .len,args:=args,argTypes:=argTypes } o.type;invoke d.target d.args:Sem Next)).run P w = .ok (.value x) w:=by
    intro e hn;refine⟨_,by unfold VR;rfl,?_⟩;simp[resolve,invoke,builtin,hn]
   split at ax<;>try(cases ax;done)
   ·rename_i e hu
    split at ax<;>try(cases ax;done)
    all_goals (simp only[ZlP]at ax;subst ax;unfold VR at hx)
    ·subst hx
     exact fin (by simp[Builtin.len_,gK,AZ,run_underlying hu w,goInt])
    ·obtain⟨_,_,rfl⟩:=hx
     exact fin (by simp[Builtin.len_,gK,AZ,run_underlying hu w,goInt])
    ·obtain⟨_,_,rfl,_⟩:=hx
     exact fin (by simp[Builtin.len_,gK,AZ,run_underlying hu w,goInt])
    ·obtain⟨_,l,_,rfl,_,_,hl⟩:=hx
     refine fin' ?_;rw[hl];simp[Builtin.len_,gK,AZ,run_underlying hu w,goInt]
    ·obtain⟨_,_,_,_,rfl,_⟩:=hx
     exact fin (by simp[Builtin.len_,gK,AZ,run_underlying hu w,goInt])
    ·obtain⟨_,_,l,_,_,rfl,_,_,_,hl⟩:=hx
     refine fin' ?_;rw[hl];simp[Builtin.len_,gK,AZ,run_underlying hu w,goInt]
    ·obtain⟨_,_,_,_,rfl,_⟩:=hx
     exact fin (by simp[Builtin.len_,gK,AZ,run_underlying hu w,goInt])
    ·obtain⟨_,l,_,_,rfl,_,_,hl,_⟩:=hx
     refine fin' ?_;simp only[SE.ev,SE.iR,hl];simp[Builtin.len_,gK,AZ,run_underlying hu w,goInt]
   ·rename_i n e hu
    simp only[ZlP]at ax;subst ax;exact fin (by simp[Builtin.len_,gK,AZ,run_underlying hu w,goInt])
   ·rename_i kt e hu
    split at ax<;>try(cases ax;done)
    ·simp only[ZlP]at ax;subst ax
     unfold VR at hx;subst hx;exact fin (by simp[Builtin.len_,gK,AZ,run_underlying hu w,goInt])
    ·split at ax<;>try(cases ax;done)
     rename_i es bs ck hg;simp only[ZlP]at ax;subst ax;unfold VR at hx;obtain⟨b,s,hb,rfl⟩:=hx;obtain⟨b',s',dP,hO⟩:=hr.obj _ _ hg;rw[hb]at dP;cases dP;obtain⟨xs,hx,hm,-⟩:=hO;have jJ:es.length=xs.size:=(by simpa using hm.len);exact fin (by simp[Builtin.len_,gK,AZ,run_underlying hu w,goInt,wN hx,jJ])
  |_=>cases ax
 |entry it =>
  simp only[yA]at ax;split at ax<;>try(cases ax;done)
  rename_i n;split at ax<;>try(cases ax;done)
  rename_i m since seen last hg;split at ax<;>try(cases ax;done)
  rename_i es bs ck kN;split at ax<;>try(cases ax;done)
  rename_i qi;have qi:=Zxq qi;subst qi;split at ax<;>try(cases ax;done)
  rename_i sb IG;split at ax<;>try(cases ax;done)
  rename_i k v' gK;simp only[ZlP]at ax;subst ax;obtain⟨y,hy,hp⟩:=hv.one;simp[Op.operands]at hy;unfold VR at hp;obtain⟨b,s,hb,rfl⟩:=hp;obtain⟨b',s',dP,hO⟩:=hr.obj _ _ hg;rw[hb]at dP;cases dP;obtain⟨bm,sm,z8,hx⟩:=hO;obtain⟨b',s',dP,VO⟩:=hr.obj _ _ kN;rw[z8]at dP;cases dP;obtain⟨xs,Kl,hm,lY⟩:=VO;obtain⟨e,he,h1,h2⟩:=XC gK hm lY;have M3:(seen.toArray).back?=some sb:=by
   rw[List.back?_toArray];exact X4 IG
  have Nq:xs.find? (·.born==sb)=some e:=by rw[← Array.find?_toList];exact he
  refine⟨.tuple #[e.key,e.val],by unfold VR;exact⟨_,rfl,aH.cons h1 (aH.cons h2 aH.nil)⟩,?_⟩;have:(Instr.entry (.pointer (some ⟨b,0,none⟩))).run P w = .ok (.tuple #[e.key,e.val]) w:=by
   unfold Instr.entry;simp only[Zxy,Zjl hx,Zxs,M3,wN Kl,bne_self_eq_false,Bool.false_eq_true,if_false,Nq,ZxM]
  simp[hy,this]
 |_=>simp[yA]at ax
end
end Ex
end Go.Proofs.YtfcpdlbkmkhhcaaGreatDoor
