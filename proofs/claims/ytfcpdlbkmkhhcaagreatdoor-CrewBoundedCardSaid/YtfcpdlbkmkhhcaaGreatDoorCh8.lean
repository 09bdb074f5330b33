/-
  Texts of this claim, joined. No condition.
-/
import Derived.Test.YtfcpdlbkmkhhcaaGreatDoorCh1
import Derived.Test.YtfcpdlbkmkhhcaaGreatDoorCh7
import Derived.Orders
namespace Go.Proofs.YtfcpdlbkmkhhcaaGreatDoor
set_option maxRecDepth 100000
set_option maxHeartbeats 40000000
namespace Ex
open Go
variable [au]
structure ER (ρ:Ren)(env:T AV)(nt:Nat)(a:Act):Prop where
 dz:a.defers=[]
 size:a.tmps.size=nt
 val:∀ t v,env.get t=some v→∃ x,a.tmps[t]?=some x∧VR ρ v x
def BQ (ops:Array Oper)(i:Nat):Option Tmp:=(ops[i]?).bind (·.dst)
def Val (ops:Array Oper)(env:T AV)(rs:List Rk)(L:Nat→Bool)(t:Nat)(v:AV):Prop :=
 (∃ i r,L i=true∧BQ ops i=some t∧rs[i]?=some r∧v=r.res∧∀ j,L j=true→BQ ops j=some t→j≤i)∨((∀ j,L j=true→BQ ops j≠some t)∧env.get t=some v)
def below (n:Nat):Nat→Bool:=fun j=>decide (j<n)
def OE:Rk→Bool
 | .loud _ _=>true
 |_=>false
def uh (h0:AH):List Rk→AH
 |[]=>h0
 | .loud _ h::l=>uh h l
 |_::l=>uh h0 l
def zJ (b:T Nat)(rs:List Rk)(a:Nat):Prop:=∃ l v h,rs[l]?=some (.loud v h)∧ahead b a l=true
omit [au] in
theorem vK (h0:AH):∀ (p q:List Rk),uh h0 (p++q)=uh (uh h0 p) q
 |[],_=>rfl
 | .loud _ h::p,q=>vK h p q
 | .skip::p,q=>vK h0 p q
 | .val _::p,q=>vK h0 p q
 | .alloc _ _::p,q=>vK h0 p q
omit [au] in
theorem Gc {h0:AH}:∀ {q:List Rk},(∀ r∈q,OE r=false)→uh h0 q=h0
 |[],_=>rfl
 | .loud _ _::_,h=>by have:=h _ ZnJ;cases this
 | .skip::q,h=>by simp only[uh];exact Gc fun r hr=>h r (ZnQ _ hr)
 | .val _::q,h=>by simp only[uh];exact Gc fun r hr=>h r (ZnQ _ hr)
 | .alloc _ _::q,h=>by simp only[uh];exact Gc fun r hr=>h r (ZnQ _ hr)
omit [au] in
theorem K5 {base:Nat}{see:Nat→Bool}:∀ {al:List (Nat×AO)} {h:AH} {m:Nat} {o:AO},(overlay base see al h).get m=some o→(∃ a,see a=true∧(a,o)∈al∧m=base+a)∨h.get m=some o
 |[],h,m,o,hg=>.inr hg
 |(a,o')::al,h,m,o,hg=>by
  unfold overlay at hg;split at hg
  ·rename_i hs
   rcases nX hg with⟨h1,h2⟩|⟨_,h2⟩
   ·cases h2
    exact .inl ⟨a,hs,ZnJ,h1⟩
   ·rcases K5 h2 with⟨a',h3,h4,h5⟩|h3
    ·exact .inl ⟨a',h3,ZnQ _ h4,h5⟩
    ·exact .inr h3
  ·rcases K5 hg with⟨a',h3,h4,h5⟩|h3
   ·exact .inl ⟨a',h3,ZnQ _ h4,h5⟩
   ·exact .inr h3
omit [au] in
theorem KZ {base:Nat}{see:Nat→Bool}:∀ {al:List (Nat×AO)} {h:AH},(overlay base see al h).next=h.next
 |[],_=>rfl
 |(a,o')::al,h=>by
  unfold overlay;split
  ·rw[qZ];exact KZ
  ·exact KZ
structure GL (ops:Array Oper)(b:T Nat)(bF:T AV)(h0:AH)(p:List Rk)(env:T AV)(h:AH)(cons:Nat)(al:List (Nat×AO)):Prop where
 env:∀ t v,env.get t=some v→Val ops bF p (below p.length) t v
 heap:h=uh h0 p
 cons:∀ a,cons.testBit a=true↔zJ b p a
 al:∀ a ao,(a,ao)∈al↔∃ v,p[a]?=some (.alloc ao v)
section
variable (P:Program)(call:FuncId→List AV→AH→Option (AV×AH))(nt:Nat)(ops:Array Oper)(b:T Nat)(base:Nat)(bF:T AV)(h0:AH)
def KF (o:Oper)(i:Nat)(vs:List AV)(h:AH)(cons:Nat)(al:List (Nat×AO))(r:Rk):Prop:=match kd o.op with
 | .pure=>∃ v,mJ P o.op vs=some v∧r = .val v
 | .read=>∃ v,r = .val v
 | .alloc=>∃ ao k,BH P o.op vs=some (ao,k)∧r = .alloc ao (k.at (base+i))
 | .loud=>∃ v h',r = .loud v h'∧Ef P call o.op vs (overlay base (fun a=>ahead b a i && !(cons.testBit a)) al h)=some (v,h')
def Qs (p:List Rk)(o:Oper)(i:Nat)(r:Rk):Prop :=
 ∃ env h cons al,GL ops b bF h0 p env h cons al∧(∀ d,o.dst=some d→d<nt) ∧
  ((Ju ops o env=some false∧r = .skip)∨(Ju ops o env=some true∧∃ vs,evs env o.op.operands.toList=some vs∧KF P call b base o i vs h cons al r))
end
section
variable {P:Program}{call:FuncId→List AV→AH→Option (AV×AH)}{nt:Nat}{ops:Array Oper}{b:T Nat}{base:Nat}{bF:T AV}{h0:AH}
omit [au] in
theorem PH {nt:Nat}{env aG:T AV}{dst:Option Tmp}{v:AV}(h:Fb nt env dst v=some aG):(∀ d,dst=some d→d<nt)∧∀ t u,aG.get t=some u→(dst=some t∧u=v)∨(dst≠some t∧env.get t=some u):=by
 unfold Fb at h;split at h
 ·simp only[ZlP]at h
  subst h;exact⟨fun d hd=>(by cases hd),fun t u hu=>.inr ⟨(by intro h;cases h),hu⟩⟩
 ·rename_i d
  split at h<;>try(cases h;done)
  rename_i aK;simp only[ZlP]at h;subst h;refine⟨fun d' hd=>by cases hd;simpa using aK,fun t u hu => ?_⟩;rcases T.get_put hu with⟨h1,h2⟩|⟨h1,h2⟩
  ·subst h1
   cases h2;exact .inl ⟨rfl,rfl⟩
  ·exact .inr ⟨fun he=>h1 (by cases he;rfl),h2⟩
omit [au] in
theorem Lx {p:List Rk}{r:Rk}{o:Oper}{env aG:T AV}(hi:ops[p.length]?=some o)(he:∀ t v,env.get t=some v→Val ops bF p (below p.length) t v)
 (hp:∀ t u,aG.get t=some u→(o.dst=some t∧u=r.res)∨(o.dst≠some t∧env.get t=some u)):∀ t v,aG.get t=some v→Val ops bF (p++[r]) (below (p++[r]).length) t v:=by
 intro t v hv;have hd:BQ ops p.length=o.dst:=by simp[BQ,hi]
 have hlen:(p++[r]).length=p.length+1:=by simp
 rcases hp t v hv with⟨h1,h2⟩|⟨h1,h2⟩
 ·refine .inl ⟨p.length,r,by simp[below],by rw[hd,h1],by simp,h2,fun j hj _ => ?_⟩
  simp[below]at hj;omega
 ·rcases he t v h2 with⟨i,r',h3,h4,h5,h6,h7⟩|⟨h3,h4⟩
  ·have Cs:i<p.length:=by simpa [below] using h3
   refine .inl ⟨i,r',by simp[below];omega,h4,by rw[Zx0 Cs];exact h5,h6,fun j hj oP => ?_⟩;simp[below]at hj;by_cases Wo:j=p.length
   ·subst Wo
    rw[hd]at oP;exact absurd oP h1
   ·exact h7 j (by simp[below];omega) oP
  ·refine .inr ⟨fun j hj oP => ?_,h4⟩
   simp[below]at hj;by_cases Wo:j=p.length
   ·subst Wo
    rw[hd]at oP;exact h1 oP
   ·exact h3 j (by simp[below];omega) oP
omit [au] in
theorem nu {p:List Rk}{r x:Rk}{i:Nat}:(p++[r])[i]?=some x↔p[i]?=some x∨(i=p.length∧r=x):=by
 by_cases h:i<p.length
 ·rw[Zx0 h]
  exact⟨.inl,fun h'=>h'.elim id fun h'=>by omega⟩
 ·rw[ZxY (by omega),List.getElem?_eq_none (l:=p) (by omega)]
  by_cases h2:i=p.length
  ·subst h2;simp
  ·have:i - p.length=(i - p.length - 1)+1:=by omega
   rw[this];simp[h2]
theorem Ym {Ku:List Rk}{zT:T AV}{hF:AH}{vX:Nat}{Q7:List (Nat×AO)}:∀ (l:List Oper) (env:T AV) (h:AH) (cons:Nat) (al:List (Nat×AO)) (rs:List Rk),
 GV P call nt ops b base rs.length l env h cons al rs=some (Ku,zT,hF,vX,Q7)→(∀ k,l[k]?=ops[rs.length+k]?)→GL ops b bF h0 rs.reverse env h cons al →
 ∃ tail,Ku=rs.reverse++tail∧tail.length=l.length∧GL ops b bF h0 Ku zT hF vX Q7 ∧
  ∀ (k:Nat) r o,tail[k]?=some r→l[k]?=some o→Qs P call nt ops b base bF h0 (rs.reverse++tail.take k) o (rs.length+k) r
 |[],env,h,cons,al,rs,hd,_,hI=>by
  simp only[GV,ZlP,ZxA]at hd;obtain⟨rfl,rfl,rfl,rfl,rfl⟩:=hd;exact⟨[],by simp,rfl,hI,by simp⟩
 |o::l,env,h,cons,al,rs,hd,hl,hI=>by
  have ho:ops[rs.reverse.length]?=some o:=by simpa using(hl 0).symm
  have rT:∀ r,∀ k,l[k]?=ops[(r::rs:List Rk).length+k]?:=fun r k=>by
   have:=hl (k+1);rw[List.getElem?_cons_succ]at this;rw[this]
   congr 1
   simp only[ZxJ];omega
  have step:∀ (r:Rk) (aG:T AV) (h':AH) (cons':Nat) (al':List (Nat×AO)),GL ops b bF h0 (rs.reverse++[r]) aG h' cons' al'→Qs P call nt ops b base bF h0 rs.reverse o rs.length r →
   GV P call nt ops b base (Nat.add rs.length 1) l aG h' cons' al' (r::rs)=some (Ku,zT,hF,vX,Q7) →
   ∃ tail,Ku=rs.reverse++tail∧tail.length=(o::l).length∧GL ops b bF h0 Ku zT hF vX Q7 ∧
    ∀ (k:Nat) r o',tail[k]?=some r→(o::l)[k]?=some o'→Qs P call nt ops b base bF h0 (rs.reverse++tail.take k) o' (rs.length+k) r:=by
   intro r aG h' cons' al' hI' hF' hd';obtain⟨tail,h1,h2,h3,h4⟩:=Ym l aG h' cons' al' (r::rs) hd' (rT r) (by simpa using hI');refine⟨r::tail,by rw[h1];simp,by simp[h2],h3,fun k r' o' hk gU => ?_⟩;cases k with
   |zero =>
    simp at hk gU;subst hk;subst gU;simpa using hF'
   |succ k =>
    have:=h4 k r' o' (by simpa using hk) (by simpa using gU);simp only[List.reverse_cons,ZxG,List.singleton_append,ZxJ]at this;rw[show rs.length+(k+1)=rs.length+1+k from by omega];simpa using this
  unfold GV at hd;split at hd<;>try(cases hd;done)
  ·rename_i jw
   split at hd<;>try(cases hd;done)
   rename_i aG Ay;obtain⟨JZ,FE⟩:=PH Ay;refine step .skip aG h cons al ⟨Lx ho hI.env FE,?_,?_,?_⟩ ⟨env,h,cons,al,hI,JZ,.inl ⟨jw,rfl⟩⟩ hd
   ·rw[vK,hI.heap];rfl
   ·intro a
    rw[hI.cons];constructor
    ·rintro⟨q,v,hh,h1,h2⟩
     exact⟨q,v,hh,nu.2 (.inl h1),h2⟩
    ·rintro⟨q,v,hh,h1,h2⟩
     rcases nu.1 h1 with h1|⟨_,h1⟩
     ·exact⟨q,v,hh,h1,h2⟩
     ·cases h1
   ·intro a ao
    rw[hI.al];constructor
    ·rintro⟨v,h1⟩
     exact⟨v,nu.2 (.inl h1)⟩
    ·rintro⟨v,h1⟩
     rcases nu.1 h1 with h1|⟨_,h1⟩
     ·exact⟨v,h1⟩
     ·cases h1
  ·rename_i jw
   split at hd<;>try(cases hd;done)
   rename_i vs mX;split at hd<;>try(cases hd;done)
   rename_i r h' cons' al' hk;split at hd<;>try(cases hd;done)
   rename_i aG Ay;obtain⟨JZ,FE⟩:=PH Ay;have inv:∀ (r':Rk),(∀ t u,aG.get t=some u→(o.dst=some t∧u=r'.res)∨(o.dst≠some t∧env.get t=some u))→OE r'=false→(∀ ao v,r'≠.alloc ao v)→GL ops b bF h0 (rs.reverse++[r']) aG h cons al:=by
    intro r' WG Cy Ao;refine⟨Lx ho hI.env WG,?_,?_,?_⟩
    ·rw[vK,← hI.heap,Gc (by simpa using Cy)]
    ·intro a
     rw[hI.cons];constructor
     ·rintro⟨q,v,hh,h1,h2⟩
      exact⟨q,v,hh,nu.2 (.inl h1),h2⟩
     ·rintro⟨q,v,hh,h1,h2⟩
      rcases nu.1 h1 with h1|⟨_,h1⟩
      ·exact⟨q,v,hh,h1,h2⟩
      ·subst h1;cases Cy
    ·intro a ao
     rw[hI.al];constructor
     ·rintro⟨v,h1⟩
      exact⟨v,nu.2 (.inl h1)⟩
     ·rintro⟨v,h1⟩
      rcases nu.1 h1 with h1|⟨_,h1⟩
      ·exact⟨v,h1⟩
      ·exact absurd h1 (Ao _ _)
   cases oq:kd o.op with
   |pure =>
    rw[oq]at hk;dsimp only at hk;split at hk<;>try(cases hk;done)
    rename_i v hv;simp only[ZlP,ZxA]at hk;obtain⟨rfl,rfl,rfl,rfl⟩:=hk;exact step _ aG h cons al (inv _ FE rfl (by intro _ _ h;cases h)) ⟨env,h,cons,al,hI,JZ,.inr ⟨jw,vs,mX,by unfold KF;rw[oq];exact⟨v,hv,rfl⟩⟩⟩ hd
   |read =>
    rw[oq]at hk;dsimp only at hk;split at hk<;>try(cases hk;done)
    rename_i v hv;simp only[ZlP,ZxA]at hk;obtain⟨rfl,rfl,rfl,rfl⟩:=hk;exact step _ aG h cons al (inv _ FE rfl (by intro _ _ h;cases h)) ⟨env,h,cons,al,hI,JZ,.inr ⟨jw,vs,mX,by unfold KF;rw[oq];exact⟨v,rfl⟩⟩⟩ hd
   |alloc =>
    rw[oq]at hk;dsimp only at hk;split at hk<;>try(cases hk;done)
    rename_i ao k hv;simp only[ZlP,ZxA]at hk;obtain⟨rfl,rfl,rfl,rfl⟩:=hk;refine step _ aG h cons _ ⟨Lx ho hI.env FE,?_,?_,?_⟩ ⟨env,h,cons,al,hI,JZ,.inr ⟨jw,vs,mX,by unfold KF;rw[oq];exact⟨ao,k,hv,rfl⟩⟩⟩ hd
    ·rw[vK,← hI.heap];rfl
    ·intro a
     rw[hI.cons];constructor
     ·rintro⟨q,v,hh,h1,h2⟩
      exact⟨q,v,hh,nu.2 (.inl h1),h2⟩
     ·rintro⟨q,v,hh,h1,h2⟩
      rcases nu.1 h1 with h1|⟨_,h1⟩
      ·exact⟨q,v,hh,h1,h2⟩
      ·cases h1
    ·intro a MO
     rw[ZxF,hI.al];constructor
     ·rintro(h1|⟨v,h1⟩)
      ·cases h1
       exact⟨_,nu.2 (.inr ⟨by simp,rfl⟩)⟩
      ·exact⟨v,nu.2 (.inl h1)⟩
     ·rintro⟨v,h1⟩
      rcases nu.1 h1 with h1|⟨h0,h1⟩
      ·exact .inr ⟨v,h1⟩
      ·cases h1
       left;rw[h0];simp
   |loud =>
    rw[oq]at hk;dsimp only at hk;split at hk<;>try(cases hk;done)
    rename_i v h1 hv;simp only[ZlP,ZxA]at hk;obtain⟨rfl,rfl,rfl,rfl⟩:=hk;refine step _ aG _ _ al ⟨Lx ho hI.env FE,?_,?_,?_⟩ ⟨env,h,cons,al,hI,JZ,.inr ⟨jw,vs,mX,by unfold KF;rw[oq];exact⟨v,_,rfl,hv⟩⟩⟩ hd
    ·rw[vK];rfl
    ·intro a
     rw[Nat.testBit_or,Bool.or_eq_true,hI.cons];constructor
     ·rintro(⟨q,v,hh,h1,h2⟩|h1)
      ·exact⟨q,v,hh,nu.2 (.inl h1),h2⟩
      ·exact⟨rs.length,_,_,nu.2 (.inr ⟨by simp,rfl⟩),h1⟩
     ·rintro⟨q,v,hh,h1,h2⟩
      rcases nu.1 h1 with h1|⟨h3,h1⟩
      ·exact .inl ⟨q,v,hh,h1,h2⟩
      ·right
       rw[h3,List.length_reverse]at h2;exact h2
    ·intro a ao
     rw[hI.al];constructor
     ·rintro⟨v,h1⟩
      exact⟨v,nu.2 (.inl h1)⟩
     ·rintro⟨v,h1⟩
      rcases nu.1 h1 with h1|⟨_,h1⟩
      ·exact⟨v,h1⟩
      ·cases h1
end
end Ex
namespace Ex
open Go
mutual
theorem AV.gm:∀ {a b:AV},AV.beq a b=true→a=b
 | .bool a,b,h=>by cases b<;>simp[AV.beq]at h;rw[h]
 | .int k a,b,h=>by cases b<;>simp[AV.beq]at h;rw[h.1,h.2]
 | .sym k e,b,h=>by cases b<;>simp[AV.beq]at h;rw[h.1,SE.gm h.2]
 | .jD c p,b,h=>by cases b<;>simp[AV.beq]at h;rw[dB.gm h.1,h.2]
 | .iE n e s j,b,h=>by cases b<;>simp[AV.beq]at h;rw[h.1.1,SE.gm h.1.2,h.2.1,h.2.2]
 | .lC n e s,b,h=>by cases b<;>simp[AV.beq]at h;rw[h.1,SE.gm h.2.1,h.2.2]
 | .qB n e l s,b,h=>by cases b<;>simp[AV.beq]at h;rw[h.1.1,SE.gm h.1.2,h.2.1,h.2.2]
 | .vz i,b,h=>by cases b<;>simp[AV.beq]at h;rw[h]
 | .kH i e,b,h=>by cases b<;>simp[AV.beq]at h;rw[h.1,SE.gm h.2]
 | .str _,b,h=>by cases b<;>simp[AV.beq]at h
 | .iL,b,h=>by cases b<;>simp[AV.beq]at h;rfl
 | .ptr n o,b,h=>by
   cases b<;>simp[AV.beq]at h;rw[h.1,h.2]
 | .je n o,b,h=>by
   cases b<;>simp[AV.beq]at h;rw[h.1,h.2]
 | .bR,b,h=>by cases b<;>simp[AV.beq]at h;rfl
 | .sl n o l s r,b,h=>by
   cases b<;>simp[AV.beq]at h;obtain⟨h1,h2,h3,h4,h5⟩:=h;rename_i n' o' l' s' r';have:r=r':=by
    cases r<;>cases r'<;>first|rfl|(cases h5;done)|skip
    simp at h5;rw[h5]
   rw[h1,h2,h3,h4,this]
 | .mo n,b,h=>by cases b<;>simp[AV.beq]at h;rw[h]
 | .tY,b,h=>by cases b<;>simp[AV.beq]at h;rfl
 | .tT e,b,h=>by cases b<;>simp[AV.beq]at h;rw[SE.gm h]
 | .bX,b,h=>by cases b<;>simp[AV.beq]at h;rfl
 | .map n,b,h=>by cases b<;>simp[AV.beq]at h;rw[h]
 | .fn f x y,b,h=>by
   cases b with
   |fn f' x' y' =>
    cases f<;>cases f'<;>simp[AV.beq]at h;obtain⟨h1,h2,h3⟩:=h;rw[h1,AV.BB h2,AV.BB h3]
   |_=>cases f<;>simp[AV.beq]at h
 | .fo,b,h=>by cases b<;>simp[AV.beq]at h;rfl
 | .fG,b,h=>by cases b<;>simp[AV.beq]at h;rfl
 | .xP _ _,b,h=>by cases b<;>simp[AV.beq]at h
 | .agg l,b,h=>by
   cases b<;>simp[AV.beq]at h;rw[AV.BB h]
 | .gV l,b,h=>by
   cases b<;>simp[AV.beq]at h;rw[AV.BB h]
theorem AV.BB:∀ {a b:List AV},AV.qH a b=true→a=b
 |[],b,h=>by cases b<;>simp[AV.qH]at h;rfl
 |x::a,b,h=>by
  cases b with
  |nil=>simp[AV.qH]at h
  |cons y b =>
   simp[AV.qH]at h;rw[AV.gm h.1,AV.BB h.2]
end
variable [au]
section
variable {P:Program}{call:FuncId→List AV→AH→Option (AV×AH)}{nt:Nat}{ops:Array Oper}{b:T Nat}{base:Nat}{bF:T AV}{h0:AH}
omit [au] in
theorem Jl {α:Type}{l:List α}{n i:Nat}{x:α}:(l.take n)[i]?=some x↔i<n∧l[i]?=some x:=by
 rw[List.getElem?_take];by_cases h:i<n<;>simp[h]
omit [au] in
theorem Val.ext {p q:List Rk}{n t:Nat}{v:AV}(h:Val ops bF p (below n) t v)(he:∀ i,i<n→p[i]?=q[i]?):Val ops bF q (below n) t v:=by
 rcases h with⟨i,r,h1,h2,h3,h4,h5⟩|h
 ·refine .inl ⟨i,r,h1,h2,?_,h4,h5⟩
  rw[← he i (by simpa [below] using h1)];exact h3
 ·exact .inr h
omit [au] in
theorem Zl {i j:Nat}:∀ {rs:List Rk} {l:Nat},(∀ (k:Nat) v h,rs[k]?=some (.loud v h)→(l+k<j→ahead b i (l+k)=false)∧(j≤l+k→ahead b (l+k) i=false))→BS b i j l rs=true
 |[],_,_=>rfl
 |r::rs,l,h=>by
  have ih:BS b i j (Nat.add l 1) rs=true:=Zl fun k v h' hk=>by
   have:=h (k+1) v h' (by simpa using hk);have e:Nat.add l 1+k=l+(k+1):=(by show l+1+k=_;omega);rw[e];exact this
  cases r with
  |loud v h' =>
   have:=h 0 v h' rfl;rw[Nat.add_zero]at this;unfold BS;split
   ·rename_i aK
    rw[this.1 (by simpa using aK)];exact ih
   ·rename_i aK
    rw[this.2 (by have:=Ux aK;omega)];exact ih
  |skip=>exact ih
  |val _=>exact ih
  |alloc _ _=>exact ih
def Ut (P:Program)(b:T Nat)(base:Nat)(h0:AH)(all:List Rk)(al:List (Nat×AO))(op:Op)(vs:List AV)(v:AV)(i j:Nat):Prop :=
 BS b i j 0 all=true→∃ c:Nat,(∀ a,c.testBit a=true↔zJ b (all.take j) a)∧yA P op vs (overlay base (fun a=>ahead b a i && !(c.testBit a)) al (uh h0 (all.take j)))=some v
theorem Td {all:List Rk}{al:List (Nat×AO)}{op:Op}{vs:List AV}{v:AV}{i:Nat}:∀ (rs pre:List Rk) (cons:Nat),all=pre++rs→(∀ a,cons.testBit a=true↔zJ b pre a) →
 Jh P b base all al op vs v i pre.length (uh h0 pre) cons rs=true→∀ (q:Nat) u h,pre.length≤q→all[q]?=some (.loud u h)→Ut P b base h0 all al op vs v i (q+1)
 |[],pre,cons,he,hc,hn,q,u,h,hq,ha=>by
  rw[he,ZxP,List.getElem?_eq_none hq]at ha;cases ha
 |r::rs,pre,cons,he,hc,hn,q,u,h,hq,ha=>by
  have V6:all=(pre++[r])++rs:=by rw[he];simp
  have hlen:(pre++[r]).length=pre.length+1:=by simp
  have FJ:all.take (pre.length+1)=pre++[r]:=by rw[V6,List.take_left' hlen]
  have other:OE r=false→Jh P b base all al op vs v i (pre.length+1) (uh h0 pre) cons rs=true→Ut P b base h0 all al op vs v i (q+1):=by
   intro Cy qP;have rO:∀ a,cons.testBit a=true↔zJ b (pre++[r]) a:=by
    intro a;rw[hc];constructor
    ·rintro⟨l,v,h,h1,h2⟩
     exact⟨l,v,h,nu.2 (.inl h1),h2⟩
    ·rintro⟨l,v,h,h1,h2⟩
     rcases nu.1 h1 with h1|⟨_,h1⟩
     ·exact⟨l,v,h,h1,h2⟩
     ·subst h1;cases Cy
   refine Td rs (pre++[r]) cons V6 rO ?_ q u h ?_ ha
   ·rw[hlen,vK,Gc (q:=[r]) (by simpa using Cy)]
    exact qP
   ·rw[hlen]
    rcases Nat.lt_or_ge pre.length q with h1|h1
    ·omega
    ·have:q=pre.length:=by omega
     rw[this,he,ZxY (Zxt _)]at ha;simp at ha;subst ha;cases Cy
  cases r with
  |loud u' h' =>
   unfold Jh at hn;dsimp only at hn;split at hn<;>try(cases hn;done)
   rename_i dR;have rO:∀ a,(cons ||| Gx b pre.length).testBit a=true↔zJ b (pre++[.loud u' h']) a:=by
    intro a;rw[Nat.testBit_or,Bool.or_eq_true,hc];constructor
    ·rintro(⟨l,v,h,h1,h2⟩|h1)
     ·exact⟨l,v,h,nu.2 (.inl h1),h2⟩
     ·exact⟨pre.length,_,_,nu.2 (.inr ⟨rfl,rfl⟩),h1⟩
    ·rintro⟨l,v,h,h1,h2⟩
     rcases nu.1 h1 with h1|⟨h3,h1⟩
     ·exact .inl ⟨l,v,h,h1,h2⟩
     ·right
      rw[h3]at h2;exact h2
   rcases Nat.lt_or_ge pre.length q with h1|h1
   ·refine Td rs (pre++[.loud u' h']) _ V6 rO ?_ q u h (by rw[hlen];omega) ha
    rw[hlen,vK];exact hn
   ·have WI:q=pre.length:=by omega
    subst WI;intro oU;refine⟨cons ||| Gx b pre.length,?_,?_⟩
    ·rw[FJ];exact rO
    ·rw[FJ,vK]
     have NR:BS b i (Nat.add pre.length 1) 0 all=true:=oU;unfold QR at dR;rw[NR]at dR;dsimp only at dR;split at dR<;>try(cases dR;done)
     rename_i u2 Ou;have:=AV.gm dR;subst this;exact Ou
  |skip=>exact other rfl hn
  |val _=>exact other rfl hn
  |alloc _ _=>exact other rfl hn
theorem ZjT {all:List Rk}{al:List (Nat×AO)}{op:Op}{vs:List AV}{v:AV}{i:Nat}(h:sameAll P b base all al op vs v i h0=true)(j:Nat)(hj:j=0∨∃ q u g,j=q+1∧all[q]?=some (.loud u g)) :
 Ut P b base h0 all al op vs v i j:=by
 unfold sameAll at h;split at h<;>try(cases h;done)
 rename_i dR;have h0c:∀ a,(0:Nat).testBit a=true↔zJ b [] a:=by
  intro a;simp[zJ]
 rcases hj with rfl|⟨q,u,g,rfl,hq⟩
 ·intro oU
  refine⟨0,by simpa using h0c,?_⟩;unfold QR at dR;rw[oU]at dR;dsimp only at dR;split at dR<;>try(cases dR;done)
  rename_i u2 Ou;have:=AV.gm dR;subst this;exact Ou
 ·exact Td all [] 0 (by simp) h0c h q u g (ZxV _) hq
theorem XW {all:List Rk}{al:List (Nat×AO)}:∀ (l:List Oper) (p tail:List Rk) (env:T AV),reads P nt ops b base h0 all al p.length l tail env=true→(∀ k,l[k]?=ops[p.length+k]?) →
 (∀ t v,env.get t=some v→Val ops bF p (below p.length) t v)→∀ (k:Nat) v o,tail[k]?=some (.val v)→l[k]?=some o→kd o.op = .read →
 ∃ env vs,(∀ t v,env.get t=some v→Val ops bF (p++tail.take k) (below (p.length+k)) t v)∧evs env o.op.operands.toList=some vs∧sameAll P b base all al o.op vs v (p.length+k) h0=true
 |[],p,tail,env,h,hl,he,k,v,o,hk,ho,oq=>by simp at ho
 |o::l,p,[],env,h,hl,he,k,v,o',hk,ho,oq=>by simp at hk
 |o::l,p,r::rs,env,h,hl,he,k,v,o',hk,ho,oq=>by
  unfold reads at h;split at h<;>try(cases h;done)
  rename_i dR;split at h<;>try(cases h;done)
  rename_i aG Ay;have dX:ops[p.length]?=some o:=by simpa using(hl 0).symm
  cases k with
  |zero =>
   simp at hk ho;subst hk;subst ho;rw[oq]at dR;dsimp only at dR;split at dR<;>try(cases dR;done)
   rename_i vs mX;exact⟨env,vs,by simpa using he,mX,dR⟩
  |succ k =>
   obtain⟨_,FE⟩:=PH Ay;have hlen:(p++[r]).length=p.length+1:=(by simp);obtain⟨e1,vs,h1,h2,h3⟩:=XW l (p++[r]) rs aG (by rw[hlen];exact h) (fun k=>by
    have:=hl (k+1);rw[List.getElem?_cons_succ]at this;rw[this,hlen]
    congr 1
    omega) (Lx dX he FE) k v o' (by simpa using hk) (by simpa using ho) oq
   refine⟨e1,vs,fun t u hu => ?_,h2,?_⟩
   ·have:=h1 t u hu
    rw[hlen]at this;rw[show p.length+(k+1)=p.length+1+k from by omega];simpa using this
   ·rw[hlen]at h3
    rw[show p.length+(k+1)=p.length+1+k from by omega];exact h3
def Closed (ops:Array Oper)(L:Nat→Bool):Prop:=∀ i o,ops[i]?=some o→L i=true→∀ e∈o.after.toList,Region.binds .any e=true→L e.on=true
omit [au] in
theorem Tg {t:T Nat}{j:Nat}:∀ {l:List Edge},(JL t l).testBit j=true→∃ e∈l,Region.binds .any e=true∧(j=e.on∨∃ y,t.get e.on=some y∧y.testBit j=true)
 |[],h=>by simp[JL]at h
 |e::l,h=>by
  unfold JL at h;split at h
  ·rename_i hb
   rw[Nat.testBit_or,Nat.testBit_or,Bool.or_eq_true,Bool.or_eq_true]at h;rcases h with(h|h)|h
   ·refine⟨e,ZnJ,hb,.inl ?_⟩
    rw[Nat.testBit_two_pow]at h;simpa using(Zx6 h).symm
   ·refine⟨e,ZnJ,hb,.inr ?_⟩
    split at h
    ·rename_i y hy
     exact⟨y,hy,h⟩
    ·simp at h
   ·obtain⟨e',h1,h2⟩:=Tg h
    exact⟨e',ZnQ _ h1,h2⟩
  ·obtain⟨e',h1,h2⟩:=Tg h
   exact⟨e',ZnQ _ h1,h2⟩
def UU (ops:Array Oper)(t:T Nat):Prop:=∀ (i x:Nat),t.get i=some x→∀ j,x.testBit j=true→∀ L,Closed ops L→L i=true→L j=true
omit [au] in
theorem ZpF:∀ (l:List Oper) (i:Nat) (t:T Nat),(∀ k,l[k]?=ops[i+k]?)→UU ops t→UU ops (Q8 i l t)
 |[],i,t,_,h=>h
 |o::l,i,t,hl,h=>by
  unfold Q8;refine ZpF l (i+1) _ (fun k => ?_) ?_
  ·have:=hl (k+1)
   rw[List.getElem?_cons_succ]at this;rw[this]
   congr 1
   omega
  ·intro q x hq j hj L hL hi
   rcases T.get_put hq with⟨h1,h2⟩|⟨_,h2⟩
   ·cases h2
    subst h1;obtain⟨e,he,hb,h3⟩:=Tg hj;have hLe:L e.on=true:=hL _ o (by simpa using(hl 0).symm) hi e he hb;rcases h3 with rfl|⟨y,hy,hyj⟩
    ·exact hLe
    ·exact h _ _ hy _ hyj L hL hLe
   ·exact h _ _ h2 _ hj L hL hi
omit [au] in
theorem Pt {i j:Nat}(h:ahead (bf ops) j i=true){L:Nat→Bool}(hL:Closed ops L)(hi:L i=true):L j=true:=by
 have hd:UU ops (bf ops):=ZpF ops.toList 0 .e (by simp) (fun i x h=>by rw[T.sQ]at h;cases h);unfold ahead Gx at h;split at h
 ·rename_i x hx
  exact hd _ _ hx _ h L hL hi
 ·simp at h
omit [au] in
theorem YQ {t:Nat}:∀ {l:List Nat},t∈l→QQ t l=true
 |[],h=>by cases h
 |x::l,h=>by
  unfold QQ;split
  ·rfl
  ·rename_i hx
   rcases List.mem_cons.1 h with h1|h1
   ·subst h1
    simp at hx
   ·exact YQ h1
omit [au] in
theorem YF {o:Oper}{i:Nat}:∀ {l:List Oper} {j:Nat},Dy ops b o i j l=true→∀ (k:Nat) q,l[k]?=some q→i≠j+k→((∃ d,q.dst=some d∧d∈looks ops o)∨(BK o=true∧BK q=true)) →
 (j+k<i→ahead b (j+k) i=true)∧(i<j+k→ahead b i (j+k)=true)
 |[],j,h,k,q,hk,_,_=>by simp at hk
 |p::l,j,h,k,q,hk,hne,hc=>by
  have tail:Dy ops b o i (Nat.add j 1) l=true:=by
   unfold Dy at h;split at h
   ·exact h
   ·split at h
    ·exact h
    ·split at h
     ·exact h
     ·cases h
  cases k with
  |succ k =>
   have:=YF tail k q (by simpa using hk) (by show i≠j+1+k;omega) hc;have e:Nat.add j 1+k=j+(k+1):=(by show j+1+k=_;omega);rw[e]at this;exact this
  |zero =>
   simp at hk;subst hk;rw[Nat.add_zero]at hne ⊢;unfold Dy at h;split at h
   ·rename_i hb
    exact absurd (Zxq hb) hne
   ·have Nc:touch ops o p=true:=by
     unfold touch;rcases hc with⟨d,h1,h2⟩|⟨h1,h2⟩
     ·rw[h1]
      simp[YQ h2]
     ·simp[h1,h2]
    rw[Nc]at h;dsimp only at h;split at h<;>try(cases h;done)
    rename_i Iu;split at Iu
    ·rename_i aK
     have:j<i:=(by simpa using aK);exact⟨fun _=>Iu,fun h=>by omega⟩
    ·rename_i aK
     have:=Ux aK;exact⟨fun h=>by omega,fun _=>Iu⟩
omit [au] in
theorem YE:∀ {l:List Oper} {i:Nat},QP ops b i l=true→∀ (k:Nat) o,l[k]?=some o→Dy ops b o (i+k) 0 ops.toList=true
 |[],i,h,k,o,hk=>by simp at hk
 |p::l,i,h,k,o,hk=>by
  unfold QP at h;split at h<;>try(cases h;done)
  rename_i h2;cases k with
  |zero =>
   simp at hk;subst hk;exact h2
  |succ k =>
   have:=YE h k o (by simpa using hk);have e:Nat.add i 1+k=i+(k+1):=(by show i+1+k=_;omega);rw[e]at this;exact this
omit [au] in
theorem XI:∀ {l:List Oper} {i:Nat},PX i l=true→∀ (k:Nat) o,l[k]?=some o→∀ e∈o.after.toList,Region.binds .any e=true→e.on<i+k
 |[],i,h,k,o,hk=>by simp at hk
 |p::l,i,h,k,o,hk=>by
  unfold PX at h;split at h<;>try(cases h;done)
  rename_i h2;cases k with
  |zero =>
   simp at hk;subst hk;intro e he hb;have:=List.all_eq_true.1 h2 e he;simpa [hb] using this
  |succ k =>
   have:=XI h k o (by simpa using hk);intro e he hb;have h3:=this e he hb;have e':Nat.add i 1+k=i+(k+1):=(by show i+1+k=_;omega);omega
omit [au] in
theorem TY (h:kL ops=true){i j:Nat}{o q:Oper}(hi:ops[i]?=some o)(hj:ops[j]?=some q)(hne:i≠j)(hc:(∃ d,q.dst=some d∧d∈looks ops o)∨(BK o=true∧BK q=true)) :
 (j<i→ahead (bf ops) j i=true)∧(i<j→ahead (bf ops) i j=true):=by
 unfold kL at h;rw[Zxu]at h;have h1:=YE h.1 i o (by simpa using hi);rw[Nat.zero_add]at h1;have:=YF h1 j q (by simpa using hj) (by omega) hc;rw[Nat.zero_add]at this;exact this
omit [au] in
theorem Zr0 (h:kL ops=true){i:Nat}{o:Oper}(hi:ops[i]?=some o):∀ e∈o.after.toList,Region.binds .any e=true→e.on<i:=by
 unfold kL at h;rw[Zxu]at h;intro e he hb;have:=XI h.2 i o (by simpa using hi) e he hb;omega
end
end Ex
namespace Ex
open Go
noncomputable section
variable [au]
def Dr (b:T Nat)(a:Nat):Nat→List Rk→Bool
 |_,[]=>false
 |l,.loud _ _::rs=>ahead b a l||Dr b a (l+1) rs
 |l,_::rs=>Dr b a (l+1) rs
omit [au] in
theorem YG {b:T Nat}{a:Nat}:∀ {rs:List Rk} {k:Nat},Dr b a k rs=true↔∃ l u g,rs[l]?=some (.loud u g)∧ahead b a (k+l)=true
 |[],k=>by simp[Dr]
 |r::rs,k=>by
  have ih:=YG (b:=b) (a:=a) (rs:=rs) (k:=k+1);have sh:(∃ l u g,rs[l]?=some (.loud u g)∧ahead b a (k+1+l)=true)↔∃ l u g,0<l∧(r::rs)[l]?=some (.loud u g)∧ahead b a (k+l)=true:=by
   constructor
   ·rintro⟨l,u,g,h1,h2⟩
    exact⟨l+1,u,g,by omega,by simpa using h1,by rw[show k+(l+1)=k+1+l from by omega];exact h2⟩
   ·rintro⟨l,u,g,h0,h1,h2⟩
    obtain⟨l,rfl⟩:∃ q,l=q+1:=⟨l - 1,by omega⟩;exact⟨l,u,g,by simpa using h1,by rw[show k+1+l=k+(l+1) from by omega];exact h2⟩
  have other:OE r=false→((Dr b a (k+1) rs=true)↔∃ l u g,(r::rs)[l]?=some (.loud u g)∧ahead b a (k+l)=true):=by
   intro hn;rw[ih,sh];constructor
   ·rintro⟨l,u,g,_,h⟩
    exact⟨l,u,g,h⟩
   ·rintro⟨l,u,g,h1,h2⟩
    refine⟨l,u,g,?_,h1,h2⟩;rcases Nat.eq_zero_or_pos l with rfl|h0
    ·simp at h1
     subst h1;cases hn
    ·exact h0
  cases r with
  |loud u h =>
   simp only[Dr,Bool.or_eq_true];rw[ih,sh];constructor
   ·rintro(h1|⟨l,u,g,_,h⟩)
    ·exact⟨0,_,_,rfl,h1⟩
    ·exact⟨l,u,g,h⟩
   ·rintro⟨l,u',g,h1,h2⟩
    rcases Nat.eq_zero_or_pos l with rfl|h0
    ·exact .inl h2
    ·exact .inr ⟨l,u',g,h0,h1,h2⟩
  |skip=>exact other rfl
  |val _=>exact other rfl
  |alloc _ _=>exact other rfl
omit [au] in
theorem ZK {b:T Nat}{a:Nat}{rs:List Rk}:Dr b a 0 rs=true↔zJ b rs a:=by
 rw[YG];simp only[Nat.zero_add,zJ]
def gF (base:Nat)(rs:List Rk)(L C:Nat→Bool)(H:AH)(m:Nat):Option AO :=
 match (if base≤m then rs[m - base]? else none) with
 |some (.alloc ao _)=>if L (m - base) && !C (m - base) then some ao else H.get m
 |_=>H.get m
section
variable {base:Nat}{rs:List Rk}{L L' C C':Nat→Bool}{H:AH}
omit [au] in
theorem PD {a:Nat}{ao:AO}{v:AV}(h:rs[a]?=some (.alloc ao v))(hL:L a=true)(hC:C a=false):gF base rs L C H (base+a)=some ao:=by
 unfold gF;rw[if_pos (by omega),show base+a - base=a from by omega,h];simp[hL,hC]
omit [au] in
theorem Tw {m:Nat}{o:AO}(h:gF base rs L C H m=some o):(∃ a v,m=base+a∧rs[a]?=some (.alloc o v)∧L a=true∧C a=false) ∨
 (H.get m=some o∧∀ a ao v,m=base+a→rs[a]?=some (.alloc ao v)→L a=true→C a=true):=by
 unfold gF at h;by_cases hb:base≤m
 ·rw[if_pos hb]at h
  have hm:m=base+(m - base):=by omega
  have key:∀ a,m=base+a→a=m - base:=fun a ha=>by omega
  split at h
  ·rename_i ao v hr
   split at h
   ·rename_i hc
    rw[Zxu]at hc;cases h;exact .inl ⟨m - base,v,hm,hr,hc.1,by simpa using hc.2⟩
   ·rename_i hc
    refine .inr ⟨h,fun a MO v' ha hra hL => ?_⟩;have:=key a ha;subst this;simp[hL]at hc;exact hc
  ·rename_i fJ
   refine .inr ⟨h,fun a MO v' ha hra hL => ?_⟩;have:=key a ha;subst this;exact absurd hra (fJ _ _)
 ·rw[if_neg hb]at h
  exact .inr ⟨h,fun a MO v' ha=>by omega⟩
omit [au] in
theorem Ub {m:Nat}{o:AO}(h:H.get m=some o)(fJ:∀ a ao v,m=base+a→rs[a]?=some (.alloc ao v)→L a=true→C a=true):gF base rs L C H m=some o:=by
 unfold gF;by_cases hb:base≤m
 ·rw[if_pos hb]
  split
  ·rename_i ao v hr
   split
   ·rename_i hc
    rw[Zxu]at hc;have:=fJ (m - base) ao v (by omega) hr hc.1;rw[this]at hc;simp at hc
   ·exact h
  ·exact h
 ·rw[if_neg hb]
  exact h
omit [au] in
theorem ZoS (h:∀ a ao v,rs[a]?=some (.alloc ao v)→L' a=L a)(hC:∀ a,C' a=C a):gF base rs L' C' H=gF base rs L C H:=by
 funext m
 unfold gF;split
 ·rename_i ao v hr
  split at hr
  ·rw[h _ _ _ hr,hC]
  ·cases hr
 ·rfl
end
section
variable {P:Program}{call:FuncId→List AV→AH→Option (AV×AH)}{nt:Nat}{ops:Array Oper}{bF:T AV}{h:AH}{rs:List Rk}{al:List (Nat×AO)}
structure CW (P:Program)(call:FuncId→List AV→AH→Option (AV×AH))(nt:Nat)(ops:Array Oper)(bF:T AV)(h:AH)(rs:List Rk)(al:List (Nat×AO)):Prop where
 kL:kL ops=true
 len:rs.length=ops.size
 fact:∀ (i:Nat) r o,rs[i]?=some r→ops[i]?=some o→Qs P call nt ops (bf ops) h.next bF (h.skip ops.size) (rs.take i) o i r
 read:∀ (i:Nat) v o,rs[i]?=some (.val v)→ops[i]?=some o→kd o.op = .read→∃ env vs,(∀ t v,env.get t=some v→Val ops bF rs (below i) t v)∧evs env o.op.operands.toList=some vs∧sameAll P (bf ops) h.next rs al o.op vs v i (h.skip ops.size)=true
 al:∀ a ao,(a,ao)∈al↔∃ v,rs[a]?=some (.alloc ao v)
def lK (ops:Array Oper)(h:AH)(rs:List Rk)(lam:Nat):AH:=uh (h.skip ops.size) (rs.take lam)
def kw (ops:Array Oper)(rs:List Rk)(lam:Nat)(a:Nat):Bool:=Dr (bf ops) a 0 (rs.take lam)
structure AI (nt:Nat)(ops:Array Oper)(bF:T AV)(h:AH)(rs:List Rk)(ρ0:Ren)(w0:World)(L:Nat→Bool)(lam:Nat)(ρ:Ren)(w:World)(a:Act):Prop where
 cl:Closed ops L
 lt:∀ i,L i=true→i<ops.size
 IX:lam=0∨∃ q u g,lam=q+1∧rs[q]?=some (.loud u g)
 loud:∀ (q:Nat) u g,rs[q]?=some (.loud u g)→(L q=true↔q<lam)
 st:Stp ρ0 h.get h.next w0 ρ (gF h.next rs L (kw ops rs lam) (lK ops h rs lam)) (lK ops h rs lam).next w
 nx:h.next+ops.size≤(lK ops h rs lam).next
 nm:∀ i,i<ops.size→L i=false→ρ (h.next+i)=none
 mask:∀ i,i<ops.size→((lK ops h rs lam).get (h.next+i)).isSome=true→kw ops rs lam i=true
 dz:a.defers=[]
 size:a.tmps.size=nt
 val:∀ t v,Val ops bF rs L t v→∃ x,a.tmps[t]?=some x∧VR ρ v x
variable {ρ0 ρ:Ren}{w0 w:World}{L L':Nat→Bool}{lam:Nat}{a:Act}
omit [au] in
theorem Ev {lam x:Nat}:kw ops rs lam x=true↔∃ l u g,l<lam∧rs[l]?=some (.loud u g)∧ahead (bf ops) x l=true:=by
 unfold kw;rw[ZK];unfold zJ;constructor
 ·rintro⟨l,u,g,h1,h2⟩
  obtain⟨h3,h4⟩:=Jl.1 h1;exact⟨l,u,g,h3,h4,h2⟩
 ·rintro⟨l,u,g,h3,h4,h2⟩
  exact⟨l,u,g,Jl.2 ⟨h3,h4⟩,h2⟩
structure mI (ops:Array Oper)(L:Nat→Bool)(i:Nat)(o:Oper):Prop where
 op:ops[i]?=some o
 no:L i=false
 pre:∀ e∈o.after.toList,Region.binds .any e=true→L e.on=true
omit [au] in
theorem mI.ahead {i:Nat}{o:Oper}(hc:Closed ops L){j:Nat}(h:ahead (bf ops) j i=true)(hr:mI ops L i o)(hne:j≠i):L j=true:=by
 have mV:Closed ops (fun k=>L k||decide (k=i)):=by
  intro k q hq hk e he hb;simp only[Bool.or_eq_true,decide_eq_true_eq]at hk ⊢;rcases hk with hk|rfl
  ·exact .inl (hc k q hq hk e he hb)
  ·rw[hr.op]at hq
   cases hq;exact .inl (hr.pre e he hb)
 have:=Pt h mV (by simp);simpa [hne] using this
omit [au] in
theorem mI.writer {i:Nat}{o:Oper}(hk:kL ops=true)(hc:Closed ops L)(hr:mI ops L i o){j t:Nat}(hj:BQ ops j=some t)(ht:t∈looks ops o):L j=true↔j<i:=by
 obtain⟨q,hq,hqd⟩:∃ q,ops[j]?=some q∧q.dst=some t:=by
  unfold BQ at hj;cases hq:ops[j]? with
  |none=>rw[hq]at hj;cases hj
  |some q=>rw[hq]at hj;exact⟨q,rfl,hj⟩
 rcases Nat.lt_trichotomy j i with h|h|h
 ·refine⟨fun _=>h,fun _ => ?_⟩
  have:=(TY hk hr.op hq (by omega) (.inl ⟨t,hqd,ht⟩)).1 h;exact mI.ahead hc this hr (by omega)
 ·subst h
  rw[hr.no];simp
 ·refine⟨fun hL => ?_,fun h'=>by omega⟩
  have:=(TY hk hr.op hq (by omega) (.inl ⟨t,hqd,ht⟩)).2 h;have:=Pt this hc hL;rw[hr.no]at this;cases this
omit [au] in
theorem mI.val {i:Nat}{o:Oper}(hk:kL ops=true)(hc:Closed ops L)(hr:mI ops L i o){t:Nat}{v:AV}(ht:t∈looks ops o)(h:Val ops bF rs (below i) t v):Val ops bF rs L t v:=by
 have hw:=fun j (hj:BQ ops j=some t)=>mI.writer hk hc hr hj ht;rcases h with⟨q,r,h1,h2,h3,h4,h5⟩|⟨h1,h2⟩
 ·refine .inl ⟨q,r,(hw q h2).2 (by simpa [below] using h1),h2,h3,h4,fun j hj oP=>h5 j ?_ oP⟩
  simp[below];exact(hw j oP).1 hj
 ·refine .inr ⟨fun j hj oP=>h1 j ?_ oP,h2⟩
  simp[below];exact(hw j oP).1 hj
theorem EH {ρ:Ren}{env:T AV}{a:Act}:∀ {l:List Operand} {vs:List AV},(∀ t v,.tmp t∈l→env.get t=some v→∃ x,a.tmps[t]?=some x∧VR ρ v x)→evs env l=some vs→aH ρ vs (l.map a.eval)
 |[],vs,_,h=>by simp only[evs,ZlP]at h;subst h;exact aH.nil
 |o::l,vs,hv,h=>by
  unfold evs at h;split at h<;>try(cases h;done)
  rename_i v Ki;split at h<;>try(cases h;done)
  rename_i us Ow;simp only[ZlP]at h;subst h;refine aH.cons ?_ (EH (fun t v ht=>hv t v (ZnQ _ ht)) Ow);cases o with
  |tmp t =>
   obtain⟨x,hx,hr⟩:=hv t v ZnJ Ki;have:a.eval (.tmp t)=x:=(by simp[Act.eval,hx]);rw[this];exact hr
  |const c=>exact Bu ρ Ki
  |func f =>
   simp only[ev,ZlP]at Ki;subst Ki;unfold VR;exact⟨#[],#[],rfl,aH.nil,aH.nil⟩
  |global g =>
   simp only[ev,ZlP]at Ki;subst Ki;unfold VR;rfl
theorem Pm {ρ:Ren}{env:T AV}{a:Act}{o:Oper}{g:Bool}(hv:∀ t v,t∈o.looksAt ops→env.get t=some v→∃ x,a.tmps[t]?=some x∧VR ρ v x)(h:Ju ops o env=some g):Region.wanted o (yielded ops a.tmps)=g:=by
 unfold Ju at h;unfold Region.wanted;split at h
 ·rename_i hg
  rw[hg];simpa using h
 ·rename_i j want hg
  rw[hg];dsimp only;split at h
  ·rename_i hj
   simp only[ZlP]at h;subst h;simp[yielded,hj]
  ·rename_i q hj
   split at h
   ·rename_i hd
    simp only[ZlP]at h;subst h;simp[yielded,hj,hd]
   ·rename_i d hd
    have bY:d∈o.looksAt ops:=by
     unfold Oper.looksAt;rw[hg];simp[hj,hd]
    split at h<;>try(cases h;done)
    ·rename_i b hb
     simp only[ZlP]at h;subst h;obtain⟨x,hx,hr⟩:=hv d _ bY hb;unfold VR at hr;subst hr;simp only[yielded,hj,Option.bind_some,hd,hx];simp
    ·rename_i c p hb
     split at h<;>try(cases h;done)
     rename_i q hq;simp only[ZlP]at h;subst h;obtain⟨x,hx,hr⟩:=hv d _ bY hb;unfold VR at hr;rw[BA hq]at hr;subst hr;simp only[yielded,hj,Option.bind_some,hd,hx];simp
    ·rename_i v fJ Wx hb
     simp only[ZlP]at h;subst h;obtain⟨x,hx,hr⟩:=hv d _ bY hb;simp only[yielded,hj,Option.bind_some,hd,hx];cases x with
     |bool b =>
      cases v<;>simp[VR]at hr
      ·subst hr
       exact absurd rfl (fJ _)
      ·exact absurd rfl (Wx _ _)
     |_=>rfl
omit [au] in
theorem YL {o:Oper}{t:Nat}(h : .tmp t∈o.op.operands.toList):t∈o.looksAt ops:=by
 unfold Oper.looksAt;refine List.mem_append_left _ ?_;rw[List.mem_filterMap];exact⟨_,h,rfl⟩
omit [au] in
theorem PS {o:Oper}{t:Nat}(h:t∈o.looksAt ops):t∈looks ops o:=ZxU _ h
omit [au] in
theorem Zps {i:Nat}{o:Oper}{r:Rk}(hk:kL ops=true)(hc:Closed ops L)(hr:mI ops L i o)(j5:rs[i]?=some r)(hL:∀ j,L' j=true↔L j=true∨j=i){t:Nat}{v:AV}(h:Val ops bF rs L' t v) :
 (o.dst=some t∧v=r.res)∨(o.dst≠some t∧Val ops bF rs L t v):=by
 have hd:BQ ops i=o.dst:=by simp[BQ,hr.op]
 by_cases J2:o.dst=some t
 ·left
  refine⟨J2,?_⟩;have htl:t∈looks ops o:=by unfold looks;rw[J2];simp
  rcases h with⟨q,r',h1,h2,h3,h4,h5⟩|⟨h1,_⟩
  ·have hiq:=h5 i ((hL i).2 (.inr rfl)) (by rw[hd,J2])
   rcases(hL q).1 h1 with h6|h6
   ·have:=(mI.writer hk hc hr h2 htl).1 h6
    omega
   ·subst h6
    rw[j5]at h3;cases h3;exact h4
  ·exact absurd (by rw[hd,J2]) (h1 i ((hL i).2 (.inr rfl)))
 ·right
  refine⟨J2,?_⟩;rcases h with⟨q,r',h1,h2,h3,h4,h5⟩|⟨h1,h2⟩
  ·rcases(hL q).1 h1 with h6|h6
   ·exact .inl ⟨q,r',h6,h2,h3,h4,fun j hj oP=>h5 j ((hL j).2 (.inl hj)) oP⟩
   ·subst h6
    rw[hd]at h2;exact absurd h2 J2
  ·exact .inr ⟨fun j hj oP=>h1 j ((hL j).2 (.inl hj)) oP,h2⟩
theorem TS {i:Nat}{o:Oper}{r:Rk}{ρ':Ren}{x:Value}(hk:kL ops=true)(hc:Closed ops L)(hr:mI ops L i o)(j5:rs[i]?=some r)(hL:∀ j,L' j=true↔L j=true∨j=i)
 (hd:∀ d,o.dst=some d→d<nt) (hs:a.tmps.size=nt) (hv:∀ t v,Val ops bF rs L t v→∃ x,a.tmps[t]?=some x∧VR ρ v x) (hm:∀ n p,ρ n=some p→ρ' n=some p) (hx:VR ρ' r.res x) :
 ∀ t v,Val ops bF rs L' t v→∃ y,(a.put o.dst x).tmps[t]?=some y∧VR ρ' v y:=by
 intro t v h;rcases Zps hk hc hr j5 hL h with⟨h1,rfl⟩|⟨h1,h2⟩
 ·have aK:=hd t h1
  refine⟨x,?_,hx⟩;rw[h1];simp[Act.put,hs,aK]
 ·obtain⟨y,hy,vg⟩:=hv t v h2
  refine⟨y,?_,vg.mono hm⟩;cases hod:o.dst with
  |none=>exact hy
  |some d =>
   have:d≠t:=fun he=>h1 (by rw[hod,he]);simp[Act.put,this,hy]
omit [au] in
theorem PU {o:Option Tmp}{x:Value}:(a.put o x).tmps.size=a.tmps.size:=by
 cases o<;>simp[Act.put]
omit [au] in
theorem put_defers {o:Option Tmp}{x:Value}:(a.put o x).defers=a.defers:=by
 cases o<;>rfl
omit [au] in
theorem SB {i:Nat}{o:Oper}(hc:Closed ops L)(hr:mI ops L i o)(hL:∀ j,L' j=true↔L j=true∨j=i):Closed ops L':=by
 intro k q hq hk e he hb;rw[hL]at hk ⊢;rcases hk with hk|rfl
 ·exact .inl (hc k q hq hk e he hb)
 ·rw[hr.op]at hq
  cases hq;exact .inl (hr.pre e he hb)
theorem AI.still (hI:AI nt ops bF h rs ρ0 w0 L lam ρ w a){i:Nat}{o:Oper}{r:Rk}{x:Value}(hk:Ex.kL ops=true)(hr:mI ops L i o)(j5:rs[i]?=some r)(hL:∀ j,L' j=true↔L j=true∨j=i)(hd:∀ d,o.dst=some d→d<nt)
 (Cy:OE r=false) (Ao:∀ ao v,r≠.alloc ao v) (hx:VR ρ r.res x):AI nt ops bF h rs ρ0 w0 L' lam ρ w (a.put o.dst x):=by
 have hne:∀ {q:Nat} {r':Rk},rs[q]?=some r'→r'≠r→q≠i:=fun h1 h2 he=>by
  subst he;rw[j5]at h1;cases h1;exact h2 rfl
 refine⟨SB hI.cl hr hL,fun j hj => ?_,hI.IX,fun q u g hq => ?_,?_,hI.nx,fun j hj hn=>hI.nm j hj ?_,hI.mask,by rw[put_defers];exact hI.dz,by rw[PU];exact hI.size,TS hk hI.cl hr j5 hL hd hI.size hI.val (fun _ _ h=>h) hx⟩
 ·rcases(hL j).1 hj with h1|rfl
  ·exact hI.lt j h1
  ·exact(Array.getElem?_eq_some_iff.1 hr.op).1
 ·rw[← hI.loud q u g hq,hL]
  have:q≠i:=hne hq (fun he=>by subst he;cases Cy);simp[this]
 ·rw[ZoS (L:=L) (C:=kw ops rs lam) (fun q ao v hq => ?_) (fun _=>rfl)]
  ·exact hI.st
  ·have:q≠i:=hne hq (fun he=>Ao ao v he.symm)
   have:=hL q;cases h1:L q<;>cases h2:L' q<;>simp_all
 ·cases h1:L j with
  |false=>rfl
  |true=>rw[(hL j).2 (.inl h1)]at hn;cases hn
theorem AI.view (hI:AI nt ops bF h rs ρ0 w0 L lam ρ w a){i:Nat}{o:Oper}(hr:mI ops L i o)(DV:∀ a ao,(a,ao)∈al→∃ v,rs[a]?=some (.alloc ao v)){r:Rk}(j5:rs[i]?=some r)(Ao:∀ ao v,r≠.alloc ao v)
 {see:Nat→Bool} (WN:∀ a,see a=true→ahead (bf ops) a i=true∧kw ops rs lam a=false) {m:Nat} {x:AO} (hm:(overlay h.next see al (lK ops h rs lam)).get m=some x) :
 gF h.next rs L (kw ops rs lam) (lK ops h rs lam) m=some x:=by
 rcases K5 hm with⟨q,h1,h2,rfl⟩|h1
 ·obtain⟨v,hq⟩:=DV _ _ h2
  obtain⟨h3,h4⟩:=WN q h1;have hne:q≠i:=fun he=>by subst he;rw[j5]at hq;cases hq;exact Ao _ _ rfl
  exact PD hq (mI.ahead hI.cl h3 hr hne) h4
 ·refine Ub h1 fun q ao v he hq VL => ?_
  subst he;exact hI.mask q (hI.lt q VL) (by rw[h1];rfl)
end
end
end Ex
end Go.Proofs.YtfcpdlbkmkhhcaaGreatDoor
