/-
  Texts of this claim, joined. No condition.
-/
import Derived.Test.YtfcpdlbkmkhhcaaGreatDoorCn7
import Derived.Orders
namespace Go.Proofs.YtfcpdlbkmkhhcaaGreatDoor.Ex
open Go
variable [Zac]
structure ER (ρ:Ren)(env:T AV)(nt:Nat)(a:Act):Prop where
 dz:a.defers=[]
 size:a.tmps.size=nt
 val:∀ t v,env.get t=some v→∃ x,a.tmps[t]?=some x∧VR ρ v x
def Zhj (ops:Array Oper)(i:Nat):Option Tmp:=(ops[i]?).bind (·.dst)
def Val (ops:Array Oper)(env:T AV)(rs:List Rk)(L:Nat→Bool)(t:Nat)(v:AV):Prop :=
 (∃ i r,L i=true∧Zhj ops i=some t∧rs[i]?=some r∧v=r.res∧∀ j,L j=true→Zhj ops j=some t→j≤i)∨((∀ j,L j=true→Zhj ops j≠some t)∧env.get t=some v)
def below (n:Nat):Nat→Bool:=fun j=>decide (j<n)
def isL:Rk→Bool
 | .loud _ _=>true
 | _=>false
def ZcA (h0:AH):List Rk→AH
 | []=>h0
 | .loud _ h::l=>ZcA h l
 | _::l=>ZcA h0 l
def Zgi (b:T Nat)(rs:List Rk)(a:Nat):Prop:=∃ l v h,rs[l]?=some (.loud v h)∧ahead b a l=true
omit [Zac] in
theorem ZaA (h0:AH):∀ (p q:List Rk),ZcA h0 (p++q)=ZcA (ZcA h0 p) q
 | [],_=>rfl
 | .loud _ h::p,q=>ZaA h p q
 | .skip::p,q=>ZaA h0 p q
 | .val _::p,q=>ZaA h0 p q
 | .alloc _ _::p,q=>ZaA h0 p q
omit [Zac] in
theorem ZbN {h0:AH}:∀ {q:List Rk},(∀ r∈q,isL r=false)→ZcA h0 q=h0
 | [],_=>rfl
 | .loud _ _::_,h=>by have:=h _ List.mem_cons_self; cases this
 | .skip::q,h=>by simp only [ZcA]; exact ZbN fun r hr=>h r (List.mem_cons_of_mem _ hr)
 | .val _::q,h=>by simp only [ZcA]; exact ZbN fun r hr=>h r (List.mem_cons_of_mem _ hr)
 | .alloc _ _::q,h=>by simp only [ZcA]; exact ZbN fun r hr=>h r (List.mem_cons_of_mem _ hr)
omit [Zac] in
theorem Zcd {base:Nat}{see:Nat→Bool}:∀ {al:List (Nat×AO)} {h:AH} {m:Nat} {o:AO},(overlay base see al h).get m=some o→(∃ a,see a=true∧(a,o)∈al∧m=base+a)∨h.get m=some o
 | [],h,m,o,hg=>.inr hg
 | (a,o')::al,h,m,o,hg=>by
   unfold overlay at hg
   split at hg
   ·rename_i hs
    rcases ZaP hg with ⟨h1,h2⟩ | ⟨_,h2⟩
    ·cases h2
     exact .inl ⟨a,hs,List.mem_cons_self,h1⟩
    ·rcases Zcd h2 with ⟨a',h3,h4,h5⟩ | h3
     ·exact .inl ⟨a',h3,List.mem_cons_of_mem _ h4,h5⟩
     ·exact .inr h3
   ·rcases Zcd hg with ⟨a',h3,h4,h5⟩ | h3
    ·exact .inl ⟨a',h3,List.mem_cons_of_mem _ h4,h5⟩
    ·exact .inr h3
omit [Zac] in
theorem Zcc {base:Nat}{see:Nat→Bool}:∀ {al:List (Nat×AO)} {h:AH},(overlay base see al h).next=h.next
 | [],_=>rfl
 | (a,o')::al,h=>by
   unfold overlay
   split
   ·rw [Za6]; exact Zcc
   ·exact Zcc
structure ZpZ (ops:Array Oper)(b:T Nat)(env0:T AV)(h0:AH)(p:List Rk)(env:T AV)(h:AH)(cons:Nat)(al:List (Nat×AO)):Prop where
 env:∀ t v,env.get t=some v→Val ops env0 p (below p.length) t v
 heap:h=ZcA h0 p
 cons:∀ a,cons.testBit a=true↔Zgi b p a
 al:∀ a ao,(a,ao)∈al↔∃ v,p[a]?=some (.alloc ao v)
section
variable (P:Program)(call:FuncId→List AV→AH→Option (AV×AH))(nt:Nat)(ops:Array Oper)(b:T Nat)(base:Nat)(env0:T AV)(h0:AH)
def KF (o:Oper)(i:Nat)(vs:List AV)(h:AH)(cons:Nat)(al:List (Nat×AO))(r:Rk):Prop:=match kd o.op with
 | .pure=>∃ v,Zcl P o.op vs=some v∧r = .val v
 | .read=>∃ v,r = .val v
 | .alloc=>∃ ao k,Zeh P o.op vs=some (ao,k)∧r = .alloc ao (k.at (base+i))
 | .loud=>∃ v h',r = .loud v h'∧opA P call o.op vs (overlay base (fun a=>ahead b a i && !(cons.testBit a)) al h)=some (v,h')
def Zle (p:List Rk)(o:Oper)(i:Nat)(r:Rk):Prop :=
 ∃ env h cons al,ZpZ ops b env0 h0 p env h cons al∧(∀ d,o.dst=some d→d<nt) ∧
  ((Zhy ops o env=some false∧r = .skip)∨(Zhy ops o env=some true∧∃ vs,evs env o.op.operands.toList=some vs∧KF P call b base o i vs h cons al r))
end
section
variable {P:Program}{call:FuncId→List AV→AH→Option (AV×AH)}{nt:Nat}{ops:Array Oper}{b:T Nat}{base:Nat}{env0:T AV}{h0:AH}
omit [Zac] in
theorem Zfc {nt:Nat}{env env':T AV}{dst:Option Tmp}{v:AV}(h:ZpS nt env dst v=some env'):(∀ d,dst=some d→d<nt)∧∀ t u,env'.get t=some u→(dst=some t∧u=v)∨(dst≠some t∧env.get t=some u):=by
 unfold ZpS at h
 split at h
 ·simp only [Option.some.injEq] at h
  subst h
  exact ⟨fun d hd=>(by cases hd),fun t u hu=>.inr ⟨(by intro h; cases h),hu⟩⟩
 ·rename_i d
  split at h <;> first | (cases h; done) | skip
  rename_i hlt
  simp only [Option.some.injEq] at h
  subst h
  refine ⟨fun d' hd=>by cases hd; simpa using hlt,fun t u hu => ?_⟩
  rcases T.get_put hu with ⟨h1,h2⟩ | ⟨h1,h2⟩
  ·subst h1
   cases h2
   exact .inl ⟨rfl,rfl⟩
  ·exact .inr ⟨fun he=>h1 (by cases he; rfl),h2⟩
omit [Zac] in
theorem Zfp {p:List Rk}{r:Rk}{o:Oper}{env env':T AV}(hi:ops[p.length]?=some o)(he:∀ t v,env.get t=some v→Val ops env0 p (below p.length) t v)
 (hp:∀ t u,env'.get t=some u→(o.dst=some t∧u=r.res)∨(o.dst≠some t∧env.get t=some u)):∀ t v,env'.get t=some v→Val ops env0 (p++[r]) (below (p++[r]).length) t v:=by
 intro t v hv
 have hd:Zhj ops p.length=o.dst:=by simp [Zhj,hi]
 have hlen:(p++[r]).length=p.length+1:=by simp
 rcases hp t v hv with ⟨h1,h2⟩ | ⟨h1,h2⟩
 ·refine .inl ⟨p.length,r,by simp [below],by rw [hd,h1],by simp,h2,fun j hj _ => ?_⟩
  simp [below] at hj
  omega
 ·rcases he t v h2 with ⟨i,r',h3,h4,h5,h6,h7⟩ | ⟨h3,h4⟩
  ·have hil:i<p.length:=by simpa [below] using h3
   refine .inl ⟨i,r',by simp [below]; omega,h4,by rw [List.getElem?_append_left hil]; exact h5,h6,fun j hj hj' => ?_⟩
   simp [below] at hj
   by_cases hjp:j=p.length
   ·subst hjp
    rw [hd] at hj'
    exact absurd hj' h1
   ·exact h7 j (by simp [below]; omega) hj'
  ·refine .inr ⟨fun j hj hj' => ?_,h4⟩
   simp [below] at hj
   by_cases hjp:j=p.length
   ·subst hjp
    rw [hd] at hj'
    exact h1 hj'
   ·exact h3 j (by simp [below]; omega) hj'
omit [Zac] in
theorem ZaL {p:List Rk}{r x:Rk}{i:Nat}:(p++[r])[i]?=some x↔p[i]?=some x∨(i=p.length∧r=x):=by
 by_cases h:i<p.length
 ·rw [List.getElem?_append_left h]
  exact ⟨.inl,fun h'=>h'.elim id fun h'=>by omega⟩
 ·rw [List.getElem?_append_right (by omega),List.getElem?_eq_none (l:=p) (by omega)]
  by_cases h2:i=p.length
  ·subst h2; simp
  ·have:i - p.length=(i - p.length - 1)+1:=by omega
   rw [this]
   simp [h2]
theorem ZhO {rsF:List Rk}{envF:T AV}{hF:AH}{consF:Nat}{alF:List (Nat×AO)}:∀ (l:List Oper) (env:T AV) (h:AH) (cons:Nat) (al:List (Nat×AO)) (rs:List Rk),
 Zrh P call nt ops b base rs.length l env h cons al rs=some (rsF,envF,hF,consF,alF)→(∀ k,l[k]?=ops[rs.length+k]?)→ZpZ ops b env0 h0 rs.reverse env h cons al →
 ∃ tail,rsF=rs.reverse++tail∧tail.length=l.length∧ZpZ ops b env0 h0 rsF envF hF consF alF ∧
  ∀ (k:Nat) r o,tail[k]?=some r→l[k]?=some o→Zle P call nt ops b base env0 h0 (rs.reverse++tail.take k) o (rs.length+k) r
 | [],env,h,cons,al,rs,hd,_,hI=>by
   simp only [Zrh,Option.some.injEq,Prod.mk.injEq] at hd
   obtain ⟨rfl,rfl,rfl,rfl,rfl⟩:=hd
   exact ⟨[],by simp,rfl,hI,by simp⟩
 | o::l,env,h,cons,al,rs,hd,hl,hI=>by
   have ho:ops[rs.reverse.length]?=some o:=by simpa using (hl 0).symm
   have hl':∀ r,∀ k,l[k]?=ops[(r::rs:List Rk).length+k]?:=fun r k=>by
    have:=hl (k+1)
    rw [List.getElem?_cons_succ] at this
    rw [this]
    congr 1
    simp only [List.length_cons]
    omega
   have step:∀ (r:Rk) (env':T AV) (h':AH) (cons':Nat) (al':List (Nat×AO)),ZpZ ops b env0 h0 (rs.reverse++[r]) env' h' cons' al'→Zle P call nt ops b base env0 h0 rs.reverse o rs.length r →
    Zrh P call nt ops b base (Nat.add rs.length 1) l env' h' cons' al' (r::rs)=some (rsF,envF,hF,consF,alF) →
    ∃ tail,rsF=rs.reverse++tail∧tail.length=(o::l).length∧ZpZ ops b env0 h0 rsF envF hF consF alF ∧
     ∀ (k:Nat) r o',tail[k]?=some r→(o::l)[k]?=some o'→Zle P call nt ops b base env0 h0 (rs.reverse++tail.take k) o' (rs.length+k) r:=by
    intro r env' h' cons' al' hI' hF' hd'
    obtain ⟨tail,h1,h2,h3,h4⟩:=ZhO l env' h' cons' al' (r::rs) hd' (hl' r) (by simpa using hI')
    refine ⟨r::tail,by rw [h1]; simp,by simp [h2],h3,fun k r' o' hk ho' => ?_⟩
    cases k with
    | zero =>
      simp at hk ho'
      subst hk; subst ho'
      simpa using hF'
    | succ k =>
      have:=h4 k r' o' (by simpa using hk) (by simpa using ho')
      simp only [List.reverse_cons,List.append_assoc,List.singleton_append,List.length_cons] at this
      rw [show rs.length+(k+1)=rs.length+1+k from by omega]
      simpa using this
   unfold Zrh at hd
   split at hd <;> first | (cases hd; done) | skip
   ·rename_i hgd
    split at hd <;> first | (cases hd; done) | skip
    rename_i env' hput
    obtain ⟨hdb,hpv⟩:=Zfc hput
    refine step .skip env' h cons al ⟨Zfp ho hI.env hpv,?_,?_,?_⟩ ⟨env,h,cons,al,hI,hdb,.inl ⟨hgd,rfl⟩⟩ hd
    ·rw [ZaA,hI.heap]; rfl
    ·intro a
     rw [hI.cons]
     constructor
     ·rintro ⟨q,v,hh,h1,h2⟩
      exact ⟨q,v,hh,ZaL.2 (.inl h1),h2⟩
     ·rintro ⟨q,v,hh,h1,h2⟩
      rcases ZaL.1 h1 with h1 | ⟨_,h1⟩
      ·exact ⟨q,v,hh,h1,h2⟩
      ·cases h1
    ·intro a ao
     rw [hI.al]
     constructor
     ·rintro ⟨v,h1⟩
      exact ⟨v,ZaL.2 (.inl h1)⟩
     ·rintro ⟨v,h1⟩
      rcases ZaL.1 h1 with h1 | ⟨_,h1⟩
      ·exact ⟨v,h1⟩
      ·cases h1
   ·rename_i hgd
    split at hd <;> first | (cases hd; done) | skip
    rename_i vs hvs
    split at hd <;> first | (cases hd; done) | skip
    rename_i r h' cons' al' hk
    split at hd <;> first | (cases hd; done) | skip
    rename_i env' hput
    obtain ⟨hdb,hpv⟩:=Zfc hput
    have inv:∀ (r':Rk),(∀ t u,env'.get t=some u→(o.dst=some t∧u=r'.res)∨(o.dst≠some t∧env.get t=some u))→isL r'=false→(∀ ao v,r'≠.alloc ao v)→ZpZ ops b env0 h0 (rs.reverse++[r']) env' h cons al:=by
     intro r' hpv' hnl hna
     refine ⟨Zfp ho hI.env hpv',?_,?_,?_⟩
     ·rw [ZaA,← hI.heap,ZbN (by simpa using hnl)]
     ·intro a
      rw [hI.cons]
      constructor
      ·rintro ⟨q,v,hh,h1,h2⟩
       exact ⟨q,v,hh,ZaL.2 (.inl h1),h2⟩
      ·rintro ⟨q,v,hh,h1,h2⟩
       rcases ZaL.1 h1 with h1 | ⟨_,h1⟩
       ·exact ⟨q,v,hh,h1,h2⟩
       ·subst h1; cases hnl
     ·intro a ao
      rw [hI.al]
      constructor
      ·rintro ⟨v,h1⟩
       exact ⟨v,ZaL.2 (.inl h1)⟩
      ·rintro ⟨v,h1⟩
       rcases ZaL.1 h1 with h1 | ⟨_,h1⟩
       ·exact ⟨v,h1⟩
       ·exact absurd h1 (hna _ _)
    cases hkd:kd o.op with
    | pure =>
      rw [hkd] at hk
      dsimp only at hk
      split at hk <;> first | (cases hk; done) | skip
      rename_i v hv
      simp only [Option.some.injEq,Prod.mk.injEq] at hk
      obtain ⟨rfl,rfl,rfl,rfl⟩:=hk
      exact step _ env' h cons al (inv _ hpv rfl (by intro _ _ h; cases h)) ⟨env,h,cons,al,hI,hdb,.inr ⟨hgd,vs,hvs,by unfold KF; rw [hkd]; exact ⟨v,hv,rfl⟩⟩⟩ hd
    | read =>
      rw [hkd] at hk
      dsimp only at hk
      split at hk <;> first | (cases hk; done) | skip
      rename_i v hv
      simp only [Option.some.injEq,Prod.mk.injEq] at hk
      obtain ⟨rfl,rfl,rfl,rfl⟩:=hk
      exact step _ env' h cons al (inv _ hpv rfl (by intro _ _ h; cases h)) ⟨env,h,cons,al,hI,hdb,.inr ⟨hgd,vs,hvs,by unfold KF; rw [hkd]; exact ⟨v,rfl⟩⟩⟩ hd
    | alloc =>
      rw [hkd] at hk
      dsimp only at hk
      split at hk <;> first | (cases hk; done) | skip
      rename_i ao k hv
      simp only [Option.some.injEq,Prod.mk.injEq] at hk
      obtain ⟨rfl,rfl,rfl,rfl⟩:=hk
      refine step _ env' h cons _ ⟨Zfp ho hI.env hpv,?_,?_,?_⟩ ⟨env,h,cons,al,hI,hdb,.inr ⟨hgd,vs,hvs,by unfold KF; rw [hkd]; exact ⟨ao,k,hv,rfl⟩⟩⟩ hd
      ·rw [ZaA,← hI.heap]; rfl
      ·intro a
       rw [hI.cons]
       constructor
       ·rintro ⟨q,v,hh,h1,h2⟩
        exact ⟨q,v,hh,ZaL.2 (.inl h1),h2⟩
       ·rintro ⟨q,v,hh,h1,h2⟩
        rcases ZaL.1 h1 with h1 | ⟨_,h1⟩
        ·exact ⟨q,v,hh,h1,h2⟩
        ·cases h1
      ·intro a ao'
       rw [List.mem_cons,hI.al]
       constructor
       ·rintro (h1 | ⟨v,h1⟩)
        ·cases h1
         exact ⟨_,ZaL.2 (.inr ⟨by simp,rfl⟩)⟩
        ·exact ⟨v,ZaL.2 (.inl h1)⟩
       ·rintro ⟨v,h1⟩
        rcases ZaL.1 h1 with h1 | ⟨h0,h1⟩
        ·exact .inr ⟨v,h1⟩
        ·cases h1
         left
         rw [h0]
         simp
    | loud =>
      rw [hkd] at hk
      dsimp only at hk
      split at hk <;> first | (cases hk; done) | skip
      rename_i v h1 hv
      simp only [Option.some.injEq,Prod.mk.injEq] at hk
      obtain ⟨rfl,rfl,rfl,rfl⟩:=hk
      refine step _ env' _ _ al ⟨Zfp ho hI.env hpv,?_,?_,?_⟩ ⟨env,h,cons,al,hI,hdb,.inr ⟨hgd,vs,hvs,by unfold KF; rw [hkd]; exact ⟨v,_,rfl,hv⟩⟩⟩ hd
      ·rw [ZaA]; rfl
      ·intro a
       rw [Nat.testBit_or,Bool.or_eq_true,hI.cons]
       constructor
       ·rintro (⟨q,v,hh,h1,h2⟩ | h1)
        ·exact ⟨q,v,hh,ZaL.2 (.inl h1),h2⟩
        ·exact ⟨rs.length,_,_,ZaL.2 (.inr ⟨by simp,rfl⟩),h1⟩
       ·rintro ⟨q,v,hh,h1,h2⟩
        rcases ZaL.1 h1 with h1 | ⟨h3,h1⟩
        ·exact .inl ⟨q,v,hh,h1,h2⟩
        ·right
         rw [h3,List.length_reverse] at h2
         exact h2
      ·intro a ao
       rw [hI.al]
       constructor
       ·rintro ⟨v,h1⟩
        exact ⟨v,ZaL.2 (.inl h1)⟩
       ·rintro ⟨v,h1⟩
        rcases ZaL.1 h1 with h1 | ⟨_,h1⟩
        ·exact ⟨v,h1⟩
        ·cases h1
end
end Go.Proofs.YtfcpdlbkmkhhcaaGreatDoor.Ex

namespace Go.Proofs.YtfcpdlbkmkhhcaaGreatDoor.Ex
open Go
mutual
theorem AV.Zav:∀ {a b:AV},AV.beq a b=true→a=b
 | .bool a,b,h=>by cases b <;> simp [AV.beq] at h; rw [h]
 | .int k a,b,h=>by cases b <;> simp [AV.beq] at h; rw [h.1,h.2]
 | .sym k e,b,h=>by cases b <;> simp [AV.beq] at h; rw [h.1,SE.Zav h.2]
 | .ZdH c p,b,h=>by cases b <;> simp [AV.beq] at h; rw [Cnd.Zav h.1,h.2]
 | .eptr n e s j,b,h=>by cases b <;> simp [AV.beq] at h; rw [h.1.1,SE.Zav h.1.2,h.2.1,h.2.2]
 | .dsl n e s,b,h=>by cases b <;> simp [AV.beq] at h; rw [h.1,SE.Zav h.2.1,h.2.2]
 | .ssl n e l s,b,h=>by cases b <;> simp [AV.beq] at h; rw [h.1.1,SE.Zav h.1.2,h.2.1,h.2.2]
 | .rsl i,b,h=>by cases b <;> simp [AV.beq] at h; rw [h]
 | .rptr i e,b,h=>by cases b <;> simp [AV.beq] at h; rw [h.1,SE.Zav h.2]
 | .str _,b,h=>by cases b <;> simp [AV.beq] at h
 | .nilp,b,h=>by cases b <;> simp [AV.beq] at h; rfl
 | .ptr n o,b,h=>by
   cases b <;> simp [AV.beq] at h
   rw [h.1,h.2]
 | .gptr n o,b,h=>by
   cases b <;> simp [AV.beq] at h
   rw [h.1,h.2]
 | .nilsl,b,h=>by cases b <;> simp [AV.beq] at h; rfl
 | .sl n o l s r,b,h=>by
   cases b <;> simp [AV.beq] at h
   obtain ⟨h1,h2,h3,h4,h5⟩:=h
   rename_i n' o' l' s' r'
   have:r=r':=by
    cases r <;> cases r' <;> first | rfl | (cases h5; done) | skip
    simp at h5
    rw [h5]
   rw [h1,h2,h3,h4,this]
 | .esl n,b,h=>by cases b <;> simp [AV.beq] at h; rw [h]
 | .zsl,b,h=>by cases b <;> simp [AV.beq] at h; rfl
 | .osl e,b,h=>by cases b <;> simp [AV.beq] at h; rw [SE.Zav h]
 | .nilmap,b,h=>by cases b <;> simp [AV.beq] at h; rfl
 | .map n,b,h=>by cases b <;> simp [AV.beq] at h; rw [h]
 | .fn f x y,b,h=>by
   cases b with
   | fn f' x' y' =>
     cases f <;> cases f' <;> simp [AV.beq] at h
     obtain ⟨h1,h2,h3⟩:=h
     rw [h1,AV.ZcW h2,AV.ZcW h3]
   | _=>cases f <;> simp [AV.beq] at h
 | .nilfn,b,h=>by cases b <;> simp [AV.beq] at h; rfl
 | .nilif,b,h=>by cases b <;> simp [AV.beq] at h; rfl
 | .ifc _ _,b,h=>by cases b <;> simp [AV.beq] at h
 | .agg l,b,h=>by
   cases b <;> simp [AV.beq] at h
   rw [AV.ZcW h]
 | .tup l,b,h=>by
   cases b <;> simp [AV.beq] at h
   rw [AV.ZcW h]
theorem AV.ZcW:∀ {a b:List AV},AV.ZiM a b=true→a=b
 | [],b,h=>by cases b <;> simp [AV.ZiM] at h; rfl
 | x::a,b,h=>by
   cases b with
   | nil=>simp [AV.ZiM] at h
   | cons y b =>
     simp [AV.ZiM] at h
     rw [AV.Zav h.1,AV.ZcW h.2]
end
variable [Zac]
section
variable {P:Program}{call:FuncId→List AV→AH→Option (AV×AH)}{nt:Nat}{ops:Array Oper}{b:T Nat}{base:Nat}{env0:T AV}{h0:AH}
omit [Zac] in
theorem Zeb {α:Type}{l:List α}{n i:Nat}{x:α}:(l.take n)[i]?=some x↔i<n∧l[i]?=some x:=by
 rw [List.getElem?_take]
 by_cases h:i<n <;> simp [h]
omit [Zac] in
theorem Val.ext {p q:List Rk}{n t:Nat}{v:AV}(h:Val ops env0 p (below n) t v)(he:∀ i,i<n→p[i]?=q[i]?):Val ops env0 q (below n) t v:=by
 rcases h with ⟨i,r,h1,h2,h3,h4,h5⟩ | h
 ·refine .inl ⟨i,r,h1,h2,?_,h4,h5⟩
  rw [← he i (by simpa [below] using h1)]
  exact h3
 ·exact .inr h
omit [Zac] in
theorem ZlD {i j:Nat}:∀ {rs:List Rk} {l:Nat},(∀ (k:Nat) v h,rs[k]?=some (.loud v h)→(l+k<j→ahead b i (l+k)=false)∧(j≤l+k→ahead b (l+k) i=false))→Zhl b i j l rs=true
 | [],_,_=>rfl
 | r::rs,l,h=>by
   have ih:Zhl b i j (Nat.add l 1) rs=true:=ZlD fun k v h' hk=>by
    have:=h (k+1) v h' (by simpa using hk)
    have e:Nat.add l 1+k=l+(k+1):=by show l+1+k=_; omega
    rw [e]
    exact this
   cases r with
   | loud v h' =>
     have:=h 0 v h' rfl
     rw [Nat.add_zero] at this
     unfold Zhl
     split
     ·rename_i hlt
      rw [this.1 (by simpa using hlt)]
      exact ih
     ·rename_i hlt
      rw [this.2 (by have:=ZmV hlt; omega)]
      exact ih
   | skip=>exact ih
   | val _=>exact ih
   | alloc _ _=>exact ih
def ZmJ (P:Program)(b:T Nat)(base:Nat)(h0:AH)(all:List Rk)(al:List (Nat×AO))(op:Op)(vs:List AV)(v:AV)(i j:Nat):Prop :=
 Zhl b i j 0 all=true→∃ c:Nat,(∀ a,c.testBit a=true↔Zgi b (all.take j) a)∧ZfT P op vs (overlay base (fun a=>ahead b a i && !(c.testBit a)) al (ZcA h0 (all.take j)))=some v
theorem ZgT {all:List Rk}{al:List (Nat×AO)}{op:Op}{vs:List AV}{v:AV}{i:Nat}:∀ (rs pre:List Rk) (cons:Nat),all=pre++rs→(∀ a,cons.testBit a=true↔Zgi b pre a) →
 Zd5 P b base all al op vs v i pre.length (ZcA h0 pre) cons rs=true→∀ (q:Nat) u h,pre.length≤q→all[q]?=some (.loud u h)→ZmJ P b base h0 all al op vs v i (q+1)
 | [],pre,cons,he,hc,hn,q,u,h,hq,ha=>by
   rw [he,List.append_nil,List.getElem?_eq_none hq] at ha
   cases ha
 | r::rs,pre,cons,he,hc,hn,q,u,h,hq,ha=>by
   have he':all=(pre++[r])++rs:=by rw [he]; simp
   have hlen:(pre++[r]).length=pre.length+1:=by simp
   have htake:all.take (pre.length+1)=pre++[r]:=by rw [he',List.take_left' hlen]
   have other:isL r=false→Zd5 P b base all al op vs v i (pre.length+1) (ZcA h0 pre) cons rs=true→ZmJ P b base h0 all al op vs v i (q+1):=by
    intro hnl hn'
    have hc':∀ a,cons.testBit a=true↔Zgi b (pre++[r]) a:=by
     intro a
     rw [hc]
     constructor
     ·rintro ⟨l,v,h,h1,h2⟩
      exact ⟨l,v,h,ZaL.2 (.inl h1),h2⟩
     ·rintro ⟨l,v,h,h1,h2⟩
      rcases ZaL.1 h1 with h1 | ⟨_,h1⟩
      ·exact ⟨l,v,h,h1,h2⟩
      ·subst h1; cases hnl
    refine ZgT rs (pre++[r]) cons he' hc' ?_ q u h ?_ ha
    ·rw [hlen,ZaA,ZbN (q:=[r]) (by simpa using hnl)]
     exact hn'
    ·rw [hlen]
     rcases Nat.lt_or_ge pre.length q with h1 | h1
     ·omega
     ·have:q=pre.length:=by omega
      rw [this,he,List.getElem?_append_right (Nat.le_refl _)] at ha
      simp at ha
      subst ha
      cases hnl
   cases r with
   | loud u' h' =>
     unfold Zd5 at hn
     dsimp only at hn
     split at hn <;> first | (cases hn; done) | skip
     rename_i hcheck
     have hc':∀ a,(cons ||| Zgm b pre.length).testBit a=true↔Zgi b (pre++[.loud u' h']) a:=by
      intro a
      rw [Nat.testBit_or,Bool.or_eq_true,hc]
      constructor
      ·rintro (⟨l,v,h,h1,h2⟩ | h1)
       ·exact ⟨l,v,h,ZaL.2 (.inl h1),h2⟩
       ·exact ⟨pre.length,_,_,ZaL.2 (.inr ⟨rfl,rfl⟩),h1⟩
      ·rintro ⟨l,v,h,h1,h2⟩
       rcases ZaL.1 h1 with h1 | ⟨h3,h1⟩
       ·exact .inl ⟨l,v,h,h1,h2⟩
       ·right
        rw [h3] at h2
        exact h2
     rcases Nat.lt_or_ge pre.length q with h1 | h1
     ·refine ZgT rs (pre++[.loud u' h']) _ he' hc' ?_ q u h (by rw [hlen]; omega) ha
      rw [hlen,ZaA]
      exact hn
     ·have hqe:q=pre.length:=by omega
      subst hqe
      intro hmay
      refine ⟨cons ||| Zgm b pre.length,?_,?_⟩
      ·rw [htake]; exact hc'
      ·rw [htake,ZaA]
       have hmay':Zhl b i (Nat.add pre.length 1) 0 all=true:=hmay
       unfold Zti at hcheck
       rw [hmay'] at hcheck
       dsimp only at hcheck
       split at hcheck <;> first | (cases hcheck; done) | skip
       rename_i u2 hu2
       have:=AV.Zav hcheck
       subst this
       exact hu2
   | skip=>exact other rfl hn
   | val _=>exact other rfl hn
   | alloc _ _=>exact other rfl hn
theorem ZjT {all:List Rk}{al:List (Nat×AO)}{op:Op}{vs:List AV}{v:AV}{i:Nat}(h:sameAll P b base all al op vs v i h0=true)(j:Nat)(hj:j=0∨∃ q u g,j=q+1∧all[q]?=some (.loud u g)) :
 ZmJ P b base h0 all al op vs v i j:=by
 unfold sameAll at h
 split at h <;> first | (cases h; done) | skip
 rename_i hcheck
 have h0c:∀ a,(0:Nat).testBit a=true↔Zgi b [] a:=by
  intro a
  simp [Zgi]
 rcases hj with rfl | ⟨q,u,g,rfl,hq⟩
 ·intro hmay
  refine ⟨0,by simpa using h0c,?_⟩
  unfold Zti at hcheck
  rw [hmay] at hcheck
  dsimp only at hcheck
  split at hcheck <;> first | (cases hcheck; done) | skip
  rename_i u2 hu2
  have:=AV.Zav hcheck
  subst this
  exact hu2
 ·exact ZgT all [] 0 (by simp) h0c h q u g (Nat.zero_le _) hq
theorem Zg1 {all:List Rk}{al:List (Nat×AO)}:∀ (l:List Oper) (p tail:List Rk) (env:T AV),reads P nt ops b base h0 all al p.length l tail env=true→(∀ k,l[k]?=ops[p.length+k]?) →
 (∀ t v,env.get t=some v→Val ops env0 p (below p.length) t v)→∀ (k:Nat) v o,tail[k]?=some (.val v)→l[k]?=some o→kd o.op = .read →
 ∃ env vs,(∀ t v,env.get t=some v→Val ops env0 (p++tail.take k) (below (p.length+k)) t v)∧evs env o.op.operands.toList=some vs∧sameAll P b base all al o.op vs v (p.length+k) h0=true
 | [],p,tail,env,h,hl,he,k,v,o,hk,ho,hkd=>by simp at ho
 | o::l,p,[],env,h,hl,he,k,v,o',hk,ho,hkd=>by simp at hk
 | o::l,p,r::rs,env,h,hl,he,k,v,o',hk,ho,hkd=>by
   unfold reads at h
   split at h <;> first | (cases h; done) | skip
   rename_i hcheck
   split at h <;> first | (cases h; done) | skip
   rename_i env' hput
   have hop:ops[p.length]?=some o:=by simpa using (hl 0).symm
   cases k with
   | zero =>
     simp at hk ho
     subst hk; subst ho
     rw [hkd] at hcheck
     dsimp only at hcheck
     split at hcheck <;> first | (cases hcheck; done) | skip
     rename_i vs hvs
     exact ⟨env,vs,by simpa using he,hvs,hcheck⟩
   | succ k =>
     obtain ⟨_,hpv⟩:=Zfc hput
     have hlen:(p++[r]).length=p.length+1:=by simp
     obtain ⟨e1,vs,h1,h2,h3⟩:=Zg1 l (p++[r]) rs env' (by rw [hlen]; exact h) (fun k=>by
      have:=hl (k+1)
      rw [List.getElem?_cons_succ] at this
      rw [this,hlen]
      congr 1
      omega) (Zfp hop he hpv) k v o' (by simpa using hk) (by simpa using ho) hkd
     refine ⟨e1,vs,fun t u hu => ?_,h2,?_⟩
     ·have:=h1 t u hu
      rw [hlen] at this
      rw [show p.length+(k+1)=p.length+1+k from by omega]
      simpa using this
     ·rw [hlen] at h3
      rw [show p.length+(k+1)=p.length+1+k from by omega]
      exact h3
def Closed (ops:Array Oper)(L:Nat→Bool):Prop:=∀ i o,ops[i]?=some o→L i=true→∀ e∈o.after.toList,Region.binds .any e=true→L e.on=true
omit [Zac] in
theorem Zgl {t:T Nat}{j:Nat}:∀ {l:List Edge},(Zrr t l).testBit j=true→∃ e∈l,Region.binds .any e=true∧(j=e.on∨∃ y,t.get e.on=some y∧y.testBit j=true)
 | [],h=>by simp [Zrr] at h
 | e::l,h=>by
   unfold Zrr at h
   split at h
   ·rename_i hb
    rw [Nat.testBit_or,Nat.testBit_or,Bool.or_eq_true,Bool.or_eq_true] at h
    rcases h with (h | h) | h
    ·refine ⟨e,List.mem_cons_self,hb,.inl ?_⟩
     rw [Nat.testBit_two_pow] at h
     simpa using (of_decide_eq_true h).symm
    ·refine ⟨e,List.mem_cons_self,hb,.inr ?_⟩
     split at h
     ·rename_i y hy
      exact ⟨y,hy,h⟩
     ·simp at h
    ·obtain ⟨e',h1,h2⟩:=Zgl h
     exact ⟨e',List.mem_cons_of_mem _ h1,h2⟩
   ·obtain ⟨e',h1,h2⟩:=Zgl h
    exact ⟨e',List.mem_cons_of_mem _ h1,h2⟩
def ZpY (ops:Array Oper)(t:T Nat):Prop:=∀ (i x:Nat),t.get i=some x→∀ j,x.testBit j=true→∀ L,Closed ops L→L i=true→L j=true
omit [Zac] in
theorem ZpF:∀ (l:List Oper) (i:Nat) (t:T Nat),(∀ k,l[k]?=ops[i+k]?)→ZpY ops t→ZpY ops (bfs i l t)
 | [],i,t,_,h=>h
 | o::l,i,t,hl,h=>by
   unfold bfs
   refine ZpF l (i+1) _ (fun k => ?_) ?_
   ·have:=hl (k+1)
    rw [List.getElem?_cons_succ] at this
    rw [this]
    congr 1
    omega
   ·intro q x hq j hj L hL hi
    rcases T.get_put hq with ⟨h1,h2⟩ | ⟨_,h2⟩
    ·cases h2
     subst h1
     obtain ⟨e,he,hb,h3⟩:=Zgl hj
     have hLe:L e.on=true:=hL _ o (by simpa using (hl 0).symm) hi e he hb
     rcases h3 with rfl | ⟨y,hy,hyj⟩
     ·exact hLe
     ·exact h _ _ hy _ hyj L hL hLe
    ·exact h _ _ h2 _ hj L hL hi
omit [Zac] in
theorem ZeS {i j:Nat}(h:ahead (bf ops) j i=true){L:Nat→Bool}(hL:Closed ops L)(hi:L i=true):L j=true:=by
 have hd:ZpY ops (bf ops):=ZpF ops.toList 0 .e (by simp) (fun i x h=>by rw [T.Zed] at h; cases h)
 unfold ahead Zgm at h
 split at h
 ·rename_i x hx
  exact hd _ _ hx _ h L hL hi
 ·simp at h
omit [Zac] in
theorem ZjC {t:Nat}:∀ {l:List Nat},t∈l→Zth t l=true
 | [],h=>by cases h
 | x::l,h=>by
   unfold Zth
   split
   ·rfl
   ·rename_i hx
    rcases List.mem_cons.1 h with h1 | h1
    ·subst h1
     simp at hx
    ·exact ZjC h1
omit [Zac] in
theorem Zi7 {o:Oper}{i:Nat}:∀ {l:List Oper} {j:Nat},Zoy ops b o i j l=true→∀ (k:Nat) q,l[k]?=some q→i≠j+k→((∃ d,q.dst=some d∧d∈looks ops o)∨(Zek o=true∧Zek q=true)) →
 (j+k<i→ahead b (j+k) i=true)∧(i<j+k→ahead b i (j+k)=true)
 | [],j,h,k,q,hk,_,_=>by simp at hk
 | p::l,j,h,k,q,hk,hne,hc=>by
   have tail:Zoy ops b o i (Nat.add j 1) l=true:=by
    unfold Zoy at h
    split at h
    ·exact h
    ·split at h
     ·exact h
     ·split at h
      ·exact h
      ·cases h
   cases k with
   | succ k =>
     have:=Zi7 tail k q (by simpa using hk) (by show i≠j+1+k; omega) hc
     have e:Nat.add j 1+k=j+(k+1):=by show j+1+k=_; omega
     rw [e] at this
     exact this
   | zero =>
     simp at hk
     subst hk
     rw [Nat.add_zero] at hne ⊢
     unfold Zoy at h
     split at h
     ·rename_i hb
      exact absurd (Nat.eq_of_beq_eq_true hb) hne
     ·have hcond:touch ops o p=true:=by
       unfold touch
       rcases hc with ⟨d,h1,h2⟩ | ⟨h1,h2⟩
       ·rw [h1]
        simp [ZjC h2]
       ·simp [h1,h2]
      rw [hcond] at h
      dsimp only at h
      split at h <;> first | (cases h; done) | skip
      rename_i hord
      split at hord
      ·rename_i hlt
       have:j<i:=by simpa using hlt
       exact ⟨fun _=>hord,fun h=>by omega⟩
      ·rename_i hlt
       have:=ZmV hlt
       exact ⟨fun h=>by omega,fun _=>hord⟩
omit [Zac] in
theorem Zi6:∀ {l:List Oper} {i:Nat},Ztg ops b i l=true→∀ (k:Nat) o,l[k]?=some o→Zoy ops b o (i+k) 0 ops.toList=true
 | [],i,h,k,o,hk=>by simp at hk
 | p::l,i,h,k,o,hk=>by
   unfold Ztg at h
   split at h <;> first | (cases h; done) | skip
   rename_i h2
   cases k with
   | zero =>
     simp at hk
     subst hk
     exact h2
   | succ k =>
     have:=Zi6 h k o (by simpa using hk)
     have e:Nat.add i 1+k=i+(k+1):=by show i+1+k=_; omega
     rw [e] at this
     exact this
omit [Zac] in
theorem ZfH:∀ {l:List Oper} {i:Nat},Zh1 i l=true→∀ (k:Nat) o,l[k]?=some o→∀ e∈o.after.toList,Region.binds .any e=true→e.on<i+k
 | [],i,h,k,o,hk=>by simp at hk
 | p::l,i,h,k,o,hk=>by
   unfold Zh1 at h
   split at h <;> first | (cases h; done) | skip
   rename_i h2
   cases k with
   | zero =>
     simp at hk
     subst hk
     intro e he hb
     have:=List.all_eq_true.1 h2 e he
     simpa [hb] using this
   | succ k =>
     have:=ZfH h k o (by simpa using hk)
     intro e he hb
     have h3:=this e he hb
     have e':Nat.add i 1+k=i+(k+1):=by show i+1+k=_; omega
     omega
omit [Zac] in
theorem ZkA (h:chk ops=true){i j:Nat}{o q:Oper}(hi:ops[i]?=some o)(hj:ops[j]?=some q)(hne:i≠j)(hc:(∃ d,q.dst=some d∧d∈looks ops o)∨(Zek o=true∧Zek q=true)) :
 (j<i→ahead (bf ops) j i=true)∧(i<j→ahead (bf ops) i j=true):=by
 unfold chk at h
 rw [Bool.and_eq_true] at h
 have h1:=Zi6 h.1 i o (by simpa using hi)
 rw [Nat.zero_add] at h1
 have:=Zi7 h1 j q (by simpa using hj) (by omega) hc
 rw [Nat.zero_add] at this
 exact this
omit [Zac] in
theorem Zr0 (h:chk ops=true){i:Nat}{o:Oper}(hi:ops[i]?=some o):∀ e∈o.after.toList,Region.binds .any e=true→e.on<i:=by
 unfold chk at h
 rw [Bool.and_eq_true] at h
 intro e he hb
 have:=ZfH h.2 i o (by simpa using hi) e he hb
 omega
end
end Go.Proofs.YtfcpdlbkmkhhcaaGreatDoor.Ex
