/-
  Texts of this claim, joined. No condition.
-/
import Derived.Test.YtfcpdlbkmkhhcaaGreatDoorCn11
import Derived.Test.YtfcpdlbkmkhhcaaGreatDoorCn10
namespace Go.Proofs.YtfcpdlbkmkhhcaaGreatDoor.Ex
open Go
structure Agree (θ:Sub)(B:Bd)(N1 N2:Zac):Prop where
 v:∀ i,i<B.k→N2.σ i=(θ.vAt i).ev N1.σ
 ln:∀ i,i<B.kl→(N2.σ (ln i)).toNat=(θ.lAt i).evN N1.σ
 la:∀ i,i<B.kl→∀ e j,j<64→N2.σ (lc i e j)=(θ.lAt i).evA N1.σ e j
 o:∀ i,i<B.ko→∀ b0 b1 x,N1.Ω (θ.oAt i) b0 b1 x→N2.Ω i b0 b1 x
 ro:N2.ro=N1.ro
 rks:N2.toFc.rks=N1.toFc.rks
 globs:N2.toFc.globs=N1.toFc.globs
 rol:∀ i p,N1.ro i=some p→(N2.σ (Ex.ln i)).toNat=(N1.σ (Ex.ln i)).toNat∧∀ e,N2.σ (lc i e 0)=N1.σ (lc i e 0)
section
variable {θ:Sub}{B:Bd}{N1 N2:Zac}(ag:Agree θ B N1 N2)
include ag
end
section
variable {θ:Sub}{B:Bd}{N1 N2:Zac}{ρ1 ρ2:Ren}
end
section
variable [Zac]
variable {ρ:Ren}
theorem Zgt {a b:SE}(h:eqB a b=true):a.ev Zac.σ=b.ev Zac.σ:=by
 unfold eqB at h
 split at h <;> first | (cases h; done) | skip
 rename_i he
 exact eq_of_beq (ZbL he)
mutual
theorem AV.Zey:∀ {u v:AV} {x:Value},AV.fits u v=true→VR ρ u x→VR ρ v x:=by
 intro u v x hf h
 unfold AV.fits at hf
 split at hf
 ·unfold VR at h ⊢
  obtain ⟨a,h1,h2⟩:=h
  exact ⟨a,h1,AV.Zf4 hf h2⟩
 ·unfold VR at h ⊢
  obtain ⟨a,h1,h2⟩:=h
  exact ⟨a,h1,AV.Zf4 hf h2⟩
 ·rw [Bool.and_eq_true] at hf
  have hk:=of_decide_eq_true hf.1
  have he:=Zgt hf.2
  unfold VR at h ⊢
  rw [h,hk,← he]
  rfl
 ·rw [Bool.and_eq_true] at hf
  have hk:=of_decide_eq_true hf.1
  have he:=Zgt hf.2
  unfold VR at h ⊢
  rw [h,hk,← he]
 ·rw [Bool.and_eq_true] at hf
  have hk:=of_decide_eq_true hf.1
  have he:=Zgt hf.2
  unfold VR at h ⊢
  rw [h,hk,he]
  rfl
 ·split at hf <;> first | (cases hf; done) | skip
  rename_i q hq
  unfold VR at h ⊢
  rw [h,ZcV hq,eq_of_beq hf]
 ·split at hf <;> first | (cases hf; done) | skip
  rename_i q hq
  unfold VR at h ⊢
  rw [h,ZcV hq,eq_of_beq hf]
 ·unfold VR at h ⊢
  rw [Bool.or_eq_true] at hf
  rcases hf with hf | hf
  ·rw [Bool.and_eq_true] at hf
   rw [h,Cnd.Zav hf.1,eq_of_beq hf.2]
  ·split at hf <;> first | (cases hf; done) | skip
   rename_i q hq
   split at hf <;> first | (cases hf; done) | skip
   rename_i q' hq'
   rw [h,ZcV hq,ZcV hq',eq_of_beq hf]
 ·simp only [Bool.and_eq_true] at hf
  obtain ⟨h1,h2,h3⟩:=hf
  have h1:=Nat.eq_of_beq_eq_true h1
  have h2:=Nat.eq_of_beq_eq_true h2
  have h3:=Zgt h3
  subst h1; subst h2
  unfold VR at h ⊢
  obtain ⟨b,z,l,c,k1,k2,k3,k4,k5,k6⟩:=h
  exact ⟨b,z,l,c,k1,k2,k3,k4,k5,by rw [← h3]; exact k6⟩
 ·simp only [Bool.and_eq_true] at hf
  obtain ⟨⟨h1,h2⟩,⟨h3,h4⟩,h5⟩:=hf
  have h1:=Nat.eq_of_beq_eq_true h1
  have h2:=Nat.eq_of_beq_eq_true h2
  have h3:=Nat.eq_of_beq_eq_true h3
  have h5:=Zgt h5
  subst h1; subst h2; subst h3
  unfold VR at h ⊢
  obtain ⟨b,z,c,k1,k2,k3,k4,k5⟩:=h
  refine ⟨b,z,_,c,k1,k2,k3,k4,?_,by rw [← h5]; rfl⟩
  split at h4
  ·exact k5.2
  ·cases h4
 ·unfold VR at h ⊢
  exact ⟨none,0,h,by unfold maxLen; omega⟩
 ·cases hf
 ·have h3:=Zgt hf
  unfold VR at h ⊢
  obtain ⟨A,l,c,k1,k2,k3,k4⟩:=h
  exact ⟨A,l,c,k1,k2,k3,by rw [← h3]; exact k4⟩
 ·rw [← AV.Zav hf]
  exact h
theorem AV.Zf4:∀ {u v:List AV} {x:List Value},AV.Zex u v=true→VRs ρ u x→VRs ρ v x
 | [],[],x,_,h=>h
 | [],_::_,x,hf,h=>by simp [AV.Zex] at hf
 | _::_,[],x,hf,h=>by simp [AV.Zex] at hf
 | a::l,b::m,x,hf,h=>by
   simp only [AV.Zex,Bool.and_eq_true] at hf
   obtain ⟨y,ys,rfl,h1,h2⟩:=h.Zby
   exact VRs.cons (AV.Zey hf.1 h1) (AV.Zf4 hf.2 h2)
end
end
end Go.Proofs.YtfcpdlbkmkhhcaaGreatDoor.Ex

namespace Go.Proofs.YtfcpdlbkmkhhcaaGreatDoor.Ex
open Go
section
variable [Zac]
variable {ρ ρ':Ren}
def TR (ρ:Ren)(t:TB)(s:Nat)(x:Option Obj):Prop:=match t with
 | .cells l e=>∃ cur:Array Value,x=some (.cells cur e (0,0))∧cur.size=s∧l.length≤s∧∀ (i:Nat) v,l[i]?=some v→v.one=true∧∃ y,cur[i]?=some y∧VR ρ v y
 | .recs l ks e=>OR ρ (.recs l ks e) s x
 | .opb i n m=>OR ρ (.opb i n m) s x
theorem TR.or {t:TB}{s:Nat}{x:Option Obj}(h:TR ρ t s x):OR ρ t.ao s x:=by
 cases t with
 | cells l e =>
   obtain ⟨cur,h1,h2,h3,h4⟩:=h
   refine ⟨cur,h1,h2,h3,fun i v hv => ?_⟩
   rcases Zdx hv with ⟨_,_,h5⟩ | ⟨_,h5⟩
   ·rw [Nat.sub_zero] at h5
    exact h4 i v h5
   ·rw [T.Zed] at h5; cases h5
 | recs l ks e=>exact h
 | opb i n m=>exact h
theorem ZoI:∀ {u v:AV},AV.fits u v=true→u.one=true→v.one=true:=by
 intro u v hf h1
 cases hv:v.one with
 | true=>rfl
 | false =>
   exfalso
   unfold AV.fits at hf
   split at hf <;> first | (cases h1; done) | (cases hv; done) | skip
   rw [AV.Zav hf,hv] at h1
   cases h1
omit [Zac] in
theorem Zls {cs:T AV}(hc:∀ i v,cs.get i=some v→v.one=true):∀ {n i:Nat} {l:List AV},Zhg cs i n=some l→∀ w∈l,w.one=true
 | 0,i,l,hg,w,hw=>by simp only [Zhg,Option.some.injEq] at hg; subst hg; cases hw
 | n+1,i,l,hg,w,hw=>by
   unfold Zhg at hg
   split at hg <;> first | (cases hg; done) | skip
   rename_i w0 hw0
   split at hg <;> first | (cases hg; done) | skip
   rename_i l0 hl0
   simp only [Option.some.injEq] at hg
   subst hg
   rcases List.mem_cons.1 hw with rfl | hw
   ·exact hc _ _ hw0
   ·exact Zls hc hl0 w hw
theorem Zjh:∀ {l m:List AV} {i:Nat} {v:AV},AV.Zex l m=true→m[i]?=some v→∃ u,l[i]?=some u∧AV.fits u v=true
 | [],[],_,_,_,h=>by simp at h
 | [],_::_,_,_,hf,_=>by simp [AV.Zex] at hf
 | _::_,[],_,_,hf,_=>by simp [AV.Zex] at hf
 | a::l,b::m,i,v,hf,h=>by
   simp only [AV.Zex,Bool.and_eq_true] at hf
   cases i with
   | zero =>
     simp only [List.getElem?_cons_zero,Option.some.injEq] at h
     subst h
     exact ⟨a,rfl,hf.1⟩
   | succ i=>exact Zjh (i:=i) hf.2 (by simpa using h)
theorem ZhN {cs:T AV}{cur:Array Value}(hc:Zgh ρ cs cur):∀ {ks:List CK} {off:Nat} {r:SE},Zis cs off ks r=true→∀ (j:Nat) (k:CK),ks[j]?=some k→cur[off+j]?=some (k.val (r.evA Zac.σ 0 j))
 | [],off,r,h,j,k,hk=>by simp at hk
 | k0::ks,off,r,h,j,k,hk=>by
   cases r <;> simp only [Zis] at h <;> first | (cases h; done) | skip
   rename_i v r
   split at h <;> first | (cases h; done) | skip
   rename_i a ha
   split at h <;> first | (cases h; done) | skip
   rename_i x hx
   rw [Bool.and_eq_true] at h
   obtain ⟨_,y,hy,hr⟩:=hc _ _ ha
   cases j with
   | zero =>
     simp only [List.getElem?_cons_zero,Option.some.injEq] at hk
     subst hk
     rw [Nat.add_zero,hy,ZiG hx hr,Zgt h.1]
     simp only [SE.evA]
   | succ j =>
     have:=ZhN hc h.2 j k (by simpa using hk)
     rw [show off+(j+1)=Nat.add off 1+j from by show _=off+1+j; omega,this]
     simp only [SE.evA]
theorem ZfG {cs:T AV}{cur:Array Value}{ks:List CK}(hc:Zgh ρ cs cur):∀ {l:SE} {n:Nat},ZaZ cs ks l=some n→l.evN Zac.σ=n∧∀ (r j:Nat) (k:CK),r<n→ks[j]?=some k→cur[r * ks.length+j]?=some (k.val (l.evA Zac.σ r j))
 | .rnil,n,h=>by
   simp only [ZaZ,Option.some.injEq] at h
   subst h
   exact ⟨by simp only [SE.evN],fun r j k hr=>by omega⟩
 | .lsnoc l r,n,h=>by
   unfold ZaZ at h
   split at h <;> first | (cases h; done) | skip
   rename_i m hm
   split at h <;> first | (cases h; done) | skip
   rename_i hr
   simp only [Option.some.injEq] at h
   have h:m+1=n:=h
   subst h
   obtain ⟨h1,h2⟩:=ZfG hc hm
   refine ⟨by simp only [SE.evN,h1],fun q j k hq hk => ?_⟩
   simp only [SE.evA,h1]
   by_cases hqm:q=m
   ·subst hqm
    rw [if_pos rfl]
    exact ZhN hc hr j k hk
   ·rw [if_neg hqm]
    exact h2 q j k (by omega) hk
 | .var _,_,h=>by simp [ZaZ] at h
 | .lit _,_,h=>by simp [ZaZ] at h
 | .bin _ _ _,_,h=>by simp [ZaZ] at h
 | .ubin _ _ _,_,h=>by simp [ZaZ] at h
 | .cv _ _,_,h=>by simp [ZaZ] at h
 | .lvar _,_,h=>by simp [ZaZ] at h
 | .lset _ _ _ _,_,h=>by simp [ZaZ] at h
 | .rcons _ _,_,h=>by simp [ZaZ] at h
 | .at _ _ _,_,h=>by simp [ZaZ] at h
 | .len _,_,h=>by simp [ZaZ] at h
omit [Zac] in
theorem CK.ZcW:∀ {a b:List CK},CK.ZiM a b=true→a=b
 | [],[],_=>rfl
 | [],_::_,h=>by simp [CK.ZiM] at h
 | _::_,[],h=>by simp [CK.ZiM] at h
 | a::l,b::m,h=>by
   simp only [CK.ZiM,Bool.and_eq_true] at h
   have h1:a=b:=by
    have:=h.1
    cases a <;> cases b <;> simp [CK.beq] at this <;> first | rfl | rw [this]
   rw [h1,CK.ZcW h.2]
theorem TB.Zey {o:AO}{t:TB}{s:Nat}{x:Option Obj}(hf:TB.fits o t=true)(h:OR ρ o s x):TR ρ t s x:=by
 unfold TB.fits at hf
 split at hf
 ·simp only [Bool.and_eq_true] at hf
  obtain ⟨h1,h2,h3⟩:=hf
  have h1:=Nat.eq_of_beq_eq_true h1
  subst h1
  have h2:=Nat.le_of_ble_eq_true h2
  split at h3 <;> first | (cases h3; done) | skip
  rename_i l' hl
  obtain ⟨cur,k1,k2,k3,k4⟩:=h
  obtain ⟨ys,_,hrs,hat,_⟩:=Zcr (ρ:=ρ) k4 hl
  refine ⟨cur,k1,k2,by omega,fun i v hv => ?_⟩
  obtain ⟨u,hu,huf⟩:=Zjh h3 hv
  obtain ⟨y,hy,hyr⟩:=hrs.get hu
  have hy2:=hat i y hy
  rw [Nat.zero_add] at hy2
  refine ⟨?_,y,hy2,AV.Zey huf hyr⟩
  exact ZoI huf (Zls (fun i v h=>(k4 i v h).1) hl u (List.mem_of_getElem? hu))
 ·simp only [Bool.and_eq_true] at hf
  obtain ⟨h1,h3⟩:=hf
  have h1:=Nat.eq_of_beq_eq_true h1
  subst h1
  split at h3 <;> first | (cases h3; done) | skip
  rename_i n hn
  have h3:=Nat.le_of_ble_eq_true h3
  obtain ⟨cur,k1,k2,k3,k4⟩:=h
  obtain ⟨c1,c2⟩:=ZfG (ρ:=ρ) k4 hn
  refine ⟨cur,k1,k2,?_,fun r j k hr hk=>c2 r j k (by omega) hk⟩
  rw [c1]
  exact Nat.le_trans h3 k3
 ·simp only [Bool.and_eq_true] at hf
  obtain ⟨h1,h2,h3⟩:=hf
  have h1:=Nat.eq_of_beq_eq_true h1
  have h2:=SE.Zav h2
  have h3:=CK.ZcW h3
  subst h1; subst h2; subst h3
  exact h
 ·simp only [Bool.and_eq_true] at hf
  obtain ⟨h1,h2,h3⟩:=hf
  have h1:=Nat.eq_of_beq_eq_true h1
  have h2:=Nat.eq_of_beq_eq_true h2
  have h3:=Nat.eq_of_beq_eq_true h3
  subst h1; subst h2; subst h3
  exact h
 ·cases hf
end
theorem AV.Zoe (θ:Sub)(v:AV):(v.sub θ).one=v.one:=by cases v <;> simp [AV.sub,AV.one]
theorem AV.ZiE (θ:Sub):∀ {l:List AV} {i:Nat} {v:AV},l[i]?=some v→(AV.subs θ l)[i]?=some (v.sub θ)
 | [],_,_,h=>by simp at h
 | a::l,i,v,h=>by
   unfold AV.subs
   cases i with
   | zero=>simp only [List.getElem?_cons_zero,Option.some.injEq] at h ⊢; rw [h]
   | succ i=>simpa using AV.ZiE θ (i:=i) (l:=l) (by simpa using h)
theorem AV.Zge (θ:Sub):∀ l:List AV,(AV.subs θ l).length=l.length
 | []=>by unfold AV.subs; rfl
 | a::l=>by unfold AV.subs; simp [AV.Zge θ l]
section
variable {θ:Sub}{B:Bd}{N1 N2:Zac}(ag:Agree θ B N1 N2){ρ1 ρ2:Ren}(hρ:∀ n,n<B.kn→ρ2 n=ρ1 (θ.nAt n))
include ag hρ
end
theorem Zjn:∀ {l:List (Nat×TB)} {n:Nat} {o:AO},(heapT l).get n=some o→∃ t,(n,t)∈l∧o=t.ao
 | [],n,o,h=>by unfold heapT at h; rw [T.Zed] at h; cases h
 | (n',t')::l,n,o,h=>by
   unfold heapT at h
   rcases T.get_put h with ⟨rfl,h1⟩ | ⟨_,h1⟩
   ·cases h1; exact ⟨_,List.mem_cons_self,rfl⟩
   ·obtain ⟨t,h2,h3⟩:=Zjn h1
    exact ⟨t,List.mem_cons_of_mem _ h2,h3⟩
theorem ZgV {θ:Sub}{n:Nat}:∀ {l:List (Nat×TB)},Zo6 θ n l=true→∀ p∈l,θ.nAt p.1≠n
 | [],_,_,h=>by cases h
 | (m,o)::l,hf,p,h=>by
   unfold Zo6 at hf
   split at hf <;> first | (cases hf; done) | skip
   rename_i hb
   rcases List.mem_cons.1 h with rfl | h
   ·exact Nat.ne_of_beq_eq_false hb
   ·exact ZgV hf p h
theorem Zh5 [Fc]{θ:Sub}{h:AH}:∀ {l:List (Nat×TB)},ZoH θ h l=true→(∀ p∈l,∃ a,h.get (θ.nAt p.1)=some a∧TB.fits a (p.2.sub θ)=true)∧∀ p∈l,∀ q∈l,θ.nAt p.1=θ.nAt q.1→p=q
 | [],_=>⟨(fun p h=>by cases h),(fun p h=>by cases h)⟩
 | (n,o)::l,hf=>by
   unfold ZoH at hf
   split at hf <;> first | (cases hf; done) | skip
   rename_i a ha
   rw [Bool.and_eq_true,Bool.and_eq_true] at hf
   obtain ⟨h1,h2,h3⟩:=hf
   have h2:=ZgV h2
   obtain ⟨h4,h5⟩:=Zh5 h3
   refine ⟨fun p hp => ?_,fun p hp q hq he => ?_⟩
   ·rcases List.mem_cons.1 hp with rfl | hp
    ·exact ⟨a,ha,h1⟩
    ·exact h4 p hp
   ·rcases List.mem_cons.1 hp with rfl | hp <;> rcases List.mem_cons.1 hq with rfl | hq
    ·rfl
    ·exact absurd he.symm (h2 q hq)
    ·exact absurd he (h2 p hp)
    ·exact h5 p hp q hq he
end Go.Proofs.YtfcpdlbkmkhhcaaGreatDoor.Ex

namespace Go.Proofs.YtfcpdlbkmkhhcaaGreatDoor.Ex
open Go
section
variable [Zac]
variable {P:Program}
def ZiS (P:Program)(k:Kc):Prop:=(∀ c∈k.conds,c.1.ev Zac.σ=c.2)→ZiQ P k.f∧∀ (ρ:Ren) (h h':AH) (w:World) (args':Array Value) (v:AV),k.at h=some (v,h')→HR ρ h.get h.next w→VRs ρ k.args args'.toList →
 Calls P k.f args' w fun e w'=>∃ ρ' x,e = .returned x∧VR ρ' v x∧Stp ρ h.get h.next w ρ' h'.get h'.next w'
theorem Zlz {f:FuncId}{args:List AV}{h h':AH}{v:AV}:∀ {l:List Kc},ZpJ f args h l=some (v,h')→∃ k∈l,k.f=f∧AV.Zex args k.args=true∧(∀ c∈k.conds,c.1.ev Zac.σ=c.2)∧k.at h=some (v,h')
 | [],hk=>by cases hk
 | k::l,hk=>by
   have hrest:ZpJ f args h l=some (v,h')→∃ k'∈k::l,k'.f=f∧AV.Zex args k'.args=true∧(∀ c∈k'.conds,c.1.ev Zac.σ=c.2)∧k'.at h=some (v,h'):=fun hl=>by
    obtain ⟨k',h1,h2⟩:=Zlz hl
    exact ⟨k',List.mem_cons_of_mem _ h1,h2⟩
   unfold ZpJ at hk
   split at hk
   ·exact hrest hk
   ·rename_i hf
    split at hk
    ·exact hrest hk
    ·rename_i ha
     split at hk
     ·exact hrest hk
     ·rename_i hc
      split at hk
      ·rename_i r he
       simp only [Option.some.injEq] at hk
       subst hk
       exact ⟨k,List.mem_cons_self,Nat.eq_of_beq_eq_true hf,ha,Zdk hc,he⟩
      ·exact hrest hk
theorem Zgo (hm:P.follows .mixedOrders=true){kx:AH→Kg}(hk:∀ h args,∀ k∈kx h args,ZiS P k):∀ n,Zhh P (ZmX P kx n)
 | 0=>fun f args h v h' he=>by simp [ZmX] at he
 | n+1=>fun f args h v h' he=>by
   unfold ZmX at he
   split at he
   ·rename_i r hkc
    simp only [Option.some.injEq] at he
    subst he
    obtain ⟨k,hmem,rfl,hargsf,hcs,hat⟩:=Zlz hkc
    obtain ⟨h1,h2⟩:=hk _ _ k hmem hcs
    exact ⟨h1,fun ρ w args' hH hargs=>h2 ρ _ _ w args' _ hat hH (AV.Zf4 hargsf hargs)⟩
   split at he <;> first | (cases he; done) | skip
   rename_i fn hf
   split at he <;> first | (cases he; done) | skip
   rename_i hname
   split at he <;> first | (cases he; done) | skip
   rename_i c hb
   split at he <;> first | (cases he; done) | skip
   rename_i hle
   rw [Bool.and_eq_true] at hle
   have hle:=Nat.le_of_ble_eq_true hle.1
   refine ⟨⟨fn,c,hf,hname,hb⟩,fun ρ w args' hH hargs => ?_⟩
   have hal:args.length=args'.size:=by simpa using hargs.len
   have hE:ER ρ (Zh3 0 args .e) fn.ntmps { tmps:=args'++Array.replicate (fn.ntmps - args'.size) undef,defers:=[] }:=by
    refine ⟨rfl,by simp; omega,fun t v hv => ?_⟩
    rcases ZeZ hv with ⟨_,h1⟩ | h1
    ·rw [Nat.sub_zero] at h1
     obtain ⟨x,hx,hr⟩:=hargs.get h1
     refine ⟨x,?_,hr⟩
     have hlt:=(List.getElem?_eq_some_iff.1 hx).1
     rw [Array.getElem?_append_left (by simpa using hlt)]
     simpa using hx
    ·rw [T.Zed] at h1; cases h1
   split at he <;> first | (cases he; done) | skip
   rename_i x env' h1 hno hx
   split at he <;> first | (cases he; done) | skip
   rename_i vs hvs
   simp only [Option.some.injEq,Prod.mk.injEq] at he
   obtain ⟨rfl,rfl⟩:=he
   refine calls_of_wp hf hb (wp_mono (Zb5 hm (Zgo hm hk n) c _ _ _ _ _ hx ρ w _ hE hH) ?_)
   rintro e a1 w1 ⟨rfl,ρ1,hst,hE1⟩
   obtain ⟨y,hy,hrun⟩:=Zdw (fn:=fn) hst.hr hE1 hvs
   cases x with
   | exit id=>exact absurd rfl (hno id)
   | normal=>exact ⟨hE1.dz,y,hrun,ρ1,y,rfl,hy,hst⟩
   | ret=>exact ⟨hE1.dz,y,hrun,ρ1,y,rfl,hy,hst⟩
variable {call:FuncId→List AV→AH→Option (AV×AH)}{nt:Nat}
def ZtS (P:Program)(nt:Nat)(c:Code)(l:Ln):Prop:=∀ env h x env' h',l.at env h=some (x,env',h')→∀ (ρ:Ren) w a,ER ρ env nt a→HR ρ h.get h.next w→(Code.loop c).wp P (ZmI nt ρ h w x env' h') a w
omit [Zac] in
theorem Zih [Fc]{i:Nat}{env:T AV}{h:AH}{r:AX×T AV×AH}:∀ {l:List Ln},ZsI i env h l=some r→∃ x∈l,x.key=i∧x.at env h=some r
 | [],he=>by cases he
 | x::l,he=>by
   unfold ZsI at he
   split at he
   ·rename_i hb
    split at he
    ·rename_i q hq
     simp only [Option.some.injEq] at he
     subst he
     exact ⟨x,List.mem_cons_self,Nat.eq_of_beq_eq_true hb,hq⟩
    ·obtain ⟨y,h1,h2⟩:=Zih he
     exact ⟨y,List.mem_cons_of_mem _ h1,h2⟩
   ·obtain ⟨y,h1,h2⟩:=Zih he
    exact ⟨y,List.mem_cons_of_mem _ h1,h2⟩
theorem Zbs (hm:P.follows .mixedOrders=true)(hc:Zhh P call){lns:List Ln}{L:List Code}(hln:∀ c∈L,∀ l∈lns,Zem c=some l.key→ZtS P nt c l):∀ (c:Code) env h x env' h',(∀ d∈ZaW c,d∈L)→Zcf P call nt lns c env h=some (x,env',h')→∀ (ρ:Ren) w a,ER ρ env nt a→HR ρ h.get h.next w→c.wp P (ZmI nt ρ h w x env' h') a w
 | .skip,env,h,x,env',h',_,he,ρ,w,a,hE,hH=>by
   simp only [Zcf,Option.some.injEq,Prod.mk.injEq] at he
   obtain ⟨rfl,rfl,rfl⟩:=he
   exact wp_skip ⟨rfl,ρ,Stp.refl hH,hE⟩
 | .label l,env,h,x,env',h',_,he,ρ,w,a,hE,hH=>by
   simp only [Zcf,Option.some.injEq,Prod.mk.injEq] at he
   obtain ⟨rfl,rfl,rfl⟩:=he
   exact wp_label ⟨rfl,ρ,Stp.refl hH,hE⟩
 | .region id ops false,env,h,x,env',h',_,he,ρ,w,a,hE,hH=>by
   unfold Zcf at he
   split at he <;> first | (cases he; done) | skip
   rename_i env1 h1 hr
   simp only [Option.some.injEq,Prod.mk.injEq] at he
   obtain ⟨rfl,rfl,rfl⟩:=he
   exact wp_region_list (Ziu hc _ _ _ _ _ ρ w a hr hE hH fun ρ' w' a' hst hE'=>⟨rfl,ρ',hst,hE'⟩)
 | .region id ops true,env,h,x,env',h',_,he,ρ,w,a,hE,hH=>by
   unfold Zcf at he
   split at he <;> first | (cases he; done) | skip
   rename_i env1 h1 hr
   simp only [Option.some.injEq,Prod.mk.injEq] at he
   obtain ⟨rfl,rfl,rfl⟩:=he
   exact wp_region_any hm (ZlU hc hr hE (hH.drew _) fun ρ' w' a' hst hE'=>⟨rfl,ρ',hst.drew,hE'⟩)
 | .seq c d,env,h,x,env',h',hL,he,ρ,w,a,hE,hH=>by
   have hL1:∀ q∈ZaW c,q∈L:=fun q hq=>hL q (by unfold ZaW; exact List.mem_append_left _ hq)
   have hL2:∀ q∈ZaW d,q∈L:=fun q hq=>hL q (by unfold ZaW; exact List.mem_append_right _ hq)
   unfold Zcf at he
   split at he
   ·rename_i env1 h1 hx
    refine wp_seq (wp_mono (Zbs hm hc hln c _ _ _ _ _ hL1 hx ρ w a hE hH) ?_)
    rintro e a1 w1 ⟨rfl,ρ1,hst,hE1⟩
    refine wp_mono (Zbs hm hc hln d _ _ _ _ _ hL2 he ρ1 w1 a1 hE1 hst.hr) ?_
    rintro e a2 w2 ⟨rfl,ρ2,hst2,hE2⟩
    exact ⟨rfl,ρ2,hst.trans hst2,hE2⟩
   ·rename_i hno
    refine wp_seq (wp_mono (Zbs hm hc hln c _ _ _ _ _ hL1 he ρ w a hE hH) ?_)
    rintro e a1 w1 ⟨rfl,hq⟩
    exact Zoi (fun hx=>by subst hx; exact absurd he (hno _ _)) (fun _=>⟨rfl,hq⟩)
 | .cond c d e,env,h,x,env',h',hL,he,ρ,w,a,hE,hH=>by
   have hL1:∀ q∈ZaW d,q∈L:=fun q hq=>hL q (by unfold ZaW; exact List.mem_append_left _ hq)
   have hL2:∀ q∈ZaW e,q∈L:=fun q hq=>hL q (by unfold ZaW; exact List.mem_append_right _ hq)
   unfold Zcf at he
   have hev:∀ b,ev env c=some (.bool b)→a.eval c = .bool b:=by
    intro b hb
    have:=ZdN (ρ:=ρ) (a:=a) (l:=[c]) (vs:=[.bool b]) (fun t v _ hv=>hE.val t v hv) (by simp [evs,hb])
    obtain ⟨y,hy,hr⟩:=this.one
    simp at hy
    unfold VR at hr
    rw [hy,hr]
   have hevs:∀ q p,ev env c=some (.ZdH q p)→a.eval c = .bool (q.ev Zac.σ==p):=by
    intro q p hb
    have:=ZdN (ρ:=ρ) (a:=a) (l:=[c]) (vs:=[.ZdH q p]) (fun t v _ hv=>hE.val t v hv) (by simp [evs,hb])
    obtain ⟨y,hy,hr⟩:=this.one
    simp at hy
    unfold VR at hr
    rw [hy,hr]
   split at he
   ·rename_i hb
    exact wp_cond_true (hev _ hb) (Zbs hm hc hln d _ _ _ _ _ hL1 he ρ w a hE hH)
   ·rename_i hb
    exact wp_cond_false (hev _ hb) (Zbs hm hc hln e _ _ _ _ _ hL2 he ρ w a hE hH)
   ·rename_i q p hb
    split at he <;> first | (cases he; done) | skip
    rename_i r hr
    have hb:=hevs _ _ hb
    rw [ZcV hr] at hb
    split at he
    ·rename_i hrp
     rw [hrp] at hb
     exact wp_cond_true hb (Zbs hm hc hln d _ _ _ _ _ hL1 he ρ w a hE hH)
    ·rename_i hrp
     rw [hrp] at hb
     exact wp_cond_false hb (Zbs hm hc hln e _ _ _ _ _ hL2 he ρ w a hE hH)
   ·cases he
 | .block id c,env,h,x,env',h',hL,he,ρ,w,a,hE,hH=>by
   have hL1:∀ q∈ZaW c,q∈L:=fun q hq=>hL q (by unfold ZaW; exact hq)
   unfold Zcf at he
   split at he
   ·rename_i j env1 h1 hx
    refine wp_block (wp_mono (Zbs hm hc hln c _ _ _ _ _ hL1 hx ρ w a hE hH) ?_)
    rintro e a1 w1 ⟨rfl,ρ1,hst,hE1⟩
    split at he
    ·rename_i hj
     have hj:=Nat.eq_of_beq_eq_true hj
     simp only [Option.some.injEq,Prod.mk.injEq] at he
     obtain ⟨rfl,rfl,rfl⟩:=he
     show (if j=id then _ else _)
     rw [if_pos hj]
     exact ⟨rfl,ρ1,hst,hE1⟩
    ·rename_i hj
     simp only [Option.some.injEq,Prod.mk.injEq] at he
     obtain ⟨rfl,rfl,rfl⟩:=he
     show (if j=id then _ else _)
     rw [if_neg (fun hji=>by subst hji; simp at hj)]
     exact ⟨rfl,ρ1,hst,hE1⟩
   ·rename_i hno
    refine wp_block (wp_mono (Zbs hm hc hln c _ _ _ _ _ hL1 he ρ w a hE hH) ?_)
    rintro e a1 w1 ⟨rfl,hq⟩
    cases x with
    | normal=>exact ⟨rfl,hq⟩
    | exit j=>exact absurd he (hno _ _ _)
    | ret=>exact ⟨rfl,hq⟩
 | .loop c,env,h,x,env',h',hL,he,ρ,w,a,hE,hH=>by
   have hL0:c∈L:=hL c (by unfold ZaW; exact List.mem_cons_self)
   have hL1:∀ q∈ZaW c,q∈L:=fun q hq=>hL q (by unfold ZaW; exact List.mem_cons_of_mem _ hq)
   unfold Zcf ZtZ at he
   split at he
   ·rename_i i hi
    split at he
    ·rename_i r hr
     simp only [Option.some.injEq] at he
     subst he
     obtain ⟨l,hl,hk,hat⟩:=Zih hr
     exact hln c hL0 l hl (by rw [hi,hk]) _ _ _ _ _ hat ρ w a hE hH
    ·split at he
     ·exact wp_loop_rounds 3 (ZgJ (fun env h x env' h'=>Zbs hm hc hln c env h x env' h' hL1) 3 _ _ _ _ _ he ρ w a hE hH)
     ·exact wp_loop_rounds 100000 (ZgJ (fun env h x env' h'=>Zbs hm hc hln c env h x env' h' hL1) 100000 _ _ _ _ _ he ρ w a hE hH)
   ·exact wp_loop_rounds 100000 (ZgJ (fun env h x env' h'=>Zbs hm hc hln c env h x env' h' hL1) 100000 _ _ _ _ _ he ρ w a hE hH)
 | .scope c,env,h,x,env',h',hL,he,ρ,w,a,hE,hH=>by
   have hL1:∀ q∈ZaW c,q∈L:=fun q hq=>hL q (by unfold ZaW; exact hq)
   unfold Zcf at he
   refine wp_scope_straight (wp_mono (Zbs hm hc hln c _ _ _ _ _ hL1 he ρ w a hE hH) ?_)
   rintro e a1 w1 ⟨rfl,hq⟩
   cases x <;> exact ⟨rfl,hq⟩
 | .exit id,env,h,x,env',h',_,he,ρ,w,a,hE,hH=>by
   simp only [Zcf,Option.some.injEq,Prod.mk.injEq] at he
   obtain ⟨rfl,rfl,rfl⟩:=he
   exact wp_exit ⟨rfl,ρ,Stp.refl hH,hE⟩
 | .ret,env,h,x,env',h',_,he,ρ,w,a,hE,hH=>by
   simp only [Zcf,Option.some.injEq,Prod.mk.injEq] at he
   obtain ⟨rfl,rfl,rfl⟩:=he
   exact wp_ret ⟨rfl,ρ,Stp.refl hH,hE⟩
 | .goto _,_,_,_,_,_,_,he,_,_,_,_,_=>by simp [Zcf] at he
 | .rangeFunc _ _ _ _,_,_,_,_,_,_,he,_,_,_,_,_=>by simp [Zcf] at he
 | .refuse _,_,_,_,_,_,_,he,_,_,_,_,_=>by simp [Zcf] at he
end
end Go.Proofs.YtfcpdlbkmkhhcaaGreatDoor.Ex

namespace Go.Proofs.YtfcpdlbkmkhhcaaGreatDoor.Ex
open Go
structure Frm (ρ0:Ren)(g0:Nat→Option AO)(w0:World)(ρ:Ren)(g:Nat→Option AO)(w:World):Prop where
 os:w.os=w0.os
 tape:w.tape=w0.tape
 output:w.output=w0.output
 size:w0.heap.size≤w.heap.size
 block:∀ b,b<w0.heap.size→(∀ n s,(g0 n).isSome=true→ρ0 n≠some (b,s))→w.heap[b]?=w0.heap[b]?
 live:∀ n b s,(g n).isSome=true→ρ n=some (b,s)→w0.heap.size≤b∨∃ m s',(g0 m).isSome=true∧ρ0 m=some (b,s')
section
variable {P:Program}(gs:List (Nat×List Int))(rks:List (Nat×CK))(ro:Nat→Option (Option Addr×Nat×Nat))
@[reducible] def nums (σ:Nat→Int) (Ω:Nat→Nat→Nat→Obj→Prop) (fs:List (Cnd×Bool)) (ok:∀ f∈fs,f.1.ev σ=f.2):Zac:={ facts:=fs,globs:=gs,rks:=rks,σ:=σ,Ω:=Ω,ro:=ro,ok:=ok }
def Zl1 (P:Program)(σ:Nat→Int)(Ω:Nat→Nat→Nat→Obj→Prop)(kcs:Kg):Prop:=∀ fs (ok:∀ f∈fs,f.1.ev σ=f.2),∀ args,∀ k∈kcs args,@ZiS (nums gs rks ro σ Ω fs ok) P k
def Zrx (P:Program)(f:FuncId)(σ:Nat→Int)(Ω:Nat→Nat→Nat→Obj→Prop)(lns:List Ln):Prop:=∀ fs (ok:∀ f∈fs,f.1.ev σ=f.2),∀ c∈ZaW (ZmW P f),∀ l∈lns,Zem c=some l.key→@ZtS (nums gs rks ro σ Ω fs ok) P (ZtB P f) c l
section
variable {gs:List (Nat×List Int)}{rks:List (Nat×CK)}{ro:Nat→Option (Option Addr×Nat×Nat)}{σ:Nat→Int}{Ω:Nat→Nat→Nat→Obj→Prop}{f1 f2:List (Cnd×Bool)}{k1:∀ f∈f1,f.1.ev σ=f.2}{k2:∀ f∈f2,f.1.ev σ=f.2}{ρ:Ren}
mutual
theorem VR.fac:∀ {v:AV} {x:Value},@VR (nums gs rks ro σ Ω f1 k1) ρ v x→@VR (nums gs rks ro σ Ω f2 k2) ρ v x
 | .fn f a b,x,h=>by
   unfold VR at h ⊢
   obtain ⟨q,r,h1,h2,h3⟩:=h
   exact ⟨q,r,h1,VRs.fac h2,VRs.fac h3⟩
 | .ifc t v,x,h=>by
   unfold VR at h ⊢
   obtain ⟨y,h1,h2⟩:=h
   exact ⟨y,h1,VR.fac h2⟩
 | .agg l,x,h=>by
   unfold VR at h ⊢
   obtain ⟨y,h1,h2⟩:=h
   exact ⟨y,h1,VRs.fac h2⟩
 | .tup l,x,h=>by
   unfold VR at h ⊢
   obtain ⟨y,h1,h2⟩:=h
   exact ⟨y,h1,VRs.fac h2⟩
 | .ptr n _,x,h=>by unfold VR at h ⊢; exact h
 | .eptr n _ _ _,x,h=>by unfold VR at h ⊢; exact h
 | .dsl n _ _,x,h=>by unfold VR at h ⊢; exact h
 | .ssl n _ _ _,x,h=>by unfold VR at h ⊢; exact h
 | .sl n _ _ _ _,x,h=>by unfold VR at h ⊢; exact h
 | .map n,x,h=>by unfold VR at h ⊢; exact h
 | .sym _ _,x,h=>by unfold VR at h ⊢; exact h
 | .ZdH _ _,x,h=>by unfold VR at h ⊢; exact h
 | .rptr _ _,x,h=>by unfold VR at h ⊢; exact h
 | .bool _,x,h=>by unfold VR at h ⊢; exact h
 | .int _ _,x,h=>by unfold VR at h ⊢; exact h
 | .str _,x,h=>by unfold VR at h ⊢; exact h
 | .nilp,x,h=>by unfold VR at h ⊢; exact h
 | .gptr _ _,x,h=>by unfold VR at h ⊢; exact h
 | .nilsl,x,h=>by unfold VR at h ⊢; exact h
 | .esl _,x,h=>by unfold VR at h ⊢; exact h
 | .zsl,x,h=>by unfold VR at h ⊢; exact h
 | .osl _,x,h=>by unfold VR at h ⊢; exact h
 | .rsl _,x,h=>by unfold VR at h ⊢; exact h
 | .nilmap,x,h=>by unfold VR at h ⊢; exact h
 | .nilfn,x,h=>by unfold VR at h ⊢; exact h
 | .nilif,x,h=>by unfold VR at h ⊢; exact h
theorem VRs.fac:∀ {l:List AV} {m:List Value},@VRs (nums gs rks ro σ Ω f1 k1) ρ l m→@VRs (nums gs rks ro σ Ω f2 k2) ρ l m
 | [],m,h=>by unfold VRs at h ⊢; exact h
 | v::l,m,h=>by
   unfold VRs at h ⊢
   obtain ⟨y,ys,h1,h2,h3⟩:=h
   exact ⟨y,ys,h1,VR.fac h2,VRs.fac h3⟩
end
theorem MR.fac:∀ {l:List (AV×AV)} {m:List MapEntry},@MR (nums gs rks ro σ Ω f1 k1) ρ l m→@MR (nums gs rks ro σ Ω f2 k2) ρ l m
 | [],m,h=>h
 | p::l,m,h=>by
   obtain ⟨e,es,h1,h2,h3,h4⟩:=h
   exact ⟨e,es,h1,VR.fac h2,VR.fac h3,MR.fac h4⟩
theorem OR.fac {o:AO}{s:Nat}{x:Option Obj}(h:@OR (nums gs rks ro σ Ω f1 k1) ρ o s x):@OR (nums gs rks ro σ Ω f2 k2) ρ o s x:=by
 cases o with
 | cells cs k e =>
   obtain ⟨cur,h1,h2,h3,h4⟩:=h
   exact ⟨cur,h1,h2,h3,fun i v hv=>by
    obtain ⟨ho,y,hy,hr⟩:=h4 i v hv
    exact ⟨ho,y,hy,VR.fac hr⟩⟩
 | map es bs ck =>
   obtain ⟨xs,h1,h2,h3⟩:=h
   exact ⟨xs,h1,MR.fac h2,h3⟩
 | mit m since seen last =>
   cases m with
   | none=>exact h
   | some m=>exact h
 | opq i=>exact h
 | opb i n m=>exact h
 | recs l ks e=>exact h
theorem HR.fac {g:Nat→Option AO}{nx:Nat}{w:World}(h:@HR (nums gs rks ro σ Ω f1 k1) ρ g nx w):@HR (nums gs rks ro σ Ω f2 k2) ρ g nx w:=by
 have h1:=@HR.fresh (nums gs rks ro σ Ω f1 k1) _ _ _ _ h
 have h2:=@HR.obj (nums gs rks ro σ Ω f1 k1) _ _ _ _ h
 have h3:=@HR.inj (nums gs rks ro σ Ω f1 k1) _ _ _ _ h
 have h4:=@HR.gl (nums gs rks ro σ Ω f1 k1) _ _ _ _ h
 have h5:=@HR.gn (nums gs rks ro σ Ω f1 k1) _ _ _ _ h
 have h6:=@HR.rl (nums gs rks ro σ Ω f1 k1) _ _ _ _ h
 have h7:=@HR.rn (nums gs rks ro σ Ω f1 k1) _ _ _ _ h
 refine @HR.mk (nums gs rks ro σ Ω f2 k2) _ _ _ _ h1 (fun n o ho => ?_) h3 h4 h5 h6 h7
 obtain ⟨b,s,hp,hO⟩:=h2 n o ho
 exact ⟨b,s,hp,OR.fac hO⟩
end
def Ztf (σ:Nat→Int)(K:AV→List (Nat×TB)→Prop):CT→Prop
 | .is v p=>K v p
 | .bad=>False
 | .node c t e=>(c.ev σ=true→Ztf σ K t)∧(c.ev σ=false→Ztf σ K e)
theorem Zm3 {σ:Nat→Int}{fs:List (Cnd×Bool)}(ok:∀ f∈fs,f.1.ev σ=f.2){c:Cnd}{b:Bool}(h:c.ev σ=b):∀ f∈(c,b)::fs,f.1.ev σ=f.2:=fun f hf=>by
 rcases List.mem_cons.1 hf with rfl | hf
 ·exact h
 ·exact ok f hf
end
end Go.Proofs.YtfcpdlbkmkhhcaaGreatDoor.Ex
