/-
  Texts of this claim, joined. No condition.
-/
import Derived.Test.YtfcpdlbkmkhhcaaGreatDoorCh1
import Derived.Test.YtfcpdlbkmkhhcaaGreatDoorCh10
import Derived.Test.YtfcpdlbkmkhhcaaGreatDoorCh9
namespace Go.Proofs.YtfcpdlbkmkhhcaaGreatDoor
set_option maxRecDepth 100000
set_option maxHeartbeats 40000000
namespace Ex
open Go
structure Agree (θ:Sub)(B:Bd)(N1 N2:au):Prop where
 v:∀ i,i<B.k→N2.σ i=(θ.vAt i).ev N1.σ
 ln:∀ i,i<B.kl→(N2.σ (ln i)).toNat=(θ.Xd i).iR N1.σ
 la:∀ i,i<B.kl→∀ e j,j<64→N2.σ (lc i e j)=(θ.Xd i).jd N1.σ e j
 o:∀ i,i<B.ko→∀ b0 b1 x,N1.Ω (θ.oAt i) b0 b1 x→N2.Ω i b0 b1 x
 ro:N2.ro=N1.ro
 dY:N2.toFc.dY=N1.toFc.dY
 fU:N2.toFc.fU=N1.toFc.fU
 rol:∀ i p,N1.ro i=some p→(N2.σ (Ex.ln i)).toNat=(N1.σ (Ex.ln i)).toNat∧∀ e,N2.σ (lc i e 0)=N1.σ (lc i e 0)
section
variable {θ:Sub}{B:Bd}{N1 N2:au}(ag:Agree θ B N1 N2)
include ag
end
section
variable {θ:Sub}{B:Bd}{N1 N2:au}{ρ1 ρ2:Ren}
end
section
variable [au]
variable {ρ:Ren}
theorem Gy {a b:SE}(h:DL a b=true):a.ev au.σ=b.ev au.σ:=by
 unfold DL at h;split at h<;>try(cases h;done)
 rename_i he;exact eq_of_beq (yg he)
mutual
theorem AV.Gr:∀ {u v:AV} {x:Value},AV.fits u v=true→VR ρ u x→VR ρ v x:=by
 intro u v x hf h;unfold AV.fits at hf;split at hf
 ·unfold VR at h ⊢
  obtain⟨a,h1,h2⟩:=h;exact⟨a,h1,AV.PC hf h2⟩
 ·unfold VR at h ⊢
  obtain⟨a,h1,h2⟩:=h;exact⟨a,h1,AV.PC hf h2⟩
 ·rw[Zxu]at hf
  have hk:=Zx6 hf.1;have he:=Gy hf.2;unfold VR at h ⊢;rw[h,hk,← he];rfl
 ·rw[Zxu]at hf
  have hk:=Zx6 hf.1;have he:=Gy hf.2;unfold VR at h ⊢;rw[h,hk,← he]
 ·rw[Zxu]at hf
  have hk:=Zx6 hf.1;have he:=Gy hf.2;unfold VR at h ⊢;rw[h,hk,he];rfl
 ·split at hf<;>try(cases hf;done)
  rename_i q hq;unfold VR at h ⊢;rw[h,BA hq,eq_of_beq hf]
 ·split at hf<;>try(cases hf;done)
  rename_i q hq;unfold VR at h ⊢;rw[h,BA hq,eq_of_beq hf]
 ·unfold VR at h ⊢
  rw[Bool.or_eq_true]at hf;rcases hf with hf|hf
  ·rw[Zxu]at hf
   rw[h,dB.gm hf.1,eq_of_beq hf.2]
  ·split at hf<;>try(cases hf;done)
   rename_i q hq;split at hf<;>try(cases hf;done)
   rename_i q' WH;rw[h,BA hq,BA WH,eq_of_beq hf]
 ·simp only[Zxu]at hf
  obtain⟨h1,h2,h3⟩:=hf;have h1:=Zxq h1;have h2:=Zxq h2;have h3:=Gy h3;subst h1;subst h2;unfold VR at h ⊢;obtain⟨b,z,l,c,k1,k2,k3,k4,k5,k6⟩:=h;exact⟨b,z,l,c,k1,k2,k3,k4,k5,by rw[← h3];exact k6⟩
 ·simp only[Zxu]at hf
  obtain⟨⟨h1,h2⟩,⟨h3,h4⟩,h5⟩:=hf;have h1:=Zxq h1;have h2:=Zxq h2;have h3:=Zxq h3;have h5:=Gy h5;subst h1;subst h2;subst h3;unfold VR at h ⊢;obtain⟨b,z,c,k1,k2,k3,k4,k5⟩:=h;refine⟨b,z,_,c,k1,k2,k3,k4,?_,by rw[← h5];rfl⟩;split at h4
  ·exact k5.2
  ·cases h4
 ·unfold VR at h ⊢
  exact⟨none,0,h,by unfold maxLen;omega⟩
 ·cases hf
 ·have h3:=Gy hf
  unfold VR at h ⊢;obtain⟨A,l,c,k1,k2,k3,k4⟩:=h;exact⟨A,l,c,k1,k2,k3,by rw[← h3];exact k4⟩
 ·rw[← AV.gm hf]
  exact h
theorem AV.PC:∀ {u v:List AV} {x:List Value},AV.uz u v=true→aH ρ u x→aH ρ v x
 |[],[],x,_,h=>h
 |[],_::_,x,hf,h=>by simp[AV.uz]at hf
 |_::_,[],x,hf,h=>by simp[AV.uz]at hf
 |a::l,b::m,x,hf,h=>by
  simp only[AV.uz,Zxu]at hf;obtain⟨y,ys,rfl,h1,h2⟩:=h.nA;exact aH.cons (AV.Gr hf.1 h1) (AV.PC hf.2 h2)
end
end
end Ex
namespace Ex
open Go
section
variable [au]
variable {ρ ρ':Ren}
def TR (ρ:Ren)(t:TB)(s:Nat)(x:Option Obj):Prop:=match t with
 | .cells l e=>∃ cur:Array Value,x=some (.cells cur e (0,0))∧cur.size=s∧l.length≤s∧∀ (i:Nat) v,l[i]?=some v→v.one=true∧∃ y,cur[i]?=some y∧VR ρ v y
 | .recs l ks e=>OR ρ (.recs l ks e) s x
 | .mG i n m=>OR ρ (.mG i n m) s x
theorem TR.or {t:TB}{s:Nat}{x:Option Obj}(h:TR ρ t s x):OR ρ t.ao s x:=by
 cases t with
 |cells l e =>
  obtain⟨cur,h1,h2,h3,h4⟩:=h;refine⟨cur,h1,h2,h3,fun i v hv => ?_⟩;rcases Gm hv with⟨_,_,h5⟩|⟨_,h5⟩
  ·rw[Nat.sub_zero]at h5
   exact h4 i v h5
  ·rw[T.sQ]at h5;cases h5
 |recs l ks e=>exact h
 |mG i n m=>exact h
theorem ZoI:∀ {u v:AV},AV.fits u v=true→u.one=true→v.one=true:=by
 intro u v hf h1;cases hv:v.one with
 |true=>rfl
 |false =>
  exfalso;unfold AV.fits at hf;split at hf<;>first|(cases h1;done)|(cases hv;done)|skip
  rw[AV.gm hf,hv]at h1;cases h1
omit [au] in
theorem ZE {cs:T AV}(hc:∀ i v,cs.get i=some v→v.one=true):∀ {n i:Nat} {l:List AV},nZ cs i n=some l→∀ w∈l,w.one=true
 |0,i,l,hg,w,hw=>by simp only[nZ,ZlP]at hg;subst hg;cases hw
 |n+1,i,l,hg,w,hw=>by
  unfold nZ at hg;split at hg<;>try(cases hg;done)
  rename_i w0 aL;split at hg<;>try(cases hg;done)
  rename_i l0 kg;simp only[ZlP]at hg;subst hg;rcases List.mem_cons.1 hw with rfl|hw
  ·exact hc _ _ aL
  ·exact ZE hc kg w hw
theorem Y4:∀ {l m:List AV} {i:Nat} {v:AV},AV.uz l m=true→m[i]?=some v→∃ u,l[i]?=some u∧AV.fits u v=true
 |[],[],_,_,_,h=>by simp at h
 |[],_::_,_,_,hf,_=>by simp[AV.uz]at hf
 |_::_,[],_,_,hf,_=>by simp[AV.uz]at hf
 |a::l,b::m,i,v,hf,h=>by
  simp only[AV.uz,Zxu]at hf;cases i with
  |zero =>
   simp only[ZxN,ZlP]at h;subst h;exact⟨a,rfl,hf.1⟩
  |succ i=>exact Y4 (i:=i) hf.2 (by simpa using h)
theorem Yl {cs:T AV}{cur:Array Value}(hc:LH ρ cs cur):∀ {ks:List CK} {off:Nat} {r:SE},Qd cs off ks r=true→∀ (j:Nat) (k:CK),ks[j]?=some k→cur[off+j]?=some (k.val (r.jd au.σ 0 j))
 |[],off,r,h,j,k,hk=>by simp at hk
 |k0::ks,off,r,h,j,k,hk=>by
  cases r<;>simp only[Qd]at h<;>first|(cases h;done)|skip
  rename_i v r;split at h<;>try(cases h;done)
  rename_i a ha;split at h<;>try(cases h;done)
  rename_i x hx;rw[Zxu]at h;obtain⟨_,y,hy,hr⟩:=hc _ _ ha;cases j with
  |zero =>
   simp only[ZxN,ZlP]at hk;subst hk;rw[Nat.add_zero,hy,TG hx hr,Gy h.1];simp only[SE.jd]
  |succ j =>
   have:=Yl hc h.2 j k (by simpa using hk);rw[show off+(j+1)=Nat.add off 1+j from by show _=off+1+j;omega,this];simp only[SE.jd]
theorem XH {cs:T AV}{cur:Array Value}{ks:List CK}(hc:LH ρ cs cur):∀ {l:SE} {n:Nat},ug cs ks l=some n→l.iR au.σ=n∧∀ (r j:Nat) (k:CK),r<n→ks[j]?=some k→cur[r * ks.length+j]?=some (k.val (l.jd au.σ r j))
 | .jf,n,h=>by
   simp only[ug,ZlP]at h;subst h;exact⟨by simp only[SE.iR],fun r j k hr=>by omega⟩
 | .dW l r,n,h=>by
   unfold ug at h;split at h<;>try(cases h;done)
   rename_i m hm;split at h<;>try(cases h;done)
   rename_i hr;simp only[ZlP]at h;have h:m+1=n:=h;subst h;obtain⟨h1,h2⟩:=XH hc hm;refine⟨by simp only[SE.iR,h1],fun q j k hq hk => ?_⟩;simp only[SE.jd,h1];by_cases hqm:q=m
   ·subst hqm
    rw[if_pos rfl];exact Yl hc hr j k hk
   ·rw[if_neg hqm]
    exact h2 q j k (by omega) hk
 | .var _,_,h=>by simp[ug]at h
 | .lit _,_,h=>by simp[ug]at h
 | .iH _ _ _,_,h=>by simp[ug]at h
 | .fH _ _ _,_,h=>by simp[ug]at h
 | .cv _ _,_,h=>by simp[ug]at h
 | .dA _,_,h=>by simp[ug]at h
 | .jY _ _ _ _,_,h=>by simp[ug]at h
 | .fV _ _,_,h=>by simp[ug]at h
 | .at _ _ _,_,h=>by simp[ug]at h
 | .len _,_,h=>by simp[ug]at h
omit [au] in
theorem CK.BB:∀ {a b:List CK},CK.qH a b=true→a=b
 |[],[],_=>rfl
 |[],_::_,h=>by simp[CK.qH]at h
 |_::_,[],h=>by simp[CK.qH]at h
 |a::l,b::m,h=>by
  simp only[CK.qH,Zxu]at h;have h1:a=b:=by
   have:=h.1;cases a<;>cases b<;>simp[CK.beq]at this<;>first|rfl|rw[this]
  rw[h1,CK.BB h.2]
theorem TB.Gr {o:AO}{t:TB}{s:Nat}{x:Option Obj}(hf:TB.fits o t=true)(h:OR ρ o s x):TR ρ t s x:=by
 unfold TB.fits at hf;split at hf
 ·simp only[Zxu]at hf
  obtain⟨h1,h2,h3⟩:=hf;have h1:=Zxq h1;subst h1;have h2:=Zx4 h2;split at h3<;>try(cases h3;done)
  rename_i l' hl;obtain⟨cur,k1,k2,k3,k4⟩:=h;obtain⟨ys,_,CF,gK,_⟩:=Jd (ρ:=ρ) k4 hl;refine⟨cur,k1,k2,by omega,fun i v hv => ?_⟩;obtain⟨u,hu,huf⟩:=Y4 h3 hv;obtain⟨y,hy,vg⟩:=CF.get hu;have hy2:=gK i y hy;rw[Nat.zero_add]at hy2;refine⟨?_,y,hy2,AV.Gr huf vg⟩;exact ZoI huf (ZE (fun i v h=>(k4 i v h).1) hl u (Zxz hu))
 ·simp only[Zxu]at hf
  obtain⟨h1,h3⟩:=hf;have h1:=Zxq h1;subst h1;split at h3<;>try(cases h3;done)
  rename_i n hn;have h3:=Zx4 h3;obtain⟨cur,k1,k2,k3,k4⟩:=h;obtain⟨c1,c2⟩:=XH (ρ:=ρ) k4 hn;refine⟨cur,k1,k2,?_,fun r j k hr hk=>c2 r j k (by omega) hk⟩;rw[c1];exact ZxL h3 k3
 ·simp only[Zxu]at hf
  obtain⟨h1,h2,h3⟩:=hf;have h1:=Zxq h1;have h2:=SE.gm h2;have h3:=CK.BB h3;subst h1;subst h2;subst h3;exact h
 ·simp only[Zxu]at hf
  obtain⟨h1,h2,h3⟩:=hf;have h1:=Zxq h1;have h2:=Zxq h2;have h3:=Zxq h3;subst h1;subst h2;subst h3;exact h
 ·cases hf
end
theorem AV.Zoe (θ:Sub)(v:AV):(v.sub θ).one=v.one:=by cases v<;>simp[AV.sub,AV.one]
theorem AV.TF (θ:Sub):∀ {l:List AV} {i:Nat} {v:AV},l[i]?=some v→(AV.subs θ l)[i]?=some (v.sub θ)
 |[],_,_,h=>by simp at h
 |a::l,i,v,h=>by
  unfold AV.subs;cases i with
  |zero=>simp only[ZxN,ZlP]at h ⊢;rw[h]
  |succ i=>simpa using AV.TF θ (i:=i) (l:=l) (by simpa using h)
theorem AV.PV (θ:Sub):∀ l:List AV,(AV.subs θ l).length=l.length
 |[]=>by unfold AV.subs;rfl
 |a::l=>by unfold AV.subs;simp[AV.PV θ l]
section
variable {θ:Sub}{B:Bd}{N1 N2:au}(ag:Agree θ B N1 N2){ρ1 ρ2:Ren}(hρ:∀ n,n<B.kn→ρ2 n=ρ1 (θ.qA n))
include ag hρ
end
theorem Y8:∀ {l:List (Nat×TB)} {n:Nat} {o:AO},(heapT l).get n=some o→∃ t,(n,t)∈l∧o=t.ao
 |[],n,o,h=>by unfold heapT at h;rw[T.sQ]at h;cases h
 |(n',t')::l,n,o,h=>by
  unfold heapT at h;rcases T.get_put h with⟨rfl,h1⟩|⟨_,h1⟩
  ·cases h1;exact⟨_,ZnJ,rfl⟩
  ·obtain⟨t,h2,h3⟩:=Y8 h1
   exact⟨t,ZnQ _ h2,h3⟩
theorem Te {θ:Sub}{n:Nat}:∀ {l:List (Nat×TB)},QB θ n l=true→∀ p∈l,θ.qA p.1≠n
 |[],_,_,h=>by cases h
 |(m,o)::l,hf,p,h=>by
  unfold QB at hf;split at hf<;>try(cases hf;done)
  rename_i hb;rcases List.mem_cons.1 h with rfl|h
  ·exact Nat.ne_of_beq_eq_false hb
  ·exact Te hf p h
theorem Tu [Fc]{θ:Sub}{h:AH}:∀ {l:List (Nat×TB)},Dx θ h l=true→(∀ p∈l,∃ a,h.get (θ.qA p.1)=some a∧TB.fits a (p.2.sub θ)=true)∧∀ p∈l,∀ q∈l,θ.qA p.1=θ.qA q.1→p=q
 |[],_=>⟨(fun p h=>by cases h),(fun p h=>by cases h)⟩
 |(n,o)::l,hf=>by
  unfold Dx at hf;split at hf<;>try(cases hf;done)
  rename_i a ha;rw[Zxu,Zxu]at hf;obtain⟨h1,h2,h3⟩:=hf;have h2:=Te h2;obtain⟨h4,h5⟩:=Tu h3;refine⟨fun p hp => ?_,fun p hp q hq he => ?_⟩
  ·rcases List.mem_cons.1 hp with rfl|hp
   ·exact⟨a,ha,h1⟩
   ·exact h4 p hp
  ·rcases List.mem_cons.1 hp with rfl|hp<;>rcases List.mem_cons.1 hq with rfl|hq
   ·rfl
   ·exact absurd he.symm (h2 q hq)
   ·exact absurd he (h2 p hp)
   ·exact h5 p hp q hq he
end Ex
namespace Ex
open Go
section
variable [au]
variable {P:Program}
def rA (P:Program)(k:Kc):Prop:=(∀ c∈k.conds,c.1.ev au.σ=c.2)→rz P k.f∧∀ (ρ:Ren) (h h':AH) (w:World) (args':Array Value) (v:AV),k.at h=some (v,h')→HR ρ h.get h.next w→aH ρ k.args args'.toList →
 Calls P k.f args' w fun e w'=>∃ ρ' x,e = .returned x∧VR ρ' v x∧Stp ρ h.get h.next w ρ' h'.get h'.next w'
theorem ZJ {f:FuncId}{args:List AV}{h h':AH}{v:AV}:∀ {l:List Kc},E8 f args h l=some (v,h')→∃ k∈l,k.f=f∧AV.uz args k.args=true∧(∀ c∈k.conds,c.1.ev au.σ=c.2)∧k.at h=some (v,h')
 |[],hk=>by cases hk
 |k::l,hk=>by
  have ig:E8 f args h l=some (v,h')→∃ k'∈k::l,k'.f=f∧AV.uz args k'.args=true∧(∀ c∈k'.conds,c.1.ev au.σ=c.2)∧k'.at h=some (v,h'):=fun hl=>by
   obtain⟨k',h1,h2⟩:=ZJ hl;exact⟨k',ZnQ _ h1,h2⟩
  unfold E8 at hk;split at hk
  ·exact ig hk
  ·rename_i hf
   split at hk
   ·exact ig hk
   ·rename_i ha
    split at hk
    ·exact ig hk
    ·rename_i hc
     split at hk
     ·rename_i r he
      simp only[ZlP]at hk;subst hk;exact⟨k,ZnJ,Zxq hf,ha,Pf hc,he⟩
     ·exact ig hk
theorem X9 (hm:P.follows .mixedOrders=true){kx:AH→Kg}(hk:∀ h args,∀ k∈kx h args,rA P k):∀ n,BO P (Mf P kx n)
 |0=>fun f args h v h' he=>by simp[Mf]at he
 |n+1=>fun f args h v h' he=>by
  unfold Mf at he;split at he
  ·rename_i r hkc
   simp only[ZlP]at he;subst he;obtain⟨k,bY,rfl,Ht,hcs,gK⟩:=ZJ hkc;obtain⟨h1,h2⟩:=hk _ _ k bY hcs;exact⟨h1,fun ρ w args' hH bJ=>h2 ρ _ _ w args' _ gK hH (AV.PC Ht bJ)⟩
  split at he<;>try(cases he;done)
  rename_i fn hf;split at he<;>try(cases he;done)
  rename_i Ap;split at he<;>try(cases he;done)
  rename_i c hb;split at he<;>try(cases he;done)
  rename_i iF;rw[Zxu]at iF;have iF:=Zx4 iF.1;refine⟨⟨fn,c,hf,Ap,hb⟩,fun ρ w args' hH bJ => ?_⟩;have DV:args.length=args'.size:=by simpa using bJ.len
  have hE:ER ρ (Dp 0 args .e) fn.ntmps { tmps:=args'++Array.replicate (fn.ntmps - args'.size) undef,defers:=[] }:=by
   refine⟨rfl,by simp;omega,fun t v hv => ?_⟩;rcases Py hv with⟨_,h1⟩|h1
   ·rw[Nat.sub_zero]at h1
    obtain⟨x,hx,hr⟩:=bJ.get h1;refine⟨x,?_,hr⟩;have aK:=(List.getElem?_eq_some_iff.1 hx).1;rw[Array.getElem?_append_left (by simpa using aK)];simpa using hx
   ·rw[T.sQ]at h1;cases h1
  split at he<;>try(cases he;done)
  rename_i x aG h1 fJ hx;split at he<;>try(cases he;done)
  rename_i vs mX;simp only[ZlP,ZxA]at he;obtain⟨rfl,rfl⟩:=he;refine calls_of_wp hf hb (wp_mono (wO hm (X9 hm hk n) c _ _ _ _ _ hx ρ w _ hE hH) ?_);rintro e a1 w1 ⟨rfl,ρ1,aW,hE1⟩;obtain⟨y,hy,aO⟩:=Sk (fn:=fn) aW.hr hE1 mX;cases x with
  |exit id=>exact absurd rfl (fJ id)
  |normal=>exact⟨hE1.dz,y,aO,ρ1,y,rfl,hy,aW⟩
  |ret=>exact⟨hE1.dz,y,aO,ρ1,y,rfl,hy,aW⟩
variable {call:FuncId→List AV→AH→Option (AV×AH)}{nt:Nat}
def ZtS (P:Program)(nt:Nat)(c:Code)(l:Ln):Prop:=∀ env h x aG h',l.at env h=some (x,aG,h')→∀ (ρ:Ren) w a,ER ρ env nt a→HR ρ h.get h.next w→(Code.loop c).wp P (Me nt ρ h w x aG h') a w
omit [au] in
theorem TM [Fc]{i:Nat}{env:T AV}{h:AH}{r:AX×T AV×AH}:∀ {l:List Ln},MC i env h l=some r→∃ x∈l,x.key=i∧x.at env h=some r
 |[],he=>by cases he
 |x::l,he=>by
  unfold MC at he;split at he
  ·rename_i hb
   split at he
   ·rename_i q hq
    simp only[ZlP]at he;subst he;exact⟨x,ZnJ,Zxq hb,hq⟩
   ·obtain⟨y,h1,h2⟩:=TM he
    exact⟨y,ZnQ _ h1,h2⟩
  ·obtain⟨y,h1,h2⟩:=TM he
   exact⟨y,ZnQ _ h1,h2⟩
theorem vM (hm:P.follows .mixedOrders=true)(hc:BO P call){tO:List Ln}{L:List Code}(jJ:∀ c∈L,∀ l∈tO,BL c=some l.key→ZtS P nt c l):∀ (c:Code) env h x aG h',(∀ d∈l6 c,d∈L)→l7 P call nt tO c env h=some (x,aG,h')→∀ (ρ:Ren) w a,ER ρ env nt a→HR ρ h.get h.next w→c.wp P (Me nt ρ h w x aG h') a w
 | .skip,env,h,x,aG,h',_,he,ρ,w,a,hE,hH=>by
   simp only[l7,ZlP,ZxA]at he;obtain⟨rfl,rfl,rfl⟩:=he;exact wp_skip ⟨rfl,ρ,Stp.refl hH,hE⟩
 | .label l,env,h,x,aG,h',_,he,ρ,w,a,hE,hH=>by
   simp only[l7,ZlP,ZxA]at he;obtain⟨rfl,rfl,rfl⟩:=he;exact wp_label ⟨rfl,ρ,Stp.refl hH,hE⟩
 | .region id ops false,env,h,x,aG,h',_,he,ρ,w,a,hE,hH=>by
   unfold l7 at he;split at he<;>try(cases he;done)
   rename_i mi h1 hr;simp only[ZlP,ZxA]at he;obtain⟨rfl,rfl,rfl⟩:=he;exact wp_region_list (Qf hc _ _ _ _ _ ρ w a hr hE hH fun ρ' w' a' aW hE'=>⟨rfl,ρ',aW,hE'⟩)
 | .region id ops true,env,h,x,aG,h',_,he,ρ,w,a,hE,hH=>by
   unfold l7 at he;split at he<;>try(cases he;done)
   rename_i mi h1 hr;simp only[ZlP,ZxA]at he;obtain⟨rfl,rfl,rfl⟩:=he;exact wp_region_any hm (Zt hc hr hE (hH.drew _) fun ρ' w' a' aW hE'=>⟨rfl,ρ',aW.drew,hE'⟩)
 | .seq c d,env,h,x,aG,h',hL,he,ρ,w,a,hE,hH=>by
   have hL1:∀ q∈l6 c,q∈L:=fun q hq=>hL q (by unfold l6;exact List.mem_append_left _ hq);have hL2:∀ q∈l6 d,q∈L:=fun q hq=>hL q (by unfold l6;exact ZxU _ hq);unfold l7 at he;split at he
   ·rename_i mi h1 hx
    refine wp_seq (wp_mono (vM hm hc jJ c _ _ _ _ _ hL1 hx ρ w a hE hH) ?_);rintro e a1 w1 ⟨rfl,ρ1,aW,hE1⟩;refine wp_mono (vM hm hc jJ d _ _ _ _ _ hL2 he ρ1 w1 a1 hE1 aW.hr) ?_;rintro e a2 w2 ⟨rfl,ρ2,IL,hE2⟩;exact⟨rfl,ρ2,aW.trans IL,hE2⟩
   ·rename_i fJ
    refine wp_seq (wp_mono (vM hm hc jJ c _ _ _ _ _ hL1 he ρ w a hE hH) ?_);rintro e a1 w1 ⟨rfl,hq⟩;exact Zoi (fun hx=>by subst hx;exact absurd he (fJ _ _)) (fun _=>⟨rfl,hq⟩)
 | .cond c d e,env,h,x,aG,h',hL,he,ρ,w,a,hE,hH=>by
   have hL1:∀ q∈l6 d,q∈L:=fun q hq=>hL q (by unfold l6;exact List.mem_append_left _ hq);have hL2:∀ q∈l6 e,q∈L:=fun q hq=>hL q (by unfold l6;exact ZxU _ hq);unfold l7 at he;have Fu:∀ b,ev env c=some (.bool b)→a.eval c = .bool b:=by
    intro b hb;have:=EH (ρ:=ρ) (a:=a) (l:=[c]) (vs:=[.bool b]) (fun t v _ hv=>hE.val t v hv) (by simp[evs,hb]);obtain⟨y,hy,hr⟩:=this.one;simp at hy;unfold VR at hr;rw[hy,hr]
   have Ic:∀ q p,ev env c=some (.jD q p)→a.eval c = .bool (q.ev au.σ==p):=by
    intro q p hb;have:=EH (ρ:=ρ) (a:=a) (l:=[c]) (vs:=[.jD q p]) (fun t v _ hv=>hE.val t v hv) (by simp[evs,hb]);obtain⟨y,hy,hr⟩:=this.one;simp at hy;unfold VR at hr;rw[hy,hr]
   split at he
   ·rename_i hb
    exact wp_cond_true (Fu _ hb) (vM hm hc jJ d _ _ _ _ _ hL1 he ρ w a hE hH)
   ·rename_i hb
    exact wp_cond_false (Fu _ hb) (vM hm hc jJ e _ _ _ _ _ hL2 he ρ w a hE hH)
   ·rename_i q p hb
    split at he<;>try(cases he;done)
    rename_i r hr;have hb:=Ic _ _ hb;rw[BA hr]at hb;split at he
    ·rename_i IE
     rw[IE]at hb;exact wp_cond_true hb (vM hm hc jJ d _ _ _ _ _ hL1 he ρ w a hE hH)
    ·rename_i IE
     rw[IE]at hb;exact wp_cond_false hb (vM hm hc jJ e _ _ _ _ _ hL2 he ρ w a hE hH)
   ·cases he
 | .block id c,env,h,x,aG,h',hL,he,ρ,w,a,hE,hH=>by
   have hL1:∀ q∈l6 c,q∈L:=fun q hq=>hL q (by unfold l6;exact hq);unfold l7 at he;split at he
   ·rename_i j mi h1 hx
    refine wp_block (wp_mono (vM hm hc jJ c _ _ _ _ _ hL1 hx ρ w a hE hH) ?_);rintro e a1 w1 ⟨rfl,ρ1,aW,hE1⟩;split at he
    ·rename_i hj
     have hj:=Zxq hj;simp only[ZlP,ZxA]at he;obtain⟨rfl,rfl,rfl⟩:=he;show(if j=id then _ else _);rw[if_pos hj];exact⟨rfl,ρ1,aW,hE1⟩
    ·rename_i hj
     simp only[ZlP,ZxA]at he;obtain⟨rfl,rfl,rfl⟩:=he;show(if j=id then _ else _);rw[if_neg (fun uU=>by subst uU;simp at hj)];exact⟨rfl,ρ1,aW,hE1⟩
   ·rename_i fJ
    refine wp_block (wp_mono (vM hm hc jJ c _ _ _ _ _ hL1 he ρ w a hE hH) ?_);rintro e a1 w1 ⟨rfl,hq⟩;cases x with
    |normal=>exact⟨rfl,hq⟩
    |exit j=>exact absurd he (fJ _ _ _)
    |ret=>exact⟨rfl,hq⟩
 | .loop c,env,h,x,aG,h',hL,he,ρ,w,a,hE,hH=>by
   have hL0:c∈L:=hL c (by unfold l6;exact ZnJ);have hL1:∀ q∈l6 c,q∈L:=fun q hq=>hL q (by unfold l6;exact ZnQ _ hq);unfold l7 ZtZ at he;split at he
   ·rename_i i hi
    split at he
    ·rename_i r hr
     simp only[ZlP]at he;subst he;obtain⟨l,hl,hk,gK⟩:=TM hr;exact jJ c hL0 l hl (by rw[hi,hk]) _ _ _ _ _ gK ρ w a hE hH
    ·split at he
     ·exact wp_loop_rounds 3 (LD (fun env h x aG h'=>vM hm hc jJ c env h x aG h' hL1) 3 _ _ _ _ _ he ρ w a hE hH)
     ·exact wp_loop_rounds 100000 (LD (fun env h x aG h'=>vM hm hc jJ c env h x aG h' hL1) 100000 _ _ _ _ _ he ρ w a hE hH)
   ·exact wp_loop_rounds 100000 (LD (fun env h x aG h'=>vM hm hc jJ c env h x aG h' hL1) 100000 _ _ _ _ _ he ρ w a hE hH)
 | .scope c,env,h,x,aG,h',hL,he,ρ,w,a,hE,hH=>by
   have hL1:∀ q∈l6 c,q∈L:=fun q hq=>hL q (by unfold l6;exact hq);unfold l7 at he;refine wp_scope_straight (wp_mono (vM hm hc jJ c _ _ _ _ _ hL1 he ρ w a hE hH) ?_);rintro e a1 w1 ⟨rfl,hq⟩;cases x<;>exact⟨rfl,hq⟩
 | .exit id,env,h,x,aG,h',_,he,ρ,w,a,hE,hH=>by
   simp only[l7,ZlP,ZxA]at he;obtain⟨rfl,rfl,rfl⟩:=he;exact wp_exit ⟨rfl,ρ,Stp.refl hH,hE⟩
 | .ret,env,h,x,aG,h',_,he,ρ,w,a,hE,hH=>by
   simp only[l7,ZlP,ZxA]at he;obtain⟨rfl,rfl,rfl⟩:=he;exact wp_ret ⟨rfl,ρ,Stp.refl hH,hE⟩
 | .goto _,_,_,_,_,_,_,he,_,_,_,_,_=>by simp[l7]at he
 | .rangeFunc _ _ _ _,_,_,_,_,_,_,he,_,_,_,_,_=>by simp[l7]at he
 | .refuse _,_,_,_,_,_,_,he,_,_,_,_,_=>by simp[l7]at he
end
end Ex
namespace Ex
open Go
structure Frm (ρ0:Ren)(g0:Nat→Option AO)(w0:World)(ρ:Ren)(g:Nat→Option AO)(w:World):Prop where
 os:w.os=w0.os
 tape:w.tape=w0.tape
 output:w.output=w0.output
 size:w0.heap.size≤w.heap.size
 block:∀ b,b<w0.heap.size→(∀ n s,(g0 n).isSome=true→ρ0 n≠some (b,s))→w.heap[b]?=w0.heap[b]?
 live:∀ n b s,(g n).isSome=true→ρ n=some (b,s)→w0.heap.size≤b∨∃ m s',(g0 m).isSome=true∧ρ0 m=some (b,s')
section
variable {P:Program}(gs:List (Nat×List Int))(dY:List (Nat×CK))(ro:Nat→Option (Option Addr×Nat×Nat))
@[reducible] def nums (σ:Nat→Int) (Ω:Nat→Nat→Nat→Obj→Prop) (fs:List (dB×Bool)) (ok:∀ f∈fs,f.1.ev σ=f.2):au:={ facts:=fs,fU:=gs,dY:=dY,σ:=σ,Ω:=Ω,ro:=ro,ok:=ok }
def Jy (P:Program)(σ:Nat→Int)(Ω:Nat→Nat→Nat→Obj→Prop)(pU:Kg):Prop:=∀ fs (ok:∀ f∈fs,f.1.ev σ=f.2),∀ args,∀ k∈pU args,@rA (nums gs dY ro σ Ω fs ok) P k
def Zrx (P:Program)(f:FuncId)(σ:Nat→Int)(Ω:Nat→Nat→Nat→Obj→Prop)(tO:List Ln):Prop:=∀ fs (ok:∀ f∈fs,f.1.ev σ=f.2),∀ c∈l6 (Uy P f),∀ l∈tO,BL c=some l.key→@ZtS (nums gs dY ro σ Ω fs ok) P (U4 P f) c l
section
variable {gs:List (Nat×List Int)}{dY:List (Nat×CK)}{ro:Nat→Option (Option Addr×Nat×Nat)}{σ:Nat→Int}{Ω:Nat→Nat→Nat→Obj→Prop}{f1 f2:List (dB×Bool)}{k1:∀ f∈f1,f.1.ev σ=f.2}{k2:∀ f∈f2,f.1.ev σ=f.2}{ρ:Ren}
mutual
theorem VR.oK:∀ {v:AV} {x:Value},@VR (nums gs dY ro σ Ω f1 k1) ρ v x→@VR (nums gs dY ro σ Ω f2 k2) ρ v x
 | .fn f a b,x,h=>by
   unfold VR at h ⊢;obtain⟨q,r,h1,h2,h3⟩:=h;exact⟨q,r,h1,aH.oK h2,aH.oK h3⟩
 | .xP t v,x,h=>by
   unfold VR at h ⊢;obtain⟨y,h1,h2⟩:=h;exact⟨y,h1,VR.oK h2⟩
 | .agg l,x,h=>by
   unfold VR at h ⊢;obtain⟨y,h1,h2⟩:=h;exact⟨y,h1,aH.oK h2⟩
 | .gV l,x,h=>by
   unfold VR at h ⊢;obtain⟨y,h1,h2⟩:=h;exact⟨y,h1,aH.oK h2⟩
 | .ptr n _,x,h=>by unfold VR at h ⊢;exact h
 | .iE n _ _ _,x,h=>by unfold VR at h ⊢;exact h
 | .lC n _ _,x,h=>by unfold VR at h ⊢;exact h
 | .qB n _ _ _,x,h=>by unfold VR at h ⊢;exact h
 | .sl n _ _ _ _,x,h=>by unfold VR at h ⊢;exact h
 | .map n,x,h=>by unfold VR at h ⊢;exact h
 | .sym _ _,x,h=>by unfold VR at h ⊢;exact h
 | .jD _ _,x,h=>by unfold VR at h ⊢;exact h
 | .kH _ _,x,h=>by unfold VR at h ⊢;exact h
 | .bool _,x,h=>by unfold VR at h ⊢;exact h
 | .int _ _,x,h=>by unfold VR at h ⊢;exact h
 | .str _,x,h=>by unfold VR at h ⊢;exact h
 | .iL,x,h=>by unfold VR at h ⊢;exact h
 | .je _ _,x,h=>by unfold VR at h ⊢;exact h
 | .bR,x,h=>by unfold VR at h ⊢;exact h
 | .mo _,x,h=>by unfold VR at h ⊢;exact h
 | .tY,x,h=>by unfold VR at h ⊢;exact h
 | .tT _,x,h=>by unfold VR at h ⊢;exact h
 | .vz _,x,h=>by unfold VR at h ⊢;exact h
 | .bX,x,h=>by unfold VR at h ⊢;exact h
 | .fo,x,h=>by unfold VR at h ⊢;exact h
 | .fG,x,h=>by unfold VR at h ⊢;exact h
theorem aH.oK:∀ {l:List AV} {m:List Value},@aH (nums gs dY ro σ Ω f1 k1) ρ l m→@aH (nums gs dY ro σ Ω f2 k2) ρ l m
 |[],m,h=>by unfold aH at h ⊢;exact h
 |v::l,m,h=>by
  unfold aH at h ⊢;obtain⟨y,ys,h1,h2,h3⟩:=h;exact⟨y,ys,h1,VR.oK h2,aH.oK h3⟩
end
theorem MR.oK:∀ {l:List (AV×AV)} {m:List MapEntry},@MR (nums gs dY ro σ Ω f1 k1) ρ l m→@MR (nums gs dY ro σ Ω f2 k2) ρ l m
 |[],m,h=>h
 |p::l,m,h=>by
  obtain⟨e,es,h1,h2,h3,h4⟩:=h;exact⟨e,es,h1,VR.oK h2,VR.oK h3,MR.oK h4⟩
theorem OR.oK {o:AO}{s:Nat}{x:Option Obj}(h:@OR (nums gs dY ro σ Ω f1 k1) ρ o s x):@OR (nums gs dY ro σ Ω f2 k2) ρ o s x:=by
 cases o with
 |cells cs k e =>
  obtain⟨cur,h1,h2,h3,h4⟩:=h;exact⟨cur,h1,h2,h3,fun i v hv=>by
   obtain⟨ho,y,hy,hr⟩:=h4 i v hv;exact⟨ho,y,hy,VR.oK hr⟩⟩
 |map es bs ck =>
  obtain⟨xs,h1,h2,h3⟩:=h;exact⟨xs,h1,MR.oK h2,h3⟩
 |qR m since seen last =>
  cases m with
  |none=>exact h
  |some m=>exact h
 |opq i=>exact h
 |mG i n m=>exact h
 |recs l ks e=>exact h
theorem HR.oK {g:Nat→Option AO}{nx:Nat}{w:World}(h:@HR (nums gs dY ro σ Ω f1 k1) ρ g nx w):@HR (nums gs dY ro σ Ω f2 k2) ρ g nx w:=by
 have h1:=@HR.fresh (nums gs dY ro σ Ω f1 k1) _ _ _ _ h;have h2:=@HR.obj (nums gs dY ro σ Ω f1 k1) _ _ _ _ h;have h3:=@HR.inj (nums gs dY ro σ Ω f1 k1) _ _ _ _ h;have h4:=@HR.gl (nums gs dY ro σ Ω f1 k1) _ _ _ _ h;have h5:=@HR.gn (nums gs dY ro σ Ω f1 k1) _ _ _ _ h;have h6:=@HR.rl (nums gs dY ro σ Ω f1 k1) _ _ _ _ h;have h7:=@HR.rn (nums gs dY ro σ Ω f1 k1) _ _ _ _ h;refine @HR.mk (nums gs dY ro σ Ω f2 k2) _ _ _ _ h1 (fun n o ho => ?_) h3 h4 h5 h6 h7;obtain⟨b,s,hp,hO⟩:=h2 n o ho;exact⟨b,s,hp,OR.oK hO⟩
end
def QO (σ:Nat→Int)(K:AV→List (Nat×TB)→Prop):CT→Prop
 | .is v p=>K v p
 | .bad=>False
 | .node c t e=>(c.ev σ=true→QO σ K t)∧(c.ev σ=false→QO σ K e)
theorem ZL {σ:Nat→Int}{fs:List (dB×Bool)}(ok:∀ f∈fs,f.1.ev σ=f.2){c:dB}{b:Bool}(h:c.ev σ=b):∀ f∈(c,b)::fs,f.1.ev σ=f.2:=fun f hf=>by
 rcases List.mem_cons.1 hf with rfl|hf
 ·exact h
 ·exact ok f hf
end
end Ex
namespace Ex
open Go
section
variable {P:Program}{gs:List (Nat×List Int)}{σ:Nat→Int}{ω:Nat→Nat→Nat→Obj}
def Zt7 (P:Program)(gs:List (Nat×List Int))(σ:Nat→Int)(ω:Nat→Nat→Nat→Obj)(kn:List Kn):Prop :=
 ∀ (fs:List (dB×Bool)) (tJ:∀ f∈fs,f.1.ev σ=f.2),@Vd { facts:=fs,fU:=gs,σ:=σ,ω:=ω,ok:=tJ } P kn
end
end Ex
namespace Ex
open Go
theorem SE.BU (ns:List (Nat×Nat)):∀ e:SE,e.sub { n:=ns }=e:=by
 intro e
 induction e with
 |var i=>rfl
 |dA i=>rfl
 |lit n=>rfl
 |iH o a b ha hb=>simp only[SE.sub,ha,hb]
 |fH o a b ha hb=>simp only[SE.sub,ha,hb]
 |cv k a ha=>simp only[SE.sub,ha]
 |jY l e k v hl he hv=>simp only[SE.sub,hl,he,hv]
 |dW l r hl hr=>simp only[SE.sub,hl,hr]
 |jf=>rfl
 |kG n hn=>simp only[SE.sub,hn]
 |fV v r hv hr=>simp only[SE.sub,hv,hr]
 |«at» l e j hl he=>simp only[SE.sub,hl,he]
 |len l hl=>simp only[SE.sub,hl]
theorem dB.BU (ns:List (Nat×Nat))(c:dB):c.sub { n:=ns }=c:=by cases c<;>simp only[dB.sub,SE.BU]
section
variable [au]{ρ ρ':Ren}{ns:List (Nat×Nat)}
mutual
theorem VR.ren (hρ:∀ n,ρ' n=ρ (rq n ns)):∀ {v:AV} {x:Value},VR ρ (v.sub { n:=ns }) x↔VR ρ' v x
 | .sym k e,x=>by unfold AV.sub VR;rw[SE.BU]
 | .jD c p,x=>by unfold AV.sub VR;rw[dB.BU]
 | .ptr n off,x=>by unfold AV.sub VR;rw[hρ];rfl
 | .iE n e s j,x=>by unfold AV.sub VR;rw[hρ,SE.BU];rfl
 | .lC n e s,x=>by unfold AV.sub VR;rw[hρ,SE.BU];rfl
 | .qB n e l s,x=>by unfold AV.sub VR;rw[hρ,SE.BU];rfl
 | .kH i e,x=>by unfold AV.sub VR;rw[SE.BU]
 | .sl n off len sz r,x=>by unfold AV.sub VR;rw[hρ];rfl
 | .map n,x=>by unfold AV.sub VR;rw[hρ];rfl
 | .fn f a b,x=>by
   unfold AV.sub VR;constructor
   ·rintro⟨p,q,h1,h2,h3⟩
    exact⟨p,q,h1,(aH.ren hρ).1 h2,(aH.ren hρ).1 h3⟩
   ·rintro⟨p,q,h1,h2,h3⟩
    exact⟨p,q,h1,(aH.ren hρ).2 h2,(aH.ren hρ).2 h3⟩
 | .xP t v,x=>by
   unfold AV.sub VR;constructor
   ·rintro⟨y,h1,h2⟩
    exact⟨y,h1,(VR.ren hρ).1 h2⟩
   ·rintro⟨y,h1,h2⟩
    exact⟨y,h1,(VR.ren hρ).2 h2⟩
 | .agg l,x=>by
   unfold AV.sub VR;constructor
   ·rintro⟨y,h1,h2⟩
    exact⟨y,h1,(aH.ren hρ).1 h2⟩
   ·rintro⟨y,h1,h2⟩
    exact⟨y,h1,(aH.ren hρ).2 h2⟩
 | .gV l,x=>by
   unfold AV.sub VR;constructor
   ·rintro⟨y,h1,h2⟩
    exact⟨y,h1,(aH.ren hρ).1 h2⟩
   ·rintro⟨y,h1,h2⟩
    exact⟨y,h1,(aH.ren hρ).2 h2⟩
 | .bool _,x=>by unfold AV.sub VR;exact Iff.rfl
 | .int _ _,x=>by unfold AV.sub VR;exact Iff.rfl
 | .str _,x=>by unfold AV.sub VR;exact Iff.rfl
 | .iL,x=>by unfold AV.sub VR;exact Iff.rfl
 | .je _ _,x=>by unfold AV.sub VR;exact Iff.rfl
 | .bR,x=>by unfold AV.sub VR;exact Iff.rfl
 | .mo _,x=>by unfold AV.sub VR;exact Iff.rfl
 | .tY,x=>by unfold AV.sub VR;exact Iff.rfl
 | .tT e,x=>by unfold AV.sub VR;rw[SE.BU]
 | .vz i,x=>by unfold AV.sub VR;exact Iff.rfl
 | .bX,x=>by unfold AV.sub VR;exact Iff.rfl
 | .fo,x=>by unfold AV.sub VR;exact Iff.rfl
 | .fG,x=>by unfold AV.sub VR;exact Iff.rfl
theorem aH.ren (hρ:∀ n,ρ' n=ρ (rq n ns)):∀ {l:List AV} {m:List Value},aH ρ (AV.subs { n:=ns } l) m↔aH ρ' l m
 |[],m=>by unfold AV.subs aH;exact Iff.rfl
 |v::l,m=>by
  unfold AV.subs aH;constructor
  ·rintro⟨y,ys,h1,h2,h3⟩
   exact⟨y,ys,h1,(VR.ren hρ).1 h2,(aH.ren hρ).1 h3⟩
  ·rintro⟨y,ys,h1,h2,h3⟩
   exact⟨y,ys,h1,(VR.ren hρ).2 h2,(aH.ren hρ).2 h3⟩
end
theorem TR.ren (hρ:∀ n,ρ' n=ρ (rq n ns)){t:TB}{s:Nat}{x:Option Obj}:TR ρ (t.sub { n:=ns }) s x↔TR ρ' t s x:=by
 cases t with
 |cells l e =>
  constructor
  ·rintro⟨cur,h1,h2,h3,h4⟩
   rw[AV.PV]at h3;refine⟨cur,h1,h2,h3,fun i v hv => ?_⟩;obtain⟨h5,y,h6,h7⟩:=h4 i _ (AV.TF _ hv);rw[AV.Zoe]at h5;exact⟨h5,y,h6,(VR.ren hρ).1 h7⟩
  ·rintro⟨cur,h1,h2,h3,h4⟩
   refine⟨cur,h1,h2,by rw[AV.PV];exact h3,fun i v hv => ?_⟩;have hi:i<l.length:=by
    have:=(List.getElem?_eq_some_iff.1 hv).1
    rwa [AV.PV]at this
   have h8:=AV.TF { n:=ns } (Zxp hi);rw[hv]at h8;cases h8;obtain⟨h5,y,h6,h7⟩:=h4 i _ (Zxp hi);exact⟨by rw[AV.Zoe];exact h5,y,h6,(VR.ren hρ).2 h7⟩
 |recs l ks e =>
  show TR ρ (.recs (l.sub { n:=ns }) ks e) s x↔_;rw[SE.BU];exact Iff.rfl
 |mG i n m =>
  show OR ρ (.mG (rq i []) (rq n ns) (rq m ns)) s x↔OR ρ' (.mG i n m) s x;simp only[OR,hρ];exact Iff.rfl
end
theorem TR.Zt2 [au]{ρ:Ren}{t:TB}{s:Nat}{x:Option Obj}:TR ρ (t.sub {}) s x↔TR ρ t s x:=TR.ren (ns:=[]) (fun _=>rfl)
def ji:Obj→Nat
 | .cells c _ _=>c.size
 |_=>0
def Ce [au](ρ:Ren):List (Nat×TB)→List (Nat×Obj)→Prop
 |[],bs=>bs=[]
 |(n,t)::l,bs=>∃ b o s r,bs=(b,o)::r∧ρ n=some (b,s)∧TR ρ t s (some o)∧Ce ρ l r
theorem Yh {θ:Sub}:∀ {l:List TB} {h:AH} {n:Nat} {o:AO},(zD θ l h).get n=some o→(∃ i t,l[i]?=some t∧n=h.next+i∧o=(t.sub θ).ao)∨(n<h.next+l.length→n<h.next)∧h.get n=some o
 |[],h,n,o,hg=>.inr ⟨(by simp),hg⟩
 |t::l,h,n,o,hg=>by
  unfold zD at hg;have hn:((h.put h.next (some (t.sub θ).ao)).skip 1).next=h.next+1:=by cases h;rfl
  rcases Yh hg with⟨i,t',h1,h2,h3⟩|⟨h1,h2⟩
  ·rw[hn]at h2
   exact .inl ⟨i+1,t',by simpa using h1,by omega,h3⟩
  ·have h2:(h.put h.next (some (t.sub θ).ao)).get n=some o:=by cases h;exact h2
   rw[hn]at h1;rcases nX h2 with⟨h3,h4⟩|⟨h3,h4⟩
   ·cases h4
    exact .inl ⟨0,t,rfl,h3,rfl⟩
   ·refine .inr ⟨fun hl => ?_,h4⟩
    simp only[ZxJ]at hl;have:=h1 (by omega);omega
theorem X7 {θ:Sub}:∀ {l:List TB} {h:AH},(zD θ l h).next=h.next+l.length
 |[],h=>rfl
 |t::l,h=>by
  unfold zD;rw[X7];have hn:((h.put h.next (some (t.sub θ).ao)).skip 1).next=h.next+1:=by cases h;rfl
  rw[hn,ZxJ];omega
theorem Yk {θ:Sub}:∀ {l:List (Nat×TB)} {h:AH} {n:Nat} {o:AO},(zF θ l h).get n=some o→(∃ t,(n,t)∈l∧o=(t.sub θ).ao)∨h.get n=some o
 |[],h,n,o,hg=>.inr hg
 |(m,t)::l,h,n,o,hg=>by
  unfold zF at hg;rcases nX hg with⟨rfl,h2⟩|⟨_,h2⟩
  ·cases h2
   exact .inl ⟨t,ZnJ,rfl⟩
  ·rcases Yk h2 with⟨t',h3,h4⟩|h3
   ·exact .inl ⟨t',ZnQ _ h3,h4⟩
   ·exact .inr h3
theorem Sr {θ:Sub}:∀ {l:List (Nat×TB)} {h:AH},(zF θ l h).next=h.next
 |[],h=>rfl
 |(m,t)::l,h=>by
  unfold zF;rw[qZ,Sr]
theorem Yb:∀ {l:List (Nat×TB)} {h:AH} {n:Nat} {o:AO},(zB l h).get n=some o→h.get n=some o∧∀ t,(n,t)∉l
 |[],h,n,o,hg=>⟨hg,fun t hm=>by cases hm⟩
 |(m,t)::l,h,n,o,hg=>by
  unfold zB at hg;rcases nX hg with⟨_,h2⟩|⟨h1,h2⟩
  ·cases h2
  ·obtain⟨h3,h4⟩:=Yb h2
   refine⟨h3,fun t' hm => ?_⟩;rcases List.mem_cons.1 hm with he|hm
   ·cases he
    exact h1 rfl
   ·exact h4 t' hm
theorem Si:∀ {l:List (Nat×TB)} {h:AH},(zB l h).next=h.next
 |[],h=>rfl
 |(m,t)::l,h=>by
  unfold zB;rw[qZ,Si]
theorem Zb {nx:Nat}:∀ {l:List TB} {i n:Nat},rq n (Dl nx i l)=n∨∃ j,j<l.length∧n=rel+(i+j)∧rq n (Dl nx i l)=nx+(i+j)
 |[],i,n=>.inl rfl
 |t::l,i,n=>by
  unfold Dl rq;split
  ·rename_i hb
   have hb:=Zxq hb;exact .inr ⟨0,by simp,hb.symm,rfl⟩
  ·rcases Zb (nx:=nx) (l:=l) (i:=Nat.add i 1) (n:=n) with h1|⟨j,h1,h2,h3⟩
   ·exact .inl h1
   ·refine .inr ⟨j+1,by simp;omega,?_,?_⟩
    ·rw[h2]
     show rel+(i+1+j)=rel+(i+(j+1));omega
    ·rw[h3]
     show nx+(i+1+j)=nx+(i+(j+1));omega
theorem ZkT {nx:Nat}{l:List TB}{n:Nat}(h:n<rel):rq n (Dl nx 0 l)=n:=by
 rcases Zb (nx:=nx) (l:=l) (i:=0) (n:=n) with h1|⟨j,_,h2,_⟩
 ·exact h1
 ·omega
theorem Za {nx:Nat}:∀ {l:List TB} {i j:Nat},j<l.length→rq (rel+(i+j)) (Dl nx i l)=nx+(i+j)
 |[],i,j,h=>by simp at h
 |t::l,i,j,h=>by
  unfold Dl rq;split
  ·rename_i hb
   have hb:rel+i=rel+(i+j):=Zxq hb;have:j=0:=(by omega);subst this;rfl
  ·rename_i hb
   have hb:rel+i≠rel+(i+j):=Nat.ne_of_beq_eq_false hb;cases j with
   |zero=>exact absurd rfl hb
   |succ j =>
    have:=Za (nx:=nx) (l:=l) (i:=i+1) (j:=j) (by simpa using h);have e1:rel+(i+1+j)=rel+(i+(j+1)):=(by omega);have e2:nx+(i+1+j)=nx+(i+(j+1)):=(by omega);rw[e1,e2]at this;exact this
theorem Ce.back [au]{ρ:Ren}:∀ {l:List (Nat×TB)} {bs:List (Nat×Obj)},Ce ρ l bs→∀ q∈bs,∃ p∈l,∃ s,ρ p.1=some (q.1,s)
 |[],bs,h,q,hq=>by
  have:bs=[]:=h;subst this;cases hq
 |(n,t)::l,bs,h,q,hq=>by
  obtain⟨b,o,s,r,rfl,h1,h2,h3⟩:=h;rcases List.mem_cons.1 hq with rfl|hq
  ·exact⟨_,ZnJ,s,h1⟩
  ·obtain⟨p,h4,h5⟩:=Ce.back h3 q hq
   exact⟨p,ZnQ _ h4,h5⟩
section
variable [au]{P:Program}
theorem ZqR {k:Kc}(hf:rz P k.f)(kr:∀ p∈k.post,∃ t,(p.1,t)∈k.pre)(_hpn:∀ p∈k.pre,p.1<rel)
 (hc:(∀ c∈k.conds,c.1.ev au.σ=c.2)→∀ (ρ:Ren) (W w:World) (m:List (Nat×Obj)) (args':Array Value) (bs:List (Nat×Obj)),∀ h:AH,HR ρ h.get h.next w→Dx {} h k.pre=true→Ce ρ k.pre bs→aH ρ k.args args'.toList→Own W (bs++m) w →
   Calls P k.f args' w fun e w'=>∃ x ds bs',e = .returned x∧Own W (ds++(bs'++m)) w'∧bs'.map (·.1)=bs.map (·.1)∧ds.length=k.news.length ∧
    ∀ ρ':Ren,(∀ n p,n<rel→ρ n=some p→ρ' n=some p)→(∀ (i:Nat) d,ds[i]?=some d→ρ' (rel+i)=some (d.1,ji d.2)) →
     VR ρ' k.res x∧(∀ (i:Nat) t d,k.news[i]?=some t→ds[i]?=some d→TR ρ' t (ji d.2) (some d.2))∧∀ p∈k.post,∃ b o s,(b,o)∈bs'∧ρ p.1=some (b,s)∧TR ρ' p.2 s (some o)):rA P k:=by
 intro hcs;refine⟨hf,fun ρ h h' w args' v gK hH bJ => ?_⟩;unfold Kc.at at gK;split at gK<;>try(cases gK;done)
 rename_i fQ;split at gK<;>try(cases gK;done)
 rename_i hsm;have hsm:h.next+k.news.length<600000:=by simpa using hsm
 simp only[ZlP,ZxA]at gK;obtain⟨rfl,rfl⟩:=gK;obtain⟨Fw,Wm⟩:=Tu fQ;have hid:∀ n:Nat,({}:Sub).qA n=n:=fun n=>rfl;have mk:∀ (l:List (Nat×TB)),(∀ p∈l,p∈k.pre)→l.Nodup→∃ bs,Ce ρ l bs∧(∀ q∈bs,w.heap[q.1]?=some q.2)∧(bs.map (·.1)).Nodup:=by
  intro l
  induction l with
  |nil=>intro _ _;exact⟨[],rfl,(by simp),by simp⟩
  |cons p l ih =>
   intro hl jZ;obtain⟨n,t⟩:=p;obtain⟨bs,h1,h2,h3⟩:=ih (fun q hq=>hl q (ZnQ _ hq)) (List.nodup_cons.1 jZ).2;obtain⟨a,ha,VS⟩:=Fw (n,t) (hl _ ZnJ);rw[hid]at ha;obtain⟨b,s,hp,hO⟩:=hH.obj n a ha;have hT:=TR.Zt2.1 (TB.Gr VS hO);cases hx:w.heap[b]? with
   |none =>
    rw[hx]at hO;exact hO.EJ.elim
   |some o =>
    rw[hx]at hT;refine⟨(b,o)::bs,⟨b,o,s,bs,rfl,hp,hT,h1⟩,fun q hq => ?_,?_⟩
    ·rcases List.mem_cons.1 hq with rfl|hq
     ·exact hx
     ·exact h2 q hq
    ·rw[List.map_cons,ZxS]
     refine⟨fun hm => ?_,h3⟩;obtain⟨q,hq,Ec⟩:=List.mem_map.1 hm;obtain⟨p',lm,s',CB⟩:=Ce.back h1 q hq;obtain⟨a',ha',_⟩:=Fw p' (hl _ (ZnQ _ lm));rw[hid]at ha';rw[Ec]at CB;have D8:=hH.inj n p'.1 b s s' (by rw[ha];rfl) (by rw[ha'];rfl) hp CB;have:=Wm (n,t) (hl _ ZnJ) p' (hl _ (ZnQ _ lm)) D8;rw[this]at jZ;exact(List.nodup_cons.1 jZ).1 lm
 have jZ:k.pre.Nodup:=by
  have:∀ {l:List (Nat×TB)},Dx {} h l=true→l.Nodup:=by
   intro l
   induction l with
   |nil=>intro _;exact List.nodup_nil
   |cons p l ih =>
    intro hl;obtain⟨n,t⟩:=p;unfold Dx at hl;split at hl<;>try(cases hl;done)
    rw[Zxu,Zxu]at hl;refine List.nodup_cons.2 ⟨fun hm => ?_,ih hl.2.2⟩;exact Te hl.2.1 _ hm rfl
  exact this fQ
 obtain⟨bs,hF,lY,hbn⟩:=mk k.pre (fun _ h=>h) jZ
 let W:World:={ w with heap:=#[] }
 let m:List (Nat×Obj):=((List.range w.heap.size).filter fun b => !(bs.map (·.1)).contains b).map fun b=>(b,w.heap[b]?.getD (.map #[] 0))
 have pO:m.map (·.1)=(List.range w.heap.size).filter fun b => !(bs.map (·.1)).contains b:=by
  simp[m,List.map_map,Function.comp_def]
 have hO:Own W (bs++m) w:=by
  refine⟨⟨rfl,rfl,rfl,ZxV _,fun b hb=>by simp[W]at hb⟩,fun p hp=>⟨ZxV _,?_⟩,?_⟩
  ·rcases List.mem_append.1 hp with hp|hp
   ·exact lY p hp
   ·obtain⟨b,hb,rfl⟩:=List.mem_map.1 hp
    have aK:=List.mem_range.1 (List.mem_filter.1 hb).1;simp[ZxH aK]
  ·rw[List.map_append,ZxK]
   refine⟨hbn,by rw[pO];exact List.nodup_range.filter _,fun a ha b hb he => ?_⟩;rw[pO]at hb;have:=(List.mem_filter.1 hb).2;rw[← he]at this;simp only[Bool.not_eq_true',List.contains_eq_mem,decide_eq_false_iff_not]at this;exact this ha
 have ja:∀ b,b<w.heap.size→(∃ o,(b,o)∈bs)∨(b,w.heap[b]?.getD (.map #[] 0))∈m:=by
  intro b hb;by_cases hc:b∈bs.map (·.1)
  ·obtain⟨q,hq,rfl⟩:=List.mem_map.1 hc
   exact .inl ⟨q.2,hq⟩
  ·refine .inr (List.mem_map.2 ⟨b,List.mem_filter.2 ⟨List.mem_range.2 hb,?_⟩,rfl⟩)
   simp only[Bool.not_eq_true',List.contains_eq_mem,decide_eq_false_iff_not];exact hc
 refine(hc hcs ρ W w m args' bs h hH fQ hF bJ hO).mono ?_;rintro e w' ⟨x,ds,bs',rfl,DU,Cq,hdl,xK⟩;have hd:∀ (i:Nat) d,ds[i]?=some d→w'.heap[d.1]?=some d.2:=fun i d hi=>DU.get (b:=d.1) (o:=d.2) (List.mem_append_left _ (Zxz hi));have dP:∀ q∈bs',w'.heap[q.1]?=some q.2:=fun q hq=>DU.get (b:=q.1) (o:=q.2) (ZxU _ (List.mem_append_left _ hq));have ig:∀ b,b<w.heap.size→(∀ o,(b,o)∉bs)→w'.heap[b]?=w.heap[b]?:=by
  intro b hb fJ;rcases ja b hb with⟨o,ho⟩|hm
  ·exact absurd ho (fJ o)
  ·rw[DU.get (b:=b) (o:=w.heap[b]?.getD (.map #[] 0)) (ZxU _ (ZxU _ hm)),ZxH hb]
   rfl
 have Ae:∀ (i:Nat) d,ds[i]?=some d→w.heap.size≤d.1:=by
  intro i d hi;rcases Nat.lt_or_ge d.1 w.heap.size with aK|eD
  ·exfalso
   have xB:=DU.nd;rw[List.map_append,ZxK]at xB;have hdm:d.1∈ds.map (·.1):=List.mem_map.2 ⟨d,Zxz hi,rfl⟩;rcases ja d.1 aK with⟨o,ho⟩|hm
   ·have:d.1∈bs'.map (·.1):=by rw[Cq];exact List.mem_map.2 ⟨_,ho,rfl⟩
    exact xB.2.2 _ hdm _ (by rw[List.map_append];exact List.mem_append_left _ this) rfl
   ·exact xB.2.2 _ hdm _ (by rw[List.map_append];exact ZxU _ (List.mem_map.2 ⟨_,hm,rfl⟩)) rfl
  ·exact eD
 have nU:w.heap.size≤w'.heap.size:=by
  rcases Nat.lt_or_ge w'.heap.size w.heap.size with aK|eD
  ·exfalso
   have oV:w.heap.size - 1<w.heap.size:=(by omega);have:∃ o,w'.heap[w.heap.size - 1]?=some o:=by
    rcases ja _ oV with⟨o,ho⟩|hm
    ·have:(w.heap.size - 1)∈bs'.map (·.1):=by rw[Cq];exact List.mem_map.2 ⟨_,ho,rfl⟩
     obtain⟨q,hq,WI⟩:=List.mem_map.1 this;exact⟨q.2,by rw[← WI];exact dP q hq⟩
    ·exact⟨_,DU.get (b:=w.heap.size - 1) (o:=w.heap[w.heap.size - 1]?.getD (.map #[] 0)) (ZxU _ (ZxU _ hm))⟩
   obtain⟨o,ho⟩:=this;have:=yj ho;omega
  ·exact eD
 let ρ2:Ren:=fun n=>if n<h.next then ρ n else (ds[n - h.next]?).map fun d=>(d.1,ji d.2)
 have r1:∀ n,n<h.next→ρ2 n=ρ n:=fun n hn=>by simp[ρ2,hn]
 have r2:∀ (i:Nat) d,ds[i]?=some d→ρ2 (h.next+i)=some (d.1,ji d.2):=fun i d hi=>by
  simp only[ρ2,if_neg (show ¬ h.next+i<h.next by omega),Nat.add_sub_cancel_left,hi,Option.map_some]
 let ns:=Dl h.next 0 k.news
 let ρ3:Ren:=fun n=>ρ2 (rq n ns)
 have OD:∀ n,ρ3 n=ρ2 (rq n ns):=fun _=>rfl;obtain⟨hx,wE,Iz⟩:=xK ρ3 (fun n p hn hp=>by
  rw[OD,ZkT hn,r1 n (hH.lt hp)];exact hp) (fun i d hi=>by
  have Cs:i<k.news.length:=by rw[← hdl];exact(List.getElem?_eq_some_iff.1 hi).1
  rw[OD];have:=Za (nx:=h.next) (l:=k.news) (i:=0) (j:=i) Cs;rw[Nat.zero_add]at this;rw[this];exact r2 i d hi)
 refine⟨ρ2,x,rfl,(VR.ren OD).2 hx,?_⟩;have FC:(zD { n:=ns } k.news (zF { n:=ns } k.post (zB k.pre h))).next=h.next+k.news.length:=by
  rw[X7,Sr,Si]
 have under:∀ n o,(zD { n:=ns } k.news (zF { n:=ns } k.post (zB k.pre h))).get n=some o →
  (∃ (i:Nat) (d:Nat×Obj) (t:TB),ds[i]?=some d∧k.news[i]?=some t∧n=h.next+i∧o=(t.sub { n:=ns }).ao)∨(∃ t,(n,t)∈k.post∧n<h.next∧o=(t.sub { n:=ns }).ao)∨(n<h.next∧h.get n=some o∧∀ t,(n,t)∉k.pre):=by
  intro n o hg;rcases Yh hg with⟨i,t,h1,h2,h3⟩|⟨h1,h2⟩
  ·rw[Sr,Si]at h2
   have Cs:i<ds.length:=(by rw[hdl];exact(List.getElem?_eq_some_iff.1 h1).1);exact .inl ⟨i,ds[i],t,Zxp Cs,h1,h2,h3⟩
  ·have hk:∀ a,h.get n=some a→n<h.next:=fun a ha=>by
    obtain⟨b,s,hp,_⟩:=hH.obj n a ha;exact hH.lt hp
   rcases Yk h2 with⟨t,h3,h4⟩|h3
   ·obtain⟨t0,Ot⟩:=kr _ h3
    obtain⟨a,ha,_⟩:=Fw _ Ot;rw[hid]at ha;exact .inr (.inl ⟨t,h3,hk a ha,h4⟩)
   ·obtain⟨h4,h5⟩:=Yb h3
    exact .inr (.inr ⟨hk o h4,h4,h5⟩)
 have Aw:∀ n t,(n,t)∈k.post→∃ b s,ρ n=some (b,s)∧(h.get n).isSome=true∧TR ρ3 t s w'.heap[b]?:=by
  intro n t hm;obtain⟨b,o,s,h1,h2,h3⟩:=Iz _ hm;obtain⟨t0,Ot⟩:=kr _ hm;obtain⟨a,ha,_⟩:=Fw _ Ot;rw[hid]at ha;exact⟨b,s,h2,by rw[ha];rfl,by rw[dP _ h1];exact h3⟩
 have IB:∀ n o,h.get n=some o→(∀ t,(n,t)∉k.pre)→∃ b s,ρ n=some (b,s)∧w'.heap[b]?=w.heap[b]?∧OR ρ o s w.heap[b]?:=by
  intro n o hg fJ;obtain⟨b,s,hp,iB⟩:=hH.obj n o hg;have aK:b<w.heap.size:=by
   rcases Nat.lt_or_ge b w.heap.size with h1|h1
   ·exact h1
   ·rw[Zx1 h1]at iB
    exact iB.EJ.elim
  refine⟨b,s,hp,ig b aK fun o' gU => ?_,iB⟩;obtain⟨p,lm,s',CB⟩:=Ce.back hF _ gU;obtain⟨a,ha,_⟩:=Fw p lm;rw[hid]at ha;have:=hH.inj n p.1 b s s' (by rw[hg];rfl) (by rw[ha];rfl) hp CB;obtain⟨pn,pt⟩:=p;dsimp only at this;subst this;exact fJ _ lm
 have G9:∀ n p,ρ n=some p→ρ2 n=some p:=fun n p hp=>by rw[r1 n (hH.lt hp)];exact hp
 have FR:∀ n,((zD { n:=ns } k.news (zF { n:=ns } k.post (zB k.pre h))).get n).isSome=true→n<h.next→(h.get n).isSome=true:=by
  intro n hn aK;obtain⟨o,ho⟩:=Option.isSome_iff_exists.1 hn;rcases under n o ho with⟨i,d,t,h1,h2,h3,h4⟩|⟨t,h1,h2,h3⟩|⟨h1,h2,h3⟩
  ·omega
  ·obtain⟨b,s,_,h4,_⟩:=Aw n t h1
   exact h4
  ·rw[h2];rfl
 have IY:∀ n b s,((zD { n:=ns } k.news (zF { n:=ns } k.post (zB k.pre h))).get n).isSome=true→ρ2 n=some (b,s)→(h.next≤n∧∃ (i:Nat) (d:Nat×Obj),n=h.next+i∧ds[i]?=some d∧b=d.1)∨(n<h.next∧(h.get n).isSome=true∧ρ n=some (b,s)):=by
  intro n b s hn hp;by_cases aK:n<h.next
  ·rw[r1 n aK]at hp
   exact .inr ⟨aK,FR n hn aK,hp⟩
  ·obtain⟨o,ho⟩:=Option.isSome_iff_exists.1 hn
   rcases under n o ho with⟨i,d,t,h1,h2,h3,h4⟩|⟨t,h1,h2,h3⟩|⟨h1,h2,h3⟩
   ·subst h3
    rw[r2 i d h1]at hp;cases hp;exact .inl ⟨by omega,i,d,rfl,h1,rfl⟩
   ·omega
   ·omega
 have nO:∀ n b s,((zD { n:=ns } k.news (zF { n:=ns } k.post (zB k.pre h))).get n).isSome=true→ρ2 n=some (b,s)→w.heap.size≤b∨∃ m s',(h.get m).isSome=true∧ρ m=some (b,s'):=by
  intro n b s hn hp;rcases IY n b s hn hp with⟨_,i,d,_,h2,rfl⟩|⟨h1,h2,h3⟩
  ·exact .inl (Ae i d h2)
  ·exact .inr ⟨n,s,h2,h3⟩
 have zZ:∀ b,b<w.heap.size→(∀ n s,(h.get n).isSome=true→ρ n≠some (b,s))→w'.heap[b]?=w.heap[b]?:=by
  intro b hb hl;refine ig b hb fun o ho => ?_;obtain⟨p,lm,s',CB⟩:=Ce.back hF _ ho;obtain⟨a,ha,_⟩:=Fw p lm;rw[hid]at ha;exact hl p.1 s' (by rw[ha];rfl) CB
 have hT:=hH.tables (w':=w') zZ nO;refine⟨⟨fun n hn => ?_,fun n o ho => ?_,fun n q b s s' hn hq hp lm => ?_,hT.1,hT.2.1,hT.2.2.1,hT.2.2.2⟩,r1,by rw[FC];omega,DU.below.os,DU.below.tape,DU.below.output,nU,zZ,nO,fun n hn eB=>FR n eB hn⟩
 ·rw[FC]at hn
  show(if n<h.next then ρ n else (ds[n - h.next]?).map fun d=>(d.1,ji d.2))=none;rw[if_neg (by omega),List.getElem?_eq_none (by omega)];rfl
 ·rcases under n o ho with⟨i,d,t,h1,h2,h3,h4⟩|⟨t,h1,h2,h3⟩|⟨h1,h2,h3⟩
  ·subst h3;subst h4
   refine⟨d.1,ji d.2,r2 i d h1,?_⟩;rw[hd i d h1];exact((TR.ren OD).2 (wE i t d h2 h1)).or
  ·subst h3
   obtain⟨b,s,h4,_,h5⟩:=Aw n t h1;exact⟨b,s,G9 _ _ h4,((TR.ren OD).2 h5).or⟩
  ·obtain⟨b,s,h4,h5,h6⟩:=IB n o h2 h3
   refine⟨b,s,G9 _ _ h4,?_⟩;rw[h5];exact h6.mono G9
 ·rcases IY n b s hn hp with⟨_,i,d,rfl,h2,rfl⟩|⟨h1,h2,h3⟩<;>rcases IY q _ s' hq lm with⟨_,j,d',rfl,h5,h6⟩|⟨h4,h5,h6⟩
  ·have xB:=DU.nd
   rw[List.map_append,ZxK]at xB;have h7:(ds.map (·.1))[i]?=some d.1:=(by simp[h2]);have h8:(ds.map (·.1))[j]?=some d.1:=(by simp[h5,h6]);have:=(List.getElem?_inj (List.getElem?_eq_some_iff.1 h7).1 xB.1).1 (h7.trans h8.symm);omega
  ·exfalso
   obtain⟨a,ha⟩:=Option.isSome_iff_exists.1 h5;obtain⟨b2,s2,mD,hO2⟩:=hH.obj q a ha;rw[h6]at mD;cases mD;have:=Ae i d h2;rw[Zx1 this]at hO2;exact hO2.EJ
  ·exfalso
   obtain⟨a,ha⟩:=Option.isSome_iff_exists.1 h2;obtain⟨b2,s2,mD,hO2⟩:=hH.obj n a ha;rw[h3]at mD;cases mD;have:=Ae j d' h5;rw[h6,Zx1 this]at hO2;exact hO2.EJ
  ·exact hH.inj n q b s s' h2 h5 h3 h6
theorem ZsC {k:Kc}(hf:rz P k.f)(kr:∀ p∈k.post,∃ t,(p.1,t)∈k.pre)(Ob:∀ p∈k.pre,p.1<rel)
 (hc:(∀ c∈k.conds,c.1.ev au.σ=c.2)→∀ (ρ:Ren) (W w:World) (m:List (Nat×Obj)) (args':Array Value) (bs:List (Nat×Obj)),Ce ρ k.pre bs→aH ρ k.args args'.toList→Own W (bs++m) w →
   Calls P k.f args' w fun e w'=>∃ x ds bs',e = .returned x∧Own W (ds++(bs'++m)) w'∧bs'.map (·.1)=bs.map (·.1)∧ds.length=k.news.length ∧
    ∀ ρ':Ren,(∀ n p,n<rel→ρ n=some p→ρ' n=some p)→(∀ (i:Nat) d,ds[i]?=some d→ρ' (rel+i)=some (d.1,ji d.2)) →
     VR ρ' k.res x∧(∀ (i:Nat) t d,k.news[i]?=some t→ds[i]?=some d→TR ρ' t (ji d.2) (some d.2))∧∀ p∈k.post,∃ b o s,(b,o)∈bs'∧ρ p.1=some (b,s)∧TR ρ' p.2 s (some o)):rA P k :=
 ZqR hf kr Ob fun hcs ρ W w m args' bs _ _ _=>hc hcs ρ W w m args' bs
end
end Ex
end Go.Proofs.YtfcpdlbkmkhhcaaGreatDoor
