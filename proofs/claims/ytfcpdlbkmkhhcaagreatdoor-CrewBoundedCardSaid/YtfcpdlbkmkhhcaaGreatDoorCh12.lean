/-
  Texts of this claim, joined. No condition.
-/
import Derived.Test.YtfcpdlbkmkhhcaaGreatDoorCh1
import Derived.Test.YtfcpdlbkmkhhcaaGreatDoorCh11
import Derived.Test.YtfcpdlbkmkhhcaaGreatDoorCh10
import Derived.Maps.AppendAt
import Derived.Laws.AppendOwnNone
import Derived.Lib.SliceRun
import Derived.Deep.DeepCutAuto
import Derived.Deep.CutBlock
import Derived.Deep.Slices
namespace Go.Proofs.YtfcpdlbkmkhhcaaGreatDoor
set_option maxRecDepth 100000
set_option maxHeartbeats 40000000
namespace Ex
open Go
section
variable {P:Program}{gs:List (Nat×List Int)}{dY:List (Nat×CK)}{ro:Nat→Option (Option Addr×Nat×Nat)}{σ:Nat→Int}{Ω:Nat→Nat→Nat→Obj→Prop}
abbrev FT (l:List Kc):Kg:=fun _=>l
theorem ZnB {f:FuncId}:Zrx gs dY ro P f σ Ω []:=fun fs ok c hc l hl=>by cases hl
theorem BF [au]{k:Kc}(ha:AV.shuts k.args=true)(hv:k.res.shut=true)(Eb:k.pre=[])(kr:k.post=[])(wE:k.news=[])(hf:rz P k.f)
 (hc:(∀ c∈k.conds,c.1.ev au.σ=c.2)→∀ (W w:World) (m:List (Nat×Obj)),Own W m w→Calls P k.f (eU au.σ k.args).toArray w fun e w'=>e = .returned (valOf au.σ k.res)∧Own W m w'):rA P k:=by
 refine ZsC hf (by rw[kr];intro p hp;cases hp) (by rw[Eb];intro p hp;cases hp) fun hcs ρ W w m args' bs hF bJ hO => ?_;have lY:bs=[]:=by rw[Eb]at hF;exact hF
 subst lY;have bJ:=aH.shut bJ ha;have bJ:args'=(eU au.σ k.args).toArray:=by rw[← bJ]
 subst bJ;refine(hc hcs W w m hO).mono ?_;rintro e w' ⟨rfl,h'⟩;refine⟨_,[],[],rfl,h',rfl,by rw[wE];rfl,fun ρ' _ _=>⟨VR.wU hv,fun i t d hi=>by rw[wE]at hi;simp at hi,fun p hp=>by rw[kr]at hp;cases hp⟩⟩
theorem Sw (hm:P.follows .mixedOrders=true){f:FuncId}{pU:Kg}{tO:List Ln}(hk:Jy gs dY ro P σ Ω pU)(hl:Zrx gs dY ro P f σ Ω tO){n:Nat}{args:List AV}{t:Tm}{K:AV→List (Nat×TB)→Prop}{ρ:Ren}{w:World}{args':Array Value} :
 ∀ (d:CT) (fs:List (dB×Bool)) (ok:∀ f∈fs,f.1.ev σ=f.2),BX P gs dY pU tO n f args t d fs=true→QO σ K d →
 @HR (nums gs dY ro σ Ω fs ok) ρ t.h.get t.h.next w→@aH (nums gs dY ro σ Ω fs ok) ρ args args'.toList →
 Calls P f args' w fun e w'=>∃ fs' ok' v post ρ' x,∃ h':AH,K v post∧e = .returned x∧@VR (nums gs dY ro σ Ω fs' ok') ρ' v x∧@Stp (nums gs dY ro σ Ω fs' ok') ρ t.h.get t.h.next w ρ' h'.get h'.next w'∧∀ p∈post,(h'.get p.1).isSome=true∧∃ b s,ρ' p.1=some (b,s)∧@TR (nums gs dY ro σ Ω fs' ok') ρ' p.2 s w'.heap[b]?
 | .is v post,fs,ok,h,hK,hH,bJ=>by
   unfold BX at h
   letI N:au:=nums gs dY ro σ Ω fs ok
   split at h<;>try(cases h;done)
   rename_i fn hf;split at h<;>try(cases h;done)
   split at h<;>try(cases h;done)
   rename_i c hb;split at h<;>try(cases h;done)
   rename_i iF;rw[Zxu]at iF;have iF:=Zx4 iF.1;have hnt:U4 P f=fn.ntmps:=(by unfold U4;rw[hf]);have Aa:Uy P f=c:=(by unfold Uy;rw[hf];dsimp only;rw[hb]);have DV:args.length=args'.size:=(by simpa using aH.len bJ);have hE:ER ρ (Dp 0 args .e) fn.ntmps { tmps:=args'++Array.replicate (fn.ntmps - args'.size) undef,defers:=[] }:=by
    refine⟨rfl,by simp;omega,fun t v hv => ?_⟩;rcases Py hv with⟨_,h1⟩|h1
    ·rw[Nat.sub_zero]at h1
     obtain⟨x,hx,hr⟩:=aH.get bJ h1;refine⟨x,?_,hr⟩;have aK:=(List.getElem?_eq_some_iff.1 hx).1;rw[Array.getElem?_append_left (by simpa using aK)];simpa using hx
    ·rw[T.sQ]at h1;cases h1
   split at h<;>try(cases h;done)
   rename_i x aG h1 fJ hx;split at h<;>try(cases h;done)
   rename_i vs mX;rw[Zxu]at h;refine calls_of_wp hf hb (wp_mono (vM (L:=l6 c) hm (X9 hm (fun _=>hk fs ok) n) (fun d hd l rT aV=>by
    have:=hl fs ok d (by rw[Aa];exact hd) l rT aV;rw[hnt]at this;exact this) c _ _ _ _ _ (fun _ h=>h) hx ρ w _ hE hH) ?_)
   rintro e a1 w1 ⟨rfl,ρ1,aW,hE1⟩;obtain⟨y,hy,aO⟩:=Sk (fn:=fn) aW.hr hE1 mX;have kr:∀ p∈post,(h1.get p.1).isSome=true∧∃ b s,ρ1 p.1=some (b,s)∧TR ρ1 p.2 s w1.heap[b]?:=fun p hp=>by
    obtain⟨a,ha,VS⟩:=(Tu h.2).1 p hp;have hid:({}:Sub).qA p.1=p.1:=rfl;rw[hid]at ha;obtain⟨b,s,lY,hO⟩:=aW.hr.obj _ _ ha;exact⟨by rw[ha];rfl,b,s,lY,TR.Zt2.1 (TB.Gr VS hO)⟩
   cases x with
   |exit id=>exact absurd rfl (fJ id)
   |normal=>exact⟨hE1.dz,y,aO,fs,ok,v,post,ρ1,y,h1,hK,rfl,AV.Gr h.1 hy,aW,kr⟩
   |ret=>exact⟨hE1.dz,y,aO,fs,ok,v,post,ρ1,y,h1,hK,rfl,AV.Gr h.1 hy,aW,kr⟩
 | .bad,_,_,_,hK,_,_=>hK.elim
 | .node q d e,fs,ok,h,hK,hH,bJ=>by
   unfold BX at h;split at h<;>try(cases h;done)
   rename_i h1;cases hq:q.ev σ with
   |true=>exact Sw hm hk hl d ((q,true)::fs) (ZL ok hq) h1 (hK.1 hq) (HR.oK hH) (aH.oK bJ)
   |false=>exact Sw hm hk hl e ((q,false)::fs) (ZL ok hq) h (hK.2 hq) (HR.oK hH) (aH.oK bJ)
end
def sg (v:Nat→Int)(l:Nat→List (List Int))(n:Nat):Int :=
 if n<2048 then v n else if n<4096 then ((l (n - 2048)).length:Int) else (((l ((n - 4096) % 64))[(n - 4096) / 64 / 64]?).getD [])[(n - 4096) / 64 % 64]?.getD 0
theorem Zuf {v:Nat→Int}{l:Nat→List (List Int)}{i:Nat}(h:i<2048):sg v l i=v i:=by simp[sg,h]
theorem ZtJ {v:Nat→Int}{l:Nat→List (List Int)}{i:Nat}(h:i<64):sg v l (ln i)=((l i).length:Int):=by
 unfold sg ln;rw[if_neg (by omega),if_pos (by omega),Nat.add_sub_cancel_left]
theorem ZtI {v:Nat→Int}{l:Nat→List (List Int)}{i e j:Nat}(hi:i<64)(hj:j<64):sg v l (lc i e j)=(((l i)[e]?).getD [])[j]?.getD 0:=by
 unfold sg lc;rw[if_neg (by omega),if_neg (by omega),Nat.add_sub_cancel_left];have h1:((e * 64+j) * 64+i) % 64=i:=by omega
 have h2:((e * 64+j) * 64+i) / 64=e * 64+j:=by omega
 have h3:(e * 64+j) / 64=e:=by omega
 have h4:(e * 64+j) % 64=j:=by omega
 rw[h1,h2,h3,h4]
end Ex
namespace Ex
open Go
def Zug (θ:Sub)(pre:List (Nat×TB)):List (Nat×TB):=pre.map fun p=>(p.1,p.2.sub θ)
def ZpO (θ:Sub):Nat→List TB→List (Nat×TB)
 |_,[]=>[]
 |i,t::l=>(θ.qA (Nat.add rel i),t.sub θ)::ZpO θ (Nat.add i 1) l
def Zo0 (k:Kc)(θ:Sub):List (Nat×TB):=Zug θ k.post++ZpO θ 0 k.news
def Kc.leaf (k:Kc)(θ:Sub):CT:=.is (k.res.sub θ) (Zo0 k θ)
def ZtA:TB→Bool
 | .mG _ _ _=>false
 |_=>true
theorem TR.size {N:au}{ρ:Ren}{t:TB}{s:Nat}{o:Obj}(h:@TR N ρ t s (some o))(hn:ZtA t=true):s=ji o:=by
 cases t with
 |cells l e=>obtain⟨cur,h1,h2,_⟩:=h;cases h1;exact h2.symm
 |recs l ks e=>obtain⟨cur,h1,h2,_⟩:=h;cases h1;exact h2.symm
 |mG i n m=>cases hn
end Ex
namespace Ex
open Go RowKit
section
variable {P:Program}{gs:List (Nat×List Int)}{dY:List (Nat×CK)}{σ:Nat→Int}{Ω:Nat→Nat→Nat→Obj→Prop}
abbrev j6:Nat→Option (Option Addr×Nat×Nat):=fun _=>none
def rD (n0 n1 b0 s0 b1 s1:Nat):Ren:=fun n=>if n=n0 then some (b0,s0) else if n=n1 then some (b1,s1) else none
theorem TD (hm:P.follows .mixedOrders=true){f:FuncId}{pU:Kg}(hk:Jy gs dY j6 P σ Ω pU){n:Nat}{args:List AV}{n0 n1:Nat}{t0 t1:TB}{B:Bd}(hne:n0≠n1)(h0:n0<B.kn)(h1:n1<B.kn)(_hB:B.kn≤1000000)
 {d:CT} {fs:List (dB×Bool)} (ok:∀ q∈fs,q.1.ev σ=q.2) (h:BX P gs dY pU [] n f args ⟨[],[(n0,t0),(n1,t1)],B⟩ d fs=true)
 {K:AV→List (Nat×TB)→Prop} (hr:QO σ (fun v post=>∃ p0 p1,post=[(n0,p0),(n1,p1)]∧K v post) d)
 {W w:World} {m:List (Nat×Obj)} {b0 b1:Nat} {o0 o1:Obj} (ql:jR gs w) (hgW:∀ b l,sP b gs=some l→b<W.heap.size) (hO:Own W ((b0,o0)::(b1,o1)::m) w)
 (hT0:@TR (nums gs dY j6 σ Ω fs ok) (rD n0 n1 b0 (ji o0) b1 (ji o1)) t0 (ji o0) (some o0)) (hT1:@TR (nums gs dY j6 σ Ω fs ok) (rD n0 n1 b0 (ji o0) b1 (ji o1)) t1 (ji o1) (some o1))
 {args':Array Value} (bJ:@aH (nums gs dY j6 σ Ω fs ok) (rD n0 n1 b0 (ji o0) b1 (ji o1)) args args'.toList) :
 Calls P f args' w fun e w'=>∃ fs' ok' v p0 p1 ρ' x IZ I4,K v [(n0,p0),(n1,p1)]∧e = .returned x∧ρ' n0=some (b0,ji o0)∧ρ' n1=some (b1,ji o1)∧@VR (nums gs dY j6 σ Ω fs' ok') ρ' v x ∧
  @TR (nums gs dY j6 σ Ω fs' ok') ρ' p0 (ji o0) (some IZ)∧@TR (nums gs dY j6 σ Ω fs' ok') ρ' p1 (ji o1) (some I4)∧Own W ((b0,IZ)::(b1,I4)::m) w':=by
 have hb:b0≠b1:=(hO.ne ZnJ).symm;have hg:∀ q o,(⟨[],[(n0,t0),(n1,t1)],B⟩:Tm).h.get q=some o→(q=n0∧o=t0.ao)∨(q=n1∧o=t1.ao):=fun q o hq=>by
  obtain⟨t,ht,rfl⟩:=Y8 hq;simp only[ZxF,ZxA,List.not_mem_nil,or_false]at ht;rcases ht with⟨rfl,rfl⟩|⟨rfl,rfl⟩
  ·exact Or.inl ⟨rfl,rfl⟩
  ·exact Or.inr ⟨rfl,rfl⟩
 have r0:rD n0 n1 b0 (ji o0) b1 (ji o1) n0=some (b0,ji o0):=if_pos rfl;have r1:rD n0 n1 b0 (ji o0) b1 (ji o1) n1=some (b1,ji o1):=by
  unfold rD;rw[if_neg (Ne.symm hne),if_pos rfl]
 have hH:@HR (nums gs dY j6 σ Ω fs ok) (rD n0 n1 b0 (ji o0) b1 (ji o1)) (⟨[],[(n0,t0),(n1,t1)],B⟩:Tm).h.get (⟨[],[(n0,t0),(n1,t1)],B⟩:Tm).h.next w:=by
  refine @HR.mk (nums gs dY j6 σ Ω fs ok) _ _ _ _ (fun q hq => ?_) (fun q o hq => ?_) (fun q q' b s s' hq WH e e' => ?_) ql (fun b l hf q s hq he => ?_) (fun i k A len c _ hf=>by cases hf) (fun b hf => ?_)
  ·have Wq:B.kn≤q:=hq
   unfold rD;rw[if_neg (by omega),if_neg (by omega)]
  ·rcases hg q o hq with⟨rfl,rfl⟩|⟨rfl,rfl⟩
   ·refine⟨b0,ji o0,r0,?_⟩
    rw[hO.get ZnJ];exact @TR.or (nums gs dY j6 σ Ω fs ok) _ _ _ _ hT0
   ·refine⟨b1,ji o1,r1,?_⟩
    rw[hO.skip.get ZnJ];exact @TR.or (nums gs dY j6 σ Ω fs ok) _ _ _ _ hT1
  ·obtain⟨a,ha⟩:=Option.isSome_iff_exists.1 hq
   obtain⟨a',ha'⟩:=Option.isSome_iff_exists.1 WH;rcases hg q a ha with⟨rfl,-⟩|⟨rfl,-⟩<;>rcases hg q' a' ha' with⟨rfl,-⟩|⟨rfl,-⟩
   ·rfl
   ·rw[r0]at e
    rw[r1]at e';cases e;cases e';exact absurd rfl hb
   ·rw[r1]at e
    rw[r0]at e';cases e;cases e';exact absurd rfl hb
   ·rfl
  ·have aK:=hgW b l hf
   have g0:=hO.ge ZnJ;have g1:=hO.skip.ge ZnJ;obtain⟨a,ha⟩:=Option.isSome_iff_exists.1 hq;rcases hg q a ha with⟨rfl,-⟩|⟨rfl,-⟩
   ·rw[r0]at he
    cases he;omega
   ·rw[r1]at he
    cases he;omega
  ·obtain⟨i,k,a,len,c,_,hf,_⟩:=hf
   cases hf
 refine(Sw hm hk ZnB d fs ok h hr hH bJ).mono ?_;rintro e w' ⟨fs',ok',v,post,ρ',x,h',⟨p0,p1,rfl,hK⟩,rfl,hv,aW,hp⟩;have OL:=@Stp.ext (nums gs dY j6 σ Ω fs' ok') _ _ _ _ _ _ _ _ aW;have I5:=@Stp.block (nums gs dY j6 σ Ω fs' ok') _ _ _ _ _ _ _ _ aW;have e0:ρ' n0=some (b0,ji o0):=(OL n0 h0).trans r0;have e1:ρ' n1=some (b1,ji o1):=(OL n1 h1).trans r1;obtain⟨_,c0,z0,q0,T0⟩:=hp _ ZnJ;obtain⟨_,c1,z1,q1,T1⟩:=hp _ (ZnQ _ ZnJ);dsimp only at q0 q1 T0 T1;rw[e0]at q0;rw[e1]at q1;cases q0;cases q1;obtain⟨IZ,Kb⟩:∃ o,w'.heap[b0]?=some o:=by
  cases hx:w'.heap[b0]? with
  |none=>rw[hx]at T0;exact(@OR.EJ (nums gs dY j6 σ Ω fs' ok') _ _ _ (@TR.or (nums gs dY j6 σ Ω fs' ok') _ _ _ _ T0)).elim
  |some o=>exact⟨o,rfl⟩
 obtain⟨I4,xC⟩:∃ o,w'.heap[b1]?=some o:=by
  cases hx:w'.heap[b1]? with
  |none=>rw[hx]at T1;exact(@OR.EJ (nums gs dY j6 σ Ω fs' ok') _ _ _ (@TR.or (nums gs dY j6 σ Ω fs' ok') _ _ _ _ T1)).elim
  |some o=>exact⟨o,rfl⟩
 rw[Kb]at T0;rw[xC]at T1;have same:∀ b,b<w.heap.size→b≠b0→b≠b1→w'.heap[b]?=w.heap[b]?:=fun b aK mW mr=>I5 b aK fun q s hq he=>by
  obtain⟨a,ha⟩:=Option.isSome_iff_exists.1 hq;rcases hg q a ha with⟨rfl,-⟩|⟨rfl,-⟩
  ·rw[r0]at he
   cases he;exact mW rfl
  ·rw[r1]at he
   cases he;exact mr rfl
 have dn:=@Stp.size (nums gs dY j6 σ Ω fs' ok') _ _ _ _ _ _ _ _ aW;refine⟨fs',ok',v,p0,p1,ρ',x,IZ,I4,hK,rfl,e0,e1,hv,T0,T1,⟨⟨?_,?_,?_,?_,?_⟩,?_,?_⟩⟩
 ·exact(@Stp.os (nums gs dY j6 σ Ω fs' ok') _ _ _ _ _ _ _ _ aW).trans hO.below.os
 ·exact(@Stp.tape (nums gs dY j6 σ Ω fs' ok') _ _ _ _ _ _ _ _ aW).trans hO.below.tape
 ·exact(@Stp.output (nums gs dY j6 σ Ω fs' ok') _ _ _ _ _ _ _ _ aW).trans hO.below.output
 ·exact ZxL hO.size_le dn
 ·intro b dP
  have g0:=hO.ge ZnJ;have g1:=hO.skip.ge ZnJ;exact(same b (Nat.lt_of_lt_of_le dP hO.size_le) (by omega) (by omega)).trans (hO.below.block b dP)
 ·intro p Iy
  rcases List.mem_cons.1 Iy with rfl|Iy
  ·exact⟨hO.ge ZnJ,Kb⟩
  ·rcases List.mem_cons.1 Iy with rfl|Iy
   ·exact⟨hO.skip.ge ZnJ,xC⟩
   ·have pO:=hO.at_ p (ZnQ _ (ZnQ _ Iy))
    refine⟨pO.1,(same p.1 (yj pO.2) (fun he => ?_) (fun he => ?_)).trans pO.2⟩
    ·exact hO.ne (o':=p.2) (ZnQ _ (show(p.1,p.2)∈m from Iy)) he
    ·exact hO.skip.ne (o':=p.2) (show(p.1,p.2)∈m from Iy) he
 ·exact hO.nd
end
end Ex
namespace Cw
open Go Ex
noncomputable section
def v (i:Nat):SE:=.var i
def l (n:Int):SE:=.lit n
def si (e:SE):AV:=.sym .i64 e
def su (e:SE):AV:=.sym .u64 e
def add (a b:SE):SE:=.iH .add a b
def JA:SE:=.iH .mul (l 4) (v 0)
def ZpT:SE:=add JA (l 1)
def ZsA:SE:=add JA (l 2)
def UX (c:SE):SE:=.iH .mul (l 4) c
def ZsS (c:SE):SE:=add (UX c) (l 2)
def UH (s:SE):SE:=add (add JA (l 4)) (.iH .mul (l 4) s)
def ZsQ (s:SE):SE:=add (UH s) (l 2)
def ZsG (s o:SE):SE:=add (add (add (add JA (l 4)) (.iH .mul (l 4) (v 1))) (.iH .mul s (v 2))) o
def Vh (s:SE):SE:=.fH .add (v 5) (.fH .mul (.cv .u64 s) (l 11400714819323198485))
def w (e:SE):SE:=.at (.dA 0) e 0
def vQ (cnt:SE)(L:SE):List (Nat×TB):=[(3002,.cells [.lC 3003 (v 30) 1,si cnt] 97),(3003,.recs L [.int .u64] 22)]
def JW:AV:=.agg [si (v 0),si (v 1),si (v 2),si (v 3),si (v 4),su (v 5)]
def Bh (e:SE)(a b:Int):List (dB×Bool):=[(.lt e (l a),false),(.lt e (l b),true)]
def acc (e:SE)(k:Nat):List (dB×Bool):=[(.lt e (l 0),false),(.lt (.iH .sub (v 30) (l k)) e,false),(.lt e (v 30),true),(.lt e (.len (.dA 0)),true)]++(if k=2 then [(.lt (add e (l 1)) (l 0),false),(.lt (add e (l 1)) (v 30),true),(.lt (add e (l 1)) (.len (.dA 0)),true)] else [])
def fC:List (dB×Bool):=Bh (v 0) 1 9++Bh (v 1) 1 33++Bh (v 2) 1 17++Bh (v 3) 0 33++Bh (v 4) 0 33++Bh (v 11) 0 8++[(.lt (v 11) (v 0),true)]++Bh (v 30) 1 4097++Bh (.len (.dA 0)) 1 4097++Bh (v 31) 0 1000000000
structure Wy where
 f:FuncId
 pc:Int
 pU:List Kc
 fs:List (dB×Bool)
 res:List AV
 g:SE
def Du (pc:Int):List AV:=[si (v 10),si (v 11),.int .i64 pc,.int .i64 0,.int .i64 0,si (v 15),si (v 16),su (v 17),su (v 18),su (v 19),su (v 20),su (v 21),si (v 22),si (v 23),si (v 24),si (v 25),si (v 26)]
def Wy.run (x:Wy):Bool:=BX Tryz.prog aJ.gs [] (FT x.pU) [] 40 x.f [.ptr 3002 0,JW,.agg (Du x.pc)] ⟨[],vQ (v 31) (.dA 0),⟨60,1,0,3004⟩⟩ (.is (.gV [.agg x.res,.int .i64 0]) (vQ (add (v 31) (l 1)) x.g)) (x.fs++fC)
end
end Cw
section
open Go.RowKit
def gI (ex:Bool)(e size:Nat)(v:Value)(n:Nat)(xs:List Value)(bs:List (Nat×Obj)):Prop :=
 xs.length=n * size∧((v = .slice none 0 0∧n=0∧bs=[]) ∨
  ∃ g cap cur,v = .slice (some ⟨g,0,none⟩) n cap∧bs=[(g,.cells cur e)]∧n≤cap∧cap≤maxLen∧(cap * size≤cur.size∧(ex=true→cur.size=cap * size))∧cur.toList.take (n * size)=xs)
abbrev Jz:=gI true
def Src (w:World)(size:Nat)(v:Value)(n:Nat)(xs:List Value):Prop :=
 xs.length=n * size∧((v = .slice none 0 0∧n=0)∨∃ a c,v = .slice (some a) n c∧∀ j u,xs[j]?=some u→w.cell? (a.add j)=some u)
theorem PY (g j:Nat):(⟨g,0,none⟩:Addr).add j=⟨g,j,none⟩:=by
 unfold Addr.add;split<;>simp_all
section
variable {ex:Bool}{W w:World}{m:List (Nat×Obj)}{e size n:Nat}{v:Value}{xs:List Value}{bs:List (Nat×Obj)}{P:Program}
theorem gI.nil (ex:Bool)(e size:Nat):gI ex e size (.slice none 0 0) 0 [] []:=⟨by simp,.inl ⟨rfl,rfl,rfl⟩⟩
theorem gI.made (ex:Bool)(e size g cap:Nat)(cur:Array Value)(n:Nat)(hn:n≤cap)(hc:cap≤maxLen)(hs:cur.size=cap * size) :
 gI ex e size (.slice (some ⟨g,0,none⟩) n cap) n (cur.toList.take (n * size)) [(g,.cells cur e)] :=
 ⟨by rw[List.length_take,Array.length_toList,hs,Nat.min_eq_left (ZxR _ hn)],.inr ⟨g,cap,cur,rfl,rfl,hn,hc,⟨by omega,fun _=>hs⟩,rfl⟩⟩
theorem gI.form (h:gI ex e size v n xs bs)(hn:0<n):∃ g cap cur,v = .slice (some ⟨g,0,none⟩) n cap∧bs=[(g,.cells cur e)]∧n≤cap∧cap≤maxLen∧(cap * size≤cur.size∧(ex=true→cur.size=cap * size))∧cur.toList.take (n * size)=xs:=by
 rcases h.2 with⟨_,h0,_⟩|h
 ·omega
 ·exact h
theorem gI.slice (h:gI ex e size v n xs bs):∃ A cap,v = .slice A n cap∧n≤cap∧cap≤maxLen:=by
 rcases h.2 with⟨rfl,rfl,_⟩|⟨g,cap,cur,rfl,_,h1,h2,_⟩
 ·exact⟨none,0,rfl,Zxt _,by unfold maxLen;omega⟩
 ·exact⟨_,cap,rfl,h1,h2⟩
theorem gI.cell (h:gI ex e size v n xs bs)(hO:Own W (bs++m) w){g cap:Nat}(hv:v = .slice (some ⟨g,0,none⟩) n cap){j:Nat}{u:Value}(hj:xs[j]?=some u):w.cell? ⟨g,j,none⟩=some u:=by
 rcases h.2 with⟨rfl,_,_⟩|⟨g',cap',cur,rfl,rfl,h1,h2,h3,h4⟩
 ·cases hv
 ·simp only[Value.slice.injEq,ZlP,Addr.mk.injEq,and_true,true_and]at hv
  obtain⟨rfl,rfl⟩:=hv;rw[hO.cell ZnJ];rw[← h4]at hj;rw[List.getElem?_take]at hj;split at hj
  ·simpa using hj
  ·cases hj
theorem gI.src (h:gI ex e size v n xs bs)(hO:Own W (bs++m) w):Src w size v n xs:=by
 refine⟨h.1,?_⟩;rcases h.2 with⟨rfl,rfl,_⟩|⟨g,cap,cur,rfl,h0,_⟩
 ·exact .inl ⟨rfl,rfl⟩
 ·refine .inr ⟨_,_,rfl,fun j u hj => ?_⟩
  rw[PY];exact h.cell hO rfl hj
theorem gI.free (h:gI ex e size v n xs bs)(hO:Own W (bs++m) w){g cap:Nat}(hv:v = .slice (some ⟨g,0,none⟩) n cap)(j:Nat):w.frozen? ⟨g,j,none⟩=false:=by
 rcases h.2 with⟨rfl,_,_⟩|⟨g',cap',cur,rfl,rfl,_⟩
 ·cases hv
 ·simp only[Value.slice.injEq,ZlP,Addr.mk.injEq,and_true,true_and]at hv
  obtain⟨rfl,rfl⟩:=hv;exact hO.frozen ZnJ j
theorem gI.lt (h:gI ex e size v n xs bs)(hO:Own W (bs++m) w){g cap:Nat}(hv:v = .slice (some ⟨g,0,none⟩) n cap):g<w.heap.size:=by
 rcases h.2 with⟨rfl,_,_⟩|⟨g',cap',cur,rfl,rfl,_⟩
 ·cases hv
 ·simp only[Value.slice.injEq,ZlP,Addr.mk.injEq,and_true,true_and]at hv
  obtain⟨rfl,rfl⟩:=hv;exact hO.lt ZnJ
theorem gI.store (h:gI ex e size v n xs bs)(hO:Own W (bs++m) w){g cap:Nat}(hv:v = .slice (some ⟨g,0,none⟩) n cap){j:Nat}(_hj:j<n * size)(u:Value) :
 ∃ bs',gI ex e size v n (xs.set j u) bs'∧Own W (bs'++m) (w.setCell ⟨g,j,none⟩ u):=by
 rcases h.2 with⟨rfl,_,_⟩|⟨g',cap',cur,rfl,rfl,h1,h2,h3,h4⟩
 ·cases hv
 ·simp only[Value.slice.injEq,ZlP,Addr.mk.injEq,and_true,true_and]at hv
  obtain⟨rfl,rfl⟩:=hv;refine⟨[(g',.cells (cur.setIfInBounds j u) e)],⟨by rw[List.length_set];exact h.1,.inr ⟨g',cap',_,rfl,rfl,h1,h2,by rw[Array.size_setIfInBounds];exact h3,?_⟩⟩,hO.set j u⟩;rw[Array.toList_setIfInBounds,List.take_set,h4]
theorem gI.shorter (h:gI ex e size v n xs bs){g cap k:Nat}(hv:v = .slice (some ⟨g,0,none⟩) n cap)(hk:k≤n):gI ex e size (.slice (some ⟨g,0,none⟩) k cap) k (xs.take (k * size)) bs:=by
 rcases h.2 with⟨rfl,_,_⟩|⟨g',cap',cur,rfl,rfl,h1,h2,h3,h4⟩
 ·cases hv
 ·simp only[Value.slice.injEq,ZlP,Addr.mk.injEq,and_true,true_and]at hv
  obtain⟨rfl,rfl⟩:=hv;have iF:k * size≤n * size:=ZxR _ hk;refine⟨by rw[List.length_take,h.1];omega,.inr ⟨g',cap',cur,rfl,rfl,by omega,h2,h3,?_⟩⟩;rw[← h4,List.take_take,Nat.min_eq_left iF]
theorem Src.below (h:Src w size v n xs){w':World}(hb:Below w.heap.size w w'):Src w' size v n xs:=by
 refine⟨h.1,?_⟩;rcases h.2 with h0|⟨b,c,hv,hc⟩
 ·exact .inl h0
 ·refine .inr ⟨b,c,hv,fun j x hj => ?_⟩
  have:=hc j x hj;rw[hb.cell (World.block_lt_of_cell? w _ this)];exact this
theorem Src.GG (h:Src W size v n xs)(hO:Own W m w):Src w size v n xs:=h.below hO.below
theorem ZW (t ty e:TypeId)(i:TypeInfo)(z:Value)(size bytes:Nat)(ht:P.underlying t=some (.slice e))(hi:P.info? e=some i)(hz:i.zero=some z)
 (nU:i.size=size) (kV:i.bytes=bytes) (xO:z.cells.size=size) (dn:0<size)
 (hs:Jz e size v n xs bs) (hO:Own W (bs++m) w) {x:Value} {k:Nat} {news:List Value} (hx:Src w size x k news) (h1:∀ u∈news,u.oneCell'=true)
 (uN:n+k≤maxLen) (lF:(n+k) * bytes≤140737488355328) :
 ∃ v' w' bs',(Builtin.append_ #[t,t] ty #[v,x]).run P w = .ok v' w'∧Jz e size v' (n+k) (xs++news) bs'∧Own W (bs'++m) w'∧(v' = .slice none 0 0↔v = .slice none 0 0∧k=0):=by
 have dS:w.ownsRow W.heap.size e size v n xs:=by
  refine⟨hs.1,?_⟩;rcases hs.2 with⟨h0,h1,_⟩|⟨g,cap,cur,hv,hb,ha,hc,hd,he⟩
  ·exact .inl ⟨h0,h1⟩
  ·subst hb
   exact .inr ⟨g,cap,cur,hv,hO.ge ZnJ,hO.get ZnJ,ha,hc,hd.2 rfl,he⟩
 rcases hx.2 with⟨rfl,rfl⟩|⟨ad,c,rfl,hc⟩
 ·have hn:news=[]:=List.eq_nil_of_length_eq_zero (by simpa using hx.1)
  subst hn;refine⟨v,w,bs,?_,by simpa using hs,hO,by simp⟩;obtain⟨A,cap,rfl,iF,_⟩:=gI.slice hs;cases A with
  |none=>simp[Builtin.append_,run_underlying ht,sizeOf,typeInfo,hi,Builtin.lenOf,Builtin.firstCells,iF]
  |some a=>simp[Builtin.append_,run_underlying ht,sizeOf,typeInfo,hi,Builtin.lenOf,Builtin.firstCells,iF,storeCells]
 ·obtain⟨v',w',hr,h2,h3,h4,h5⟩:=run_append_own_at (P:=P) w W.heap.size t ty e i z size bytes ht hi hz nU kV xO dn v n xs dS ad k c news hx.1 hc h1 uN lF hO.size_le
  have M6:Below W.heap.size W w':=hO.below.grown h3 hO.size_le (fun q hq=>(dS.lt q hq).1);rcases h2.2 with⟨hv',qP⟩|⟨g,cap,cur,hv',eD,hg,ha,hb,hcs,dI⟩
  ·subst hv'
   have CG:=(h4.1 rfl).1;subst CG;have lY:bs=[]:=by
    rcases hs.2 with⟨_,_,h⟩|⟨g,cap,cur,hv,_⟩
    ·exact h
    ·cases hv
   subst lY;refine⟨_,w',[],hr,⟨h2.1,.inl ⟨rfl,qP,rfl⟩⟩,⟨M6,fun p hp=>⟨(hO.at_ p hp).1,?_⟩,hO.nd⟩,h4⟩;rw[h3.block p.1 (yj (hO.at_ p hp).2) (by simp[Value.ownBlock])];exact(hO.at_ p hp).2
  ·subst hv'
   refine⟨_,w',[(g,.cells cur e)],hr,⟨h2.1,.inr ⟨g,cap,cur,rfl,rfl,ha,hb,⟨by omega,fun _=>hcs⟩,dI⟩⟩,⟨M6,fun p hp => ?_,?_⟩,h4⟩
   ·rcases List.mem_cons.1 hp with rfl|hp
    ·exact⟨eD,hg⟩
    ·have lm:=hO.at_ p (ZxU _ hp)
     refine⟨lm.1,(h3.block p.1 (yj lm.2) (fun he => ?_)).trans lm.2⟩;rcases hs.2 with⟨rfl,_,_⟩|⟨g0,cap0,VB,rfl,rfl,_⟩
     ·simp[Value.ownBlock]at he
     ·simp only[Value.ownBlock,ZlP]at he
      exact Own.ne hO (b':=p.1) (o':=p.2) hp he
   ·simp only[List.singleton_append,List.map_cons,ZxS]
    refine⟨fun ja => ?_,(hO.bD).nd⟩;obtain⟨p,hp,he⟩:=List.mem_map.1 ja;have lm:=hO.at_ p (ZxU _ hp);rcases h5 with h5|h5
    ·rcases hs.2 with⟨rfl,_,_⟩|⟨g0,cap0,VB,rfl,rfl,_⟩
     ·simp[Value.ownBlock]at h5
     ·simp only[Value.ownBlock,ZlP]at h5
      exact Own.ne hO (b':=p.1) (o':=p.2) hp (by omega)
    ·simp only[Value.ownBlock,ZlP]at h5
     have:=yj lm.2;omega
theorem Ty {ops:Array Oper}{rest:List Oper}{o:Oper}{a:Act}{Q:Exit→Act→World→Prop}(jw:o.guard=none)(s x:Operand)(t:TypeId)
 (ho:o.op = .call { callee:=.builtin .append,args:=#[s,x],argTypes:=#[t,t] }) {v xv:Value} (oM:a.eval s=v) (hex:a.eval x=xv)
 (e:TypeId) (i:TypeInfo) (z:Value) (size bytes:Nat) (ht:P.underlying t=some (.slice e)) (hi:P.info? e=some i) (hz:i.zero=some z)
 (nU:i.size=size) (kV:i.bytes=bytes) (xO:z.cells.size=size) (dn:0<size)
 (hs:Jz e size v n xs bs) (hO:Own W (bs++m) w) {k:Nat} {news:List Value} (hx:Src w size xv k news) (h1:∀ u∈news,u.oneCell'=true)
 (uN:n+k≤maxLen) (lF:(n+k) * bytes≤140737488355328)
 (h:∀ v' w' bs',Jz e size v' (n+k) (xs++news) bs'→Own W (bs'++m) w'→(v' = .slice none 0 0↔v = .slice none 0 0∧k=0)→wpList P ops Q rest (a.put o.dst v') w') :
 wpList P ops Q (o::rest) a w:=by
 obtain⟨v',w',bs',hr,h2,h3,h4⟩:=ZW (P:=P) t o.type e i z size bytes ht hi hz nU kV xO dn hs hO hx h1 uN lF;refine wpList_plain jw fun K hK => ?_;unfold Oper.wp execOp;simp only[ho,resolve,invoke,builtin,Zxy,ZxM,Zxs,List.map_toArray,List.map_cons,List.map_nil,oM,hex,hr];exact hK _ _ (h v' w' bs' h2 h3 h4)
end
end
section
open Go.ChangeShapes Go.WideShapes Go.ChangeAt Go.RowKit
def CellIs:Option IntKind→Value→Prop
 |none,v=>∃ b,v = .bool b
 |some k,v=>∃ n,v = .int k n∧(Lit.int k n).wf=true
def KT (P:Program)(K:TypeId→Option (List (Option IntKind))):Nat→List Field→Option (List (Option IntKind))
 |_,[]=>some []
 |off,f::fs =>
  match K f.type with
  |some l=>if f.offset=off∧l.length=P.cellsOf f.type then (KT P K (off+l.length) fs).map (l++·) else none
  |none=>none
def Gh (P:Program):Nat→TypeId→Option (List (Option IntKind))
 |0,_=>none
 |n+1,t =>
  match P.underlying t with
  |some .bool=>some [none]
  |some (.int k)=>some [some k]
  |some (.struct fs)=>KT P (Gh P n) 0 fs.toList
  |some (.array m e) =>
   match Gh P n e with
   |some l=>if l.length=P.cellsOf e then some (List.replicate m l).flatten else none
   |none=>none
  |_=>none
section
variable {H:Type}{enc:TypeId×Value→H}{P:Program}{w:World}{base:Nat}{spare:Nat→Bool}{held:Bool}
theorem ZC {l:List (Option IntKind)}{cs:List Value}:∀ (m off:Nat) (_h:∀ i,i<m→∀ (j:Nat) (k:Option IntKind),l[j]?=some k→∃ v,cs[off+i * l.length+j]?=some v∧CellIs k v) (i:Nat) (k:Option IntKind),
 (List.replicate m l).flatten[i]?=some k→∃ v,cs[off+i]?=some v∧CellIs k v
 |0,_,_,i,k,hk=>by simp at hk
 |m+1,off,h,i,k,hk=>by
  rw[List.replicate_succ,List.flatten_cons]at hk;by_cases hi:i<l.length
  ·rw[Zx0 hi]at hk
   have:=h 0 (by omega) i k hk;simpa using this
  ·rw[ZxY (by omega)]at hk
   have h':∀ i,i<m→∀ (j:Nat) (k:Option IntKind),l[j]?=some k→∃ v,cs[(off+l.length)+i * l.length+j]?=some v∧CellIs k v:=fun i' lh j k' NE=>by
    have:=h (i'+1) (by omega) j k' NE
    rwa [show off+(i'+1) * l.length+j=off+l.length+i' * l.length+j from by rw[Nat.succ_mul];omega]at this
   have:=ZC m (off+l.length) h' (i - l.length) k hk
   rwa [show off+l.length+(i - l.length)=off+i from by omega]at this
theorem X0 {cs:List Value}{K:TypeId→Option (List (Option IntKind))}:∀ (fs:List Field) (off:Nat) (ks:List (Option IntKind)),KT P K off fs=some ks →
 (∀ f∈fs,∀ l,K f.type=some l→l.length=P.cellsOf f.type→∀ (j:Nat) (k:Option IntKind),l[j]?=some k→∃ v,cs[f.offset+j]?=some v∧CellIs k v) →
 ∀ (i:Nat) (k:Option IntKind),ks[i]?=some k→∃ v,cs[off+i]?=some v∧CellIs k v
 |[],off,ks,iT,_,i,k,hk=>by
  simp only[KT,ZlP]at iT;subst iT;simp at hk
 |f::fs,off,ks,iT,hf,i,k,hk=>by
  simp only[KT]at iT;split at iT
  ·rename_i l hl
   split at iT
   ·rename_i hc
    obtain⟨r,hr,rfl⟩:=Option.map_eq_some_iff.1 iT;by_cases hi:i<l.length
    ·rw[Zx0 hi]at hk
     have:=hf f ZnJ l hl hc.2 i k hk
     rwa [hc.1]at this
    ·rw[ZxY (by omega)]at hk
     have:=X0 fs (off+l.length) r hr (fun g hg=>hf g (ZnQ _ hg)) (i - l.length) k hk
     rwa [show off+l.length+(i - l.length)=off+i from by omega]at this
   ·cases iT
  ·cases iT
theorem XU {cs:List Value}{a n j:Nat}{v:Value}(h:((cs.drop a).take n)[j]?=some v):cs[a+j]?=some v:=by
 rw[List.getElem?_take]at h;split at h
 ·rwa [List.getElem?_drop]at h
 ·cases h
theorem PN:∀ (fuel n:Nat) (t:TypeId) (cs:List Value) (x:DataW H×List MemPlace) (ks:List (Option IntKind)),DataW.trod enc P w base spare held fuel t cs=some x→Gh P n t=some ks →
 ∀ (i:Nat) (k:Option IntKind),ks[i]?=some k→∃ v,cs[i]?=some v∧CellIs k v
 |0,_,_,_,_,_,h,_=>by simp[DataW.trod]at h
 |fuel+1,0,_,_,_,_,_,hk=>by simp[Gh]at hk
 |fuel+1,n+1,t,cs,x,ks,h,iT=>by
  intro i k hk;unfold Gh at iT;split at iT
  ·rename_i hu
   simp only[ZlP]at iT;subst iT;unfold DataW.trod at h;rw[hu]at h
   match cs,h with
   |[.bool b],_ =>
    match i,hk with
    |0,hk=>simp at hk;subst hk;exact⟨_,rfl,b,rfl⟩
    |i+1,hk=>simp at hk
  ·rename_i q hu
   simp only[ZlP]at iT;subst iT;unfold DataW.trod at h;rw[hu]at h
   match cs,h with
   |[.int k' z],h =>
    simp only at h;split at h
    ·rename_i hc
     match i,hk with
     |0,hk=>simp at hk;subst hk;exact⟨_,rfl,z,by rw[hc.1],hc.2⟩
     |i+1,hk=>simp at hk
    ·cases h
  ·rename_i fs hu
   obtain⟨xs,m,hm,_,mV,_,hf⟩:=DataW.trod_struct hu h;obtain rfl:fuel=m:=(by omega);have:=X0 (cs:=cs) fs.toList 0 ks iT (fun f Fw l hl oQ j k' NE=>by
    obtain⟨i',lh,V9⟩:=List.getElem_of_mem Fw;have Wd:fs[i']?=some f:=(by rw[← Array.getElem?_toList,Zxp lh,V9]);have ht:=hf i' f Wd
    have aK:i'<xs.length:=by have:i'<fs.size:=by simpa using lh
                             omega
    rw[Zxp aK]at ht;obtain⟨v,hv,hc⟩:=PN fuel n f.type _ _ l ht hl j k' NE;exact⟨v,XU hv,hc⟩) i k hk
   simpa using this
  ·rename_i m e hu
   split at iT
   ·rename_i l hl
    split at iT
    ·rename_i oQ
     simp only[ZlP]at iT;subst iT;unfold DataW.trod at h;rw[hu]at h;have h2:∃ xs,(List.range m).mapM (fun i=>DataW.trod enc P w base spare held fuel e ((cs.drop (i * P.cellsOf e)).take (P.cellsOf e)))=some xs:=by
      split at h<;>simp_all;obtain⟨_,xs,hx,_⟩:=h;exact⟨xs,hx⟩
     obtain⟨xs,hx⟩:=h2;have:=ZC (l:=l) (cs:=cs) m 0 (fun i' lh j k' NE=>by
      have hg:=mapM_some_get hx i' i' (by simp[lh]);have hlen:=mapM_some_length hx;have aK:i'<xs.length:=(by simpa [hlen] using lh);rw[Zxp aK]at hg;obtain⟨v,hv,hc⟩:=PN fuel n e _ _ l hg hl j k' NE;refine⟨v,?_,hc⟩;rw[oQ];simpa using XU hv) i k hk
     simpa using this
    ·cases iT
   ·cases iT
  ·cases iT
theorem Zp3 {r:Reach}{b0:Nat}{t:TypeId}{v:Value}(hu:(match P.underlying t with|some (.struct _)|some (.array _ _)=>true|_=>false)=true)(hv:Value.okWide P w r b0 t v) :
 ∃ cs:Array Value,v = .agg cs∧cs.size=P.cellsOf t:=by
 unfold Value.okWide at hv;split at hv
 ·obtain⟨cs,h1,h2,_⟩:=hv;exact⟨cs,h1,h2⟩
 ·obtain⟨cs,h1,h2,_⟩:=hv;exact⟨cs,h1,h2⟩
 ·rename_i h1 h2
  split at hu
  ·rename_i q hq;exact absurd hq (h1 q)
  ·rename_i q r hq;exact absurd hq (h2 q r)
  ·cases hu
theorem ZgY {t e:TypeId}{v:Value}{d:DataW H}{p:List MemPlace}(n:Nat){ks:List (Option IntKind)}(ht:P.underlying t=some (.slice e))(iT:Gh P n e=some ks)(jK:v.cells.toList=[v])
 (h:DataW.Trod enc P w base spare held t v d p) (_hlt:∀ x∈p,x.block<w.heap.size) (oV:0<P.cellsOf e) :
 v = .slice none 0 0∨∃ (a:Addr) (len cap:Nat),v = .slice (some a) len cap∧len≤cap∧cap≤maxLen∧(0<len→a.block<w.heap.size) ∧
  ∀ i,i<len→∀ (j:Nat) (k:Option IntKind),ks[j]?=some k→∃ u,w.cell? (a.add (i * P.cellsOf e+j))=some u∧CellIs k u:=by
 obtain⟨fuel,hf⟩:=h;rw[jK]at hf;rcases Deep.open_slice ht hf with⟨h0,_⟩|⟨a,len,cap,m,n',D,Pl,hcs,hb,hl,hm,pO,hx,hi⟩
 ·left;simpa using h0
 ·right
  refine⟨a,len,cap,by simpa using hcs,hl,hm,?_,?_⟩
  ·intro hpos'
   have hml:len≤m:=(by rw[pO];split<;>omega);obtain⟨cs',hc,_⟩:=hi 0 (by omega);obtain⟨_,mV,gK⟩:=World.cells?_some hc;have h0:=gK 0 (by omega);have h1:cs'[0]?=some (cs'[0]'(by omega)):=Zxp (by omega);rw[h1]at h0;have:=block_lt_of_cell h0;simpa [Addr.add] using this
  ·intro i Cs j k hk
   have hml:len≤m:=(by rw[pO];split<;>omega);obtain⟨cs',hc,u7⟩:=hi i (by omega);obtain⟨u,hu,hcell⟩:=PN n' n e cs' _ ks u7 iT j k hk;obtain⟨_,mV,gK⟩:=World.cells?_some hc;have hj:j<P.cellsOf e:=by
    have:=(List.getElem?_eq_some_iff.1 hu).1;omega
   have:=gK j hj;rw[← Go.Deep.add_add,this,hu];exact⟨u,rfl,hcell⟩
end
end
end Go.Proofs.YtfcpdlbkmkhhcaaGreatDoor
