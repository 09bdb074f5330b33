/-
  Texts of this claim, joined. No condition.
-/
import Derived.Test.YtfcpdlbkmkhhcaaGreatDoorCn13
import Derived.Test.YtfcpdlbkmkhhcaaGreatDoorCn11
import Derived.Maps.AppendAt
import Derived.Laws.AppendOwnNone
import Derived.Lib.SliceRun
import Derived.Deep.DeepCutAuto
import Derived.Deep.CutBlock
import Derived.Deep.Slices
namespace Go.Proofs.YtfcpdlbkmkhhcaaGreatDoor.Ex
open Go
def Zug (θ:Sub)(pre:List (Nat×TB)):List (Nat×TB):=pre.map fun p=>(p.1,p.2.sub θ)
def ZpO (θ:Sub):Nat→List TB→List (Nat×TB)
 | _,[]=>[]
 | i,t::l=>(θ.nAt (Nat.add rel i),t.sub θ)::ZpO θ (Nat.add i 1) l
def Zo0 (k:Kc)(θ:Sub):List (Nat×TB):=Zug θ k.post++ZpO θ 0 k.news
def Kc.leaf (k:Kc)(θ:Sub):CT:=.is (k.res.sub θ) (Zo0 k θ)
def ZtA:TB→Bool
 | .opb _ _ _=>false
 | _=>true
theorem TR.size {N:Zac}{ρ:Ren}{t:TB}{s:Nat}{o:Obj}(h:@TR N ρ t s (some o))(hn:ZtA t=true):s=Zay o:=by
 cases t with
 | cells l e=>obtain ⟨cur,h1,h2,_⟩:=h; cases h1; exact h2.symm
 | recs l ks e=>obtain ⟨cur,h1,h2,_⟩:=h; cases h1; exact h2.symm
 | opb i n m=>cases hn
end Go.Proofs.YtfcpdlbkmkhhcaaGreatDoor.Ex

namespace Go.Proofs.YtfcpdlbkmkhhcaaGreatDoor.Ex
open Go RowKit
section
variable {P:Program}{gs:List (Nat×List Int)}{rks:List (Nat×CK)}{σ:Nat→Int}{Ω:Nat→Nat→Nat→Obj→Prop}
abbrev roN:Nat→Option (Option Addr×Nat×Nat):=fun _=>none
def ZjR (n0 n1 b0 s0 b1 s1:Nat):Ren:=fun n=>if n=n0 then some (b0,s0) else if n=n1 then some (b1,s1) else none
theorem Zhb (hm:P.follows .mixedOrders=true){f:FuncId}{kcs:Kg}(hk:Zl1 gs rks roN P σ Ω kcs){n:Nat}{args:List AV}{n0 n1:Nat}{t0 t1:TB}{B:Bd}(hne:n0≠n1)(h0:n0<B.kn)(h1:n1<B.kn)(_hB:B.kn≤1000000)
 {d:CT} {fs:List (Cnd×Bool)} (ok:∀ q∈fs,q.1.ev σ=q.2) (h:Zho P gs rks kcs [] n f args ⟨[],[(n0,t0),(n1,t1)],B⟩ d fs=true)
 {K:AV→List (Nat×TB)→Prop} (hr:Ztf σ (fun v post=>∃ p0 p1,post=[(n0,p0),(n1,p1)]∧K v post) d)
 {W w:World} {m:List (Nat×Obj)} {b0 b1:Nat} {o0 o1:Obj} (hgs:ZdY gs w) (hgW:∀ b l,Zec b gs=some l→b<W.heap.size) (hO:Own W ((b0,o0)::(b1,o1)::m) w)
 (hT0:@TR (nums gs rks roN σ Ω fs ok) (ZjR n0 n1 b0 (Zay o0) b1 (Zay o1)) t0 (Zay o0) (some o0)) (hT1:@TR (nums gs rks roN σ Ω fs ok) (ZjR n0 n1 b0 (Zay o0) b1 (Zay o1)) t1 (Zay o1) (some o1))
 {args':Array Value} (hargs:@VRs (nums gs rks roN σ Ω fs ok) (ZjR n0 n1 b0 (Zay o0) b1 (Zay o1)) args args'.toList) :
 Calls P f args' w fun e w'=>∃ fs' ok' v p0 p1 ρ' x o0' o1',K v [(n0,p0),(n1,p1)]∧e = .returned x∧ρ' n0=some (b0,Zay o0)∧ρ' n1=some (b1,Zay o1)∧@VR (nums gs rks roN σ Ω fs' ok') ρ' v x ∧
  @TR (nums gs rks roN σ Ω fs' ok') ρ' p0 (Zay o0) (some o0')∧@TR (nums gs rks roN σ Ω fs' ok') ρ' p1 (Zay o1) (some o1')∧Own W ((b0,o0')::(b1,o1')::m) w':=by
 have hb:b0≠b1:=(hO.ne List.mem_cons_self).symm
 have hg:∀ q o,(⟨[],[(n0,t0),(n1,t1)],B⟩:Tm).h.get q=some o→(q=n0∧o=t0.ao)∨(q=n1∧o=t1.ao):=fun q o hq=>by
  obtain ⟨t,ht,rfl⟩:=Zjn hq
  simp only [List.mem_cons,Prod.mk.injEq,List.not_mem_nil,or_false] at ht
  rcases ht with ⟨rfl,rfl⟩ | ⟨rfl,rfl⟩
  ·exact Or.inl ⟨rfl,rfl⟩
  ·exact Or.inr ⟨rfl,rfl⟩
 have r0:ZjR n0 n1 b0 (Zay o0) b1 (Zay o1) n0=some (b0,Zay o0):=if_pos rfl
 have r1:ZjR n0 n1 b0 (Zay o0) b1 (Zay o1) n1=some (b1,Zay o1):=by
  unfold ZjR
  rw [if_neg (Ne.symm hne),if_pos rfl]
 have hH:@HR (nums gs rks roN σ Ω fs ok) (ZjR n0 n1 b0 (Zay o0) b1 (Zay o1)) (⟨[],[(n0,t0),(n1,t1)],B⟩:Tm).h.get (⟨[],[(n0,t0),(n1,t1)],B⟩:Tm).h.next w:=by
  refine @HR.mk (nums gs rks roN σ Ω fs ok) _ _ _ _ (fun q hq => ?_) (fun q o hq => ?_) (fun q q' b s s' hq hq' e e' => ?_) hgs (fun b l hf q s hq he => ?_) (fun i k A len c _ hf=>by cases hf) (fun b hf => ?_)
  ·have hkn:B.kn≤q:=hq
   unfold ZjR
   rw [if_neg (by omega),if_neg (by omega)]
  ·rcases hg q o hq with ⟨rfl,rfl⟩ | ⟨rfl,rfl⟩
   ·refine ⟨b0,Zay o0,r0,?_⟩
    rw [hO.get List.mem_cons_self]
    exact @TR.or (nums gs rks roN σ Ω fs ok) _ _ _ _ hT0
   ·refine ⟨b1,Zay o1,r1,?_⟩
    rw [hO.skip.get List.mem_cons_self]
    exact @TR.or (nums gs rks roN σ Ω fs ok) _ _ _ _ hT1
  ·obtain ⟨a,ha⟩:=Option.isSome_iff_exists.1 hq
   obtain ⟨a',ha'⟩:=Option.isSome_iff_exists.1 hq'
   rcases hg q a ha with ⟨rfl,-⟩ | ⟨rfl,-⟩ <;> rcases hg q' a' ha' with ⟨rfl,-⟩ | ⟨rfl,-⟩
   ·rfl
   ·rw [r0] at e
    rw [r1] at e'
    cases e
    cases e'
    exact absurd rfl hb
   ·rw [r1] at e
    rw [r0] at e'
    cases e
    cases e'
    exact absurd rfl hb
   ·rfl
  ·have hlt:=hgW b l hf
   have g0:=hO.ge List.mem_cons_self
   have g1:=hO.skip.ge List.mem_cons_self
   obtain ⟨a,ha⟩:=Option.isSome_iff_exists.1 hq
   rcases hg q a ha with ⟨rfl,-⟩ | ⟨rfl,-⟩
   ·rw [r0] at he
    cases he
    omega
   ·rw [r1] at he
    cases he
    omega
  ·obtain ⟨i,k,a,len,c,_,hf,_⟩:=hf
   cases hf
 refine (ZeN hm hk ZnB d fs ok h hr hH hargs).mono ?_
 rintro e w' ⟨fs',ok',v,post,ρ',x,h',⟨p0,p1,rfl,hK⟩,rfl,hv,hst,hp⟩
 have sext:=@Stp.ext (nums gs rks roN σ Ω fs' ok') _ _ _ _ _ _ _ _ hst
 have sblock:=@Stp.block (nums gs rks roN σ Ω fs' ok') _ _ _ _ _ _ _ _ hst
 have e0:ρ' n0=some (b0,Zay o0):=(sext n0 h0).trans r0
 have e1:ρ' n1=some (b1,Zay o1):=(sext n1 h1).trans r1
 obtain ⟨_,c0,z0,q0,T0⟩:=hp _ List.mem_cons_self
 obtain ⟨_,c1,z1,q1,T1⟩:=hp _ (List.mem_cons_of_mem _ List.mem_cons_self)
 dsimp only at q0 q1 T0 T1
 rw [e0] at q0
 rw [e1] at q1
 cases q0
 cases q1
 obtain ⟨o0',ho0⟩:∃ o,w'.heap[b0]?=some o:=by
  cases hx:w'.heap[b0]? with
  | none=>rw [hx] at T0; exact (@OR.ZdS (nums gs rks roN σ Ω fs' ok') _ _ _ (@TR.or (nums gs rks roN σ Ω fs' ok') _ _ _ _ T0)).elim
  | some o=>exact ⟨o,rfl⟩
 obtain ⟨o1',ho1⟩:∃ o,w'.heap[b1]?=some o:=by
  cases hx:w'.heap[b1]? with
  | none=>rw [hx] at T1; exact (@OR.ZdS (nums gs rks roN σ Ω fs' ok') _ _ _ (@TR.or (nums gs rks roN σ Ω fs' ok') _ _ _ _ T1)).elim
  | some o=>exact ⟨o,rfl⟩
 rw [ho0] at T0
 rw [ho1] at T1
 have same:∀ b,b<w.heap.size→b≠b0→b≠b1→w'.heap[b]?=w.heap[b]?:=fun b hlt hn0 hn1=>sblock b hlt fun q s hq he=>by
  obtain ⟨a,ha⟩:=Option.isSome_iff_exists.1 hq
  rcases hg q a ha with ⟨rfl,-⟩ | ⟨rfl,-⟩
  ·rw [r0] at he
   cases he
   exact hn0 rfl
  ·rw [r1] at he
   cases he
   exact hn1 rfl
 have hsz:=@Stp.size (nums gs rks roN σ Ω fs' ok') _ _ _ _ _ _ _ _ hst
 refine ⟨fs',ok',v,p0,p1,ρ',x,o0',o1',hK,rfl,e0,e1,hv,T0,T1,⟨⟨?_,?_,?_,?_,?_⟩,?_,?_⟩⟩
 ·exact (@Stp.os (nums gs rks roN σ Ω fs' ok') _ _ _ _ _ _ _ _ hst).trans hO.below.os
 ·exact (@Stp.tape (nums gs rks roN σ Ω fs' ok') _ _ _ _ _ _ _ _ hst).trans hO.below.tape
 ·exact (@Stp.output (nums gs rks roN σ Ω fs' ok') _ _ _ _ _ _ _ _ hst).trans hO.below.output
 ·exact Nat.le_trans hO.size_le hsz
 ·intro b hb'
  have g0:=hO.ge List.mem_cons_self
  have g1:=hO.skip.ge List.mem_cons_self
  exact (same b (Nat.lt_of_lt_of_le hb' hO.size_le) (by omega) (by omega)).trans (hO.below.block b hb')
 ·intro p hpm
  rcases List.mem_cons.1 hpm with rfl | hpm
  ·exact ⟨hO.ge List.mem_cons_self,ho0⟩
  ·rcases List.mem_cons.1 hpm with rfl | hpm
   ·exact ⟨hO.skip.ge List.mem_cons_self,ho1⟩
   ·have hmm:=hO.at_ p (List.mem_cons_of_mem _ (List.mem_cons_of_mem _ hpm))
    refine ⟨hmm.1,(same p.1 (Zcg hmm.2) (fun he => ?_) (fun he => ?_)).trans hmm.2⟩
    ·exact hO.ne (o':=p.2) (List.mem_cons_of_mem _ (show (p.1,p.2)∈m from hpm)) he
    ·exact hO.skip.ne (o':=p.2) (show (p.1,p.2)∈m from hpm) he
 ·exact hO.nd
end
end Go.Proofs.YtfcpdlbkmkhhcaaGreatDoor.Ex

namespace Go.Proofs.YtfcpdlbkmkhhcaaGreatDoor.Cw
open Go Ex
noncomputable section
def v (i:Nat):SE:=.var i
def l (n:Int):SE:=.lit n
def si (e:SE):AV:=.sym .i64 e
def su (e:SE):AV:=.sym .u64 e
def add (a b:SE):SE:=.bin .add a b
def Zl5:SE:=.bin .mul (l 4) (v 0)
def ZpT:SE:=add Zl5 (l 1)
def ZsA:SE:=add Zl5 (l 2)
def ZqM (c:SE):SE:=.bin .mul (l 4) c
def ZsS (c:SE):SE:=add (ZqM c) (l 2)
def Znd (s:SE):SE:=add (add Zl5 (l 4)) (.bin .mul (l 4) s)
def ZsQ (s:SE):SE:=add (Znd s) (l 2)
def ZsG (s o:SE):SE:=add (add (add (add Zl5 (l 4)) (.bin .mul (l 4) (v 1))) (.bin .mul s (v 2))) o
def Zty (s:SE):SE:=.ubin .add (v 5) (.ubin .mul (.cv .u64 s) (l 11400714819323198485))
def w (e:SE):SE:=.at (.lvar 0) e 0
def ZlE (cnt:SE)(L:SE):List (Nat×TB):=[(3002,.cells [.dsl 3003 (v 30) 1,si cnt] 97),(3003,.recs L [.int .u64] 22)]
def chF:AV:=.agg [si (v 0),si (v 1),si (v 2),si (v 3),si (v 4),su (v 5)]
def rng (e:SE)(a b:Int):List (Cnd×Bool):=[(.lt e (l a),false),(.lt e (l b),true)]
def acc (e:SE)(k:Nat):List (Cnd×Bool):=[(.lt e (l 0),false),(.lt (.bin .sub (v 30) (l k)) e,false),(.lt e (v 30),true),(.lt e (.len (.lvar 0)),true)]++(if k=2 then [(.lt (add e (l 1)) (l 0),false),(.lt (add e (l 1)) (v 30),true),(.lt (add e (l 1)) (.len (.lvar 0)),true)] else [])
def fC:List (Cnd×Bool):=rng (v 0) 1 9++rng (v 1) 1 33++rng (v 2) 1 17++rng (v 3) 0 33++rng (v 4) 0 33++rng (v 11) 0 8++[(.lt (v 11) (v 0),true)]++rng (v 30) 1 4097++rng (.len (.lvar 0)) 1 4097++rng (v 31) 0 1000000000
structure Wy where
 f:FuncId
 pc:Int
 kcs:List Kc
 fs:List (Cnd×Bool)
 res:List AV
 g:SE
def ZiF (pc:Int):List AV:=[si (v 10),si (v 11),.int .i64 pc,.int .i64 0,.int .i64 0,si (v 15),si (v 16),su (v 17),su (v 18),su (v 19),su (v 20),su (v 21),si (v 22),si (v 23),si (v 24),si (v 25),si (v 26)]
def Wy.run (x:Wy):Bool:=Zho Tryz.prog FillTab.gs [] (kgs x.kcs) [] 40 x.f [.ptr 3002 0,chF,.agg (ZiF x.pc)] ⟨[],ZlE (v 31) (.lvar 0),⟨60,1,0,3004⟩⟩ (.is (.tup [.agg x.res,.int .i64 0]) (ZlE (add (v 31) (l 1)) x.g)) (x.fs++fC)
end
end Go.Proofs.YtfcpdlbkmkhhcaaGreatDoor.Cw



namespace Go.Proofs.YtfcpdlbkmkhhcaaGreatDoor
open Go.RowKit
def SlO (ex:Bool)(e size:Nat)(v:Value)(n:Nat)(xs:List Value)(bs:List (Nat×Obj)):Prop :=
 xs.length=n * size∧((v = .slice none 0 0∧n=0∧bs=[]) ∨
  ∃ g cap cur,v = .slice (some ⟨g,0,none⟩) n cap∧bs=[(g,.cells cur e)]∧n≤cap∧cap≤maxLen∧(cap * size≤cur.size∧(ex=true→cur.size=cap * size))∧cur.toList.take (n * size)=xs)
abbrev Zl2:=SlO true
def Src (w:World)(size:Nat)(v:Value)(n:Nat)(xs:List Value):Prop :=
 xs.length=n * size∧((v = .slice none 0 0∧n=0)∨∃ a c,v = .slice (some a) n c∧∀ j u,xs[j]?=some u→w.cell? (a.add j)=some u)
theorem ZhX (g j:Nat):(⟨g,0,none⟩:Addr).add j=⟨g,j,none⟩:=by
 unfold Addr.add
 split <;> simp_all
section
variable {ex:Bool}{W w:World}{m:List (Nat×Obj)}{e size n:Nat}{v:Value}{xs:List Value}{bs:List (Nat×Obj)}{P:Program}
theorem SlO.nil (ex:Bool)(e size:Nat):SlO ex e size (.slice none 0 0) 0 [] []:=⟨by simp,.inl ⟨rfl,rfl,rfl⟩⟩
theorem SlO.made (ex:Bool)(e size g cap:Nat)(cur:Array Value)(n:Nat)(hn:n≤cap)(hc:cap≤maxLen)(hs:cur.size=cap * size) :
 SlO ex e size (.slice (some ⟨g,0,none⟩) n cap) n (cur.toList.take (n * size)) [(g,.cells cur e)] :=
 ⟨by rw [List.length_take,Array.length_toList,hs,Nat.min_eq_left (Nat.mul_le_mul_right _ hn)],.inr ⟨g,cap,cur,rfl,rfl,hn,hc,⟨by omega,fun _=>hs⟩,rfl⟩⟩
theorem SlO.form (h:SlO ex e size v n xs bs)(hn:0<n):∃ g cap cur,v = .slice (some ⟨g,0,none⟩) n cap∧bs=[(g,.cells cur e)]∧n≤cap∧cap≤maxLen∧(cap * size≤cur.size∧(ex=true→cur.size=cap * size))∧cur.toList.take (n * size)=xs:=by
 rcases h.2 with ⟨_,h0,_⟩ | h
 ·omega
 ·exact h
theorem SlO.slice (h:SlO ex e size v n xs bs):∃ A cap,v = .slice A n cap∧n≤cap∧cap≤maxLen:=by
 rcases h.2 with ⟨rfl,rfl,_⟩ | ⟨g,cap,cur,rfl,_,h1,h2,_⟩
 ·exact ⟨none,0,rfl,Nat.le_refl _,by unfold maxLen; omega⟩
 ·exact ⟨_,cap,rfl,h1,h2⟩
theorem SlO.cell (h:SlO ex e size v n xs bs)(hO:Own W (bs++m) w){g cap:Nat}(hv:v = .slice (some ⟨g,0,none⟩) n cap){j:Nat}{u:Value}(hj:xs[j]?=some u):w.cell? ⟨g,j,none⟩=some u:=by
 rcases h.2 with ⟨rfl,_,_⟩ | ⟨g',cap',cur,rfl,rfl,h1,h2,h3,h4⟩
 ·cases hv
 ·simp only [Value.slice.injEq,Option.some.injEq,Addr.mk.injEq,and_true,true_and] at hv
  obtain ⟨rfl,rfl⟩:=hv
  rw [hO.cell List.mem_cons_self]
  rw [← h4] at hj
  rw [List.getElem?_take] at hj
  split at hj
  ·simpa using hj
  ·cases hj
theorem SlO.src (h:SlO ex e size v n xs bs)(hO:Own W (bs++m) w):Src w size v n xs:=by
 refine ⟨h.1,?_⟩
 rcases h.2 with ⟨rfl,rfl,_⟩ | ⟨g,cap,cur,rfl,h0,_⟩
 ·exact .inl ⟨rfl,rfl⟩
 ·refine .inr ⟨_,_,rfl,fun j u hj => ?_⟩
  rw [ZhX]
  exact h.cell hO rfl hj
theorem SlO.free (h:SlO ex e size v n xs bs)(hO:Own W (bs++m) w){g cap:Nat}(hv:v = .slice (some ⟨g,0,none⟩) n cap)(j:Nat):w.frozen? ⟨g,j,none⟩=false:=by
 rcases h.2 with ⟨rfl,_,_⟩ | ⟨g',cap',cur,rfl,rfl,_⟩
 ·cases hv
 ·simp only [Value.slice.injEq,Option.some.injEq,Addr.mk.injEq,and_true,true_and] at hv
  obtain ⟨rfl,rfl⟩:=hv
  exact hO.frozen List.mem_cons_self j
theorem SlO.store (h:SlO ex e size v n xs bs)(hO:Own W (bs++m) w){g cap:Nat}(hv:v = .slice (some ⟨g,0,none⟩) n cap){j:Nat}(_hj:j<n * size)(u:Value) :
 ∃ bs',SlO ex e size v n (xs.set j u) bs'∧Own W (bs'++m) (w.setCell ⟨g,j,none⟩ u):=by
 rcases h.2 with ⟨rfl,_,_⟩ | ⟨g',cap',cur,rfl,rfl,h1,h2,h3,h4⟩
 ·cases hv
 ·simp only [Value.slice.injEq,Option.some.injEq,Addr.mk.injEq,and_true,true_and] at hv
  obtain ⟨rfl,rfl⟩:=hv
  refine ⟨[(g',.cells (cur.setIfInBounds j u) e)],⟨by rw [List.length_set]; exact h.1,.inr ⟨g',cap',_,rfl,rfl,h1,h2,by rw [Array.size_setIfInBounds]; exact h3,?_⟩⟩,hO.set j u⟩
  rw [Array.toList_setIfInBounds,List.take_set,h4]
theorem SlO.shorter (h:SlO ex e size v n xs bs){g cap k:Nat}(hv:v = .slice (some ⟨g,0,none⟩) n cap)(hk:k≤n):SlO ex e size (.slice (some ⟨g,0,none⟩) k cap) k (xs.take (k * size)) bs:=by
 rcases h.2 with ⟨rfl,_,_⟩ | ⟨g',cap',cur,rfl,rfl,h1,h2,h3,h4⟩
 ·cases hv
 ·simp only [Value.slice.injEq,Option.some.injEq,Addr.mk.injEq,and_true,true_and] at hv
  obtain ⟨rfl,rfl⟩:=hv
  have hle:k * size≤n * size:=Nat.mul_le_mul_right _ hk
  refine ⟨by rw [List.length_take,h.1]; omega,.inr ⟨g',cap',cur,rfl,rfl,by omega,h2,h3,?_⟩⟩
  rw [← h4,List.take_take,Nat.min_eq_left hle]
theorem Src.below (h:Src w size v n xs){w':World}(hb:Below w.heap.size w w'):Src w' size v n xs:=by
 refine ⟨h.1,?_⟩
 rcases h.2 with h0 | ⟨b,c,hv,hc⟩
 ·exact .inl h0
 ·refine .inr ⟨b,c,hv,fun j x hj => ?_⟩
  have:=hc j x hj
  rw [hb.cell (World.block_lt_of_cell? w _ this)]
  exact this
theorem Src.Zil (h:Src W size v n xs)(hO:Own W m w):Src w size v n xs:=h.below hO.below
theorem Zn2 (t ty e:TypeId)(i:TypeInfo)(z:Value)(size bytes:Nat)(ht:P.underlying t=some (.slice e))(hi:P.info? e=some i)(hz:i.zero=some z)
 (hsize:i.size=size) (hby:i.bytes=bytes) (hzs:z.cells.size=size) (hsz:0<size)
 (hs:Zl2 e size v n xs bs) (hO:Own W (bs++m) w) {x:Value} {k:Nat} {news:List Value} (hx:Src w size x k news) (h1:∀ u∈news,u.oneCell'=true)
 (h63:n+k≤maxLen) (hbytes:(n+k) * bytes≤140737488355328) :
 ∃ v' w' bs',(Builtin.append_ #[t,t] ty #[v,x]).run P w = .ok v' w'∧Zl2 e size v' (n+k) (xs++news) bs'∧Own W (bs'++m) w'∧(v' = .slice none 0 0↔v = .slice none 0 0∧k=0):=by
 have hown:w.ownsRow W.heap.size e size v n xs:=by
  refine ⟨hs.1,?_⟩
  rcases hs.2 with ⟨h0,h1,_⟩ | ⟨g,cap,cur,hv,hb,ha,hc,hd,he⟩
  ·exact .inl ⟨h0,h1⟩
  ·subst hb
   exact .inr ⟨g,cap,cur,hv,hO.ge List.mem_cons_self,hO.get List.mem_cons_self,ha,hc,hd.2 rfl,he⟩
 rcases hx.2 with ⟨rfl,rfl⟩ | ⟨ad,c,rfl,hc⟩
 ·have hn:news=[]:=List.eq_nil_of_length_eq_zero (by simpa using hx.1)
  subst hn
  refine ⟨v,w,bs,?_,by simpa using hs,hO,by simp⟩
  obtain ⟨A,cap,rfl,hle,_⟩:=SlO.slice hs
  cases A with
  | none=>simp [Builtin.append_,run_underlying ht,sizeOf,typeInfo,hi,Builtin.lenOf,Builtin.firstCells,hle]
  | some a=>simp [Builtin.append_,run_underlying ht,sizeOf,typeInfo,hi,Builtin.lenOf,Builtin.firstCells,hle,storeCells]
 ·obtain ⟨v',w',hr,h2,h3,h4,h5⟩:=run_append_own_at (P:=P) w W.heap.size t ty e i z size bytes ht hi hz hsize hby hzs hsz v n xs hown ad k c news hx.1 hc h1 h63 hbytes hO.size_le
  have hbel:Below W.heap.size W w':=hO.below.grown h3 hO.size_le (fun q hq=>(hown.lt q hq).1)
  rcases h2.2 with ⟨hv',hn'⟩ | ⟨g,cap,cur,hv',hge,hg,ha,hb,hcs,htk⟩
  ·subst hv'
   have hv0:=(h4.1 rfl).1
   subst hv0
   have hbs:bs=[]:=by
    rcases hs.2 with ⟨_,_,h⟩ | ⟨g,cap,cur,hv,_⟩
    ·exact h
    ·cases hv
   subst hbs
   refine ⟨_,w',[],hr,⟨h2.1,.inl ⟨rfl,hn',rfl⟩⟩,⟨hbel,fun p hp=>⟨(hO.at_ p hp).1,?_⟩,hO.nd⟩,h4⟩
   rw [h3.block p.1 (Zcg (hO.at_ p hp).2) (by simp [Value.ownBlock])]
   exact (hO.at_ p hp).2
  ·subst hv'
   refine ⟨_,w',[(g,.cells cur e)],hr,⟨h2.1,.inr ⟨g,cap,cur,rfl,rfl,ha,hb,⟨by omega,fun _=>hcs⟩,htk⟩⟩,⟨hbel,fun p hp => ?_,?_⟩,h4⟩
   ·rcases List.mem_cons.1 hp with rfl | hp
    ·exact ⟨hge,hg⟩
    ·have hp':=hO.at_ p (List.mem_append_right _ hp)
     refine ⟨hp'.1,(h3.block p.1 (Zcg hp'.2) (fun he => ?_)).trans hp'.2⟩
     rcases hs.2 with ⟨rfl,_,_⟩ | ⟨g0,cap0,cur0,rfl,rfl,_⟩
     ·simp [Value.ownBlock] at he
     ·simp only [Value.ownBlock,Option.some.injEq] at he
      exact Own.ne hO (b':=p.1) (o':=p.2) hp he
   ·simp only [List.singleton_append,List.map_cons,List.nodup_cons]
    refine ⟨fun hin => ?_,(hO.Zfu).nd⟩
    obtain ⟨p,hp,he⟩:=List.mem_map.1 hin
    have hp':=hO.at_ p (List.mem_append_right _ hp)
    rcases h5 with h5 | h5
    ·rcases hs.2 with ⟨rfl,_,_⟩ | ⟨g0,cap0,cur0,rfl,rfl,_⟩
     ·simp [Value.ownBlock] at h5
     ·simp only [Value.ownBlock,Option.some.injEq] at h5
      exact Own.ne hO (b':=p.1) (o':=p.2) hp (by omega)
    ·simp only [Value.ownBlock,Option.some.injEq] at h5
     have:=Zcg hp'.2
     omega
theorem ZhV {ops:Array Oper}{rest:List Oper}{o:Oper}{a:Act}{Q:Exit→Act→World→Prop}(hgd:o.guard=none)(s x:Operand)(t:TypeId)
 (ho:o.op = .call { callee:=.builtin .append,args:=#[s,x],argTypes:=#[t,t] }) {v xv:Value} (hes:a.eval s=v) (hex:a.eval x=xv)
 (e:TypeId) (i:TypeInfo) (z:Value) (size bytes:Nat) (ht:P.underlying t=some (.slice e)) (hi:P.info? e=some i) (hz:i.zero=some z)
 (hsize:i.size=size) (hby:i.bytes=bytes) (hzs:z.cells.size=size) (hsz:0<size)
 (hs:Zl2 e size v n xs bs) (hO:Own W (bs++m) w) {k:Nat} {news:List Value} (hx:Src w size xv k news) (h1:∀ u∈news,u.oneCell'=true)
 (h63:n+k≤maxLen) (hbytes:(n+k) * bytes≤140737488355328)
 (h:∀ v' w' bs',Zl2 e size v' (n+k) (xs++news) bs'→Own W (bs'++m) w'→(v' = .slice none 0 0↔v = .slice none 0 0∧k=0)→wpList P ops Q rest (a.put o.dst v') w') :
 wpList P ops Q (o::rest) a w:=by
 obtain ⟨v',w',bs',hr,h2,h3,h4⟩:=Zn2 (P:=P) t o.type e i z size bytes ht hi hz hsize hby hzs hsz hs hO hx h1 h63 hbytes
 refine wpList_plain hgd fun K hK => ?_
 unfold Oper.wp execOp
 simp only [ho,resolve,invoke,builtin,Sem.run_bind,Sem.run_pure,Result.andThen_ok,List.map_toArray,List.map_cons,List.map_nil,hes,hex,hr]
 exact hK _ _ (h v' w' bs' h2 h3 h4)
end
end Go.Proofs.YtfcpdlbkmkhhcaaGreatDoor

namespace Go.Proofs.YtfcpdlbkmkhhcaaGreatDoor
open Go.ChangeShapes Go.WideShapes Go.ChangeAt Go.RowKit
def CellIs:Option IntKind→Value→Prop
 | none,v=>∃ b,v = .bool b
 | some k,v=>∃ n,v = .int k n∧(Lit.int k n).wf=true
def Zc3 (P:Program)(K:TypeId→Option (List (Option IntKind))):Nat→List Field→Option (List (Option IntKind))
 | _,[]=>some []
 | off,f::fs =>
   match K f.type with
   | some l=>if f.offset=off∧l.length=P.cellsOf f.type then (Zc3 P K (off+l.length) fs).map (l++·) else none
   | none=>none
def Zcz (P:Program):Nat→TypeId→Option (List (Option IntKind))
 | 0,_=>none
 | n+1,t =>
   match P.underlying t with
   | some .bool=>some [none]
   | some (.int k)=>some [some k]
   | some (.struct fs)=>Zc3 P (Zcz P n) 0 fs.toList
   | some (.array m e) =>
     match Zcz P n e with
     | some l=>if l.length=P.cellsOf e then some (List.replicate m l).flatten else none
     | none=>none
   | _=>none
section
variable {H:Type}{enc:TypeId×Value→H}{P:Program}{w:World}{base:Nat}{spare:Nat→Bool}{held:Bool}
theorem Zlr {l:List (Option IntKind)}{cs:List Value}:∀ (m off:Nat) (_h:∀ i,i<m→∀ (j:Nat) (k:Option IntKind),l[j]?=some k→∃ v,cs[off+i * l.length+j]?=some v∧CellIs k v) (i:Nat) (k:Option IntKind),
 (List.replicate m l).flatten[i]?=some k→∃ v,cs[off+i]?=some v∧CellIs k v
 | 0,_,_,i,k,hk=>by simp at hk
 | m+1,off,h,i,k,hk=>by
   rw [List.replicate_succ,List.flatten_cons] at hk
   by_cases hi:i<l.length
   ·rw [List.getElem?_append_left hi] at hk
    have:=h 0 (by omega) i k hk
    simpa using this
   ·rw [List.getElem?_append_right (by omega)] at hk
    have h':∀ i,i<m→∀ (j:Nat) (k:Option IntKind),l[j]?=some k→∃ v,cs[(off+l.length)+i * l.length+j]?=some v∧CellIs k v:=fun i' hi' j k' hk'=>by
     have:=h (i'+1) (by omega) j k' hk'
     rwa [show off+(i'+1) * l.length+j=off+l.length+i' * l.length+j from by rw [Nat.succ_mul]; omega] at this
    have:=Zlr m (off+l.length) h' (i - l.length) k hk
    rwa [show off+l.length+(i - l.length)=off+i from by omega] at this
theorem ZgA {cs:List Value}{K:TypeId→Option (List (Option IntKind))}:∀ (fs:List Field) (off:Nat) (ks:List (Option IntKind)),Zc3 P K off fs=some ks →
 (∀ f∈fs,∀ l,K f.type=some l→l.length=P.cellsOf f.type→∀ (j:Nat) (k:Option IntKind),l[j]?=some k→∃ v,cs[f.offset+j]?=some v∧CellIs k v) →
 ∀ (i:Nat) (k:Option IntKind),ks[i]?=some k→∃ v,cs[off+i]?=some v∧CellIs k v
 | [],off,ks,hks,_,i,k,hk=>by
   simp only [Zc3,Option.some.injEq] at hks
   subst hks
   simp at hk
 | f::fs,off,ks,hks,hf,i,k,hk=>by
   simp only [Zc3] at hks
   split at hks
   ·rename_i l hl
    split at hks
    ·rename_i hc
     obtain ⟨r,hr,rfl⟩:=Option.map_eq_some_iff.1 hks
     by_cases hi:i<l.length
     ·rw [List.getElem?_append_left hi] at hk
      have:=hf f List.mem_cons_self l hl hc.2 i k hk
      rwa [hc.1] at this
     ·rw [List.getElem?_append_right (by omega)] at hk
      have:=ZgA fs (off+l.length) r hr (fun g hg=>hf g (List.mem_cons_of_mem _ hg)) (i - l.length) k hk
      rwa [show off+l.length+(i - l.length)=off+i from by omega] at this
    ·cases hks
   ·cases hks
theorem Zfk {cs:List Value}{a n j:Nat}{v:Value}(h:((cs.drop a).take n)[j]?=some v):cs[a+j]?=some v:=by
 rw [List.getElem?_take] at h
 split at h
 ·rwa [List.getElem?_drop] at h
 ·cases h
theorem Zfn:∀ (fuel n:Nat) (t:TypeId) (cs:List Value) (x:DataW H×List MemPlace) (ks:List (Option IntKind)),DataW.trod enc P w base spare held fuel t cs=some x→Zcz P n t=some ks →
 ∀ (i:Nat) (k:Option IntKind),ks[i]?=some k→∃ v,cs[i]?=some v∧CellIs k v
 | 0,_,_,_,_,_,h,_=>by simp [DataW.trod] at h
 | fuel+1,0,_,_,_,_,_,hk=>by simp [Zcz] at hk
 | fuel+1,n+1,t,cs,x,ks,h,hks=>by
   intro i k hk
   unfold Zcz at hks
   split at hks
   ·rename_i hu
    simp only [Option.some.injEq] at hks
    subst hks
    unfold DataW.trod at h
    rw [hu] at h
    match cs,h with
    | [.bool b],_ =>
      match i,hk with
      | 0,hk=>simp at hk; subst hk; exact ⟨_,rfl,b,rfl⟩
      | i+1,hk=>simp at hk
   ·rename_i q hu
    simp only [Option.some.injEq] at hks
    subst hks
    unfold DataW.trod at h
    rw [hu] at h
    match cs,h with
    | [.int k' z],h =>
      simp only at h
      split at h
      ·rename_i hc
       match i,hk with
       | 0,hk=>simp at hk; subst hk; exact ⟨_,rfl,z,by rw [hc.1],hc.2⟩
       | i+1,hk=>simp at hk
      ·cases h
   ·rename_i fs hu
    obtain ⟨xs,m,hm,_,hcl,_,hf⟩:=DataW.trod_struct hu h
    obtain rfl:fuel=m:=by omega
    have:=ZgA (cs:=cs) fs.toList 0 ks hks (fun f hfm l hl hlc j k' hk'=>by
     obtain ⟨i',hi',hfi⟩:=List.getElem_of_mem hfm
     have hfi':fs[i']?=some f:=by rw [← Array.getElem?_toList,List.getElem?_eq_getElem hi',hfi]
     have ht:=hf i' f hfi'
     have hlt:i'<xs.length:=by have:i'<fs.size:=by simpa using hi'
                               omega
     rw [List.getElem?_eq_getElem hlt] at ht
     obtain ⟨v,hv,hc⟩:=Zfn fuel n f.type _ _ l ht hl j k' hk'
     exact ⟨v,Zfk hv,hc⟩) i k hk
    simpa using this
   ·rename_i m e hu
    split at hks
    ·rename_i l hl
     split at hks
     ·rename_i hlc
      simp only [Option.some.injEq] at hks
      subst hks
      unfold DataW.trod at h
      rw [hu] at h
      have h2:∃ xs,(List.range m).mapM (fun i=>DataW.trod enc P w base spare held fuel e ((cs.drop (i * P.cellsOf e)).take (P.cellsOf e)))=some xs:=by
       split at h <;> simp_all
       obtain ⟨_,xs,hx,_⟩:=h
       exact ⟨xs,hx⟩
      obtain ⟨xs,hx⟩:=h2
      have:=Zlr (l:=l) (cs:=cs) m 0 (fun i' hi' j k' hk'=>by
       have hg:=mapM_some_get hx i' i' (by simp [hi'])
       have hlen:=mapM_some_length hx
       have hlt:i'<xs.length:=by simpa [hlen] using hi'
       rw [List.getElem?_eq_getElem hlt] at hg
       obtain ⟨v,hv,hc⟩:=Zfn fuel n e _ _ l hg hl j k' hk'
       refine ⟨v,?_,hc⟩
       rw [hlc]
       simpa using Zfk hv) i k hk
      simpa using this
     ·cases hks
    ·cases hks
   ·cases hks
theorem Zp3 {r:Reach}{b0:Nat}{t:TypeId}{v:Value}(hu:(match P.underlying t with | some (.struct _) | some (.array _ _)=>true | _=>false)=true)(hv:Value.okWide P w r b0 t v) :
 ∃ cs:Array Value,v = .agg cs∧cs.size=P.cellsOf t:=by
 unfold Value.okWide at hv
 split at hv
 ·obtain ⟨cs,h1,h2,_⟩:=hv; exact ⟨cs,h1,h2⟩
 ·obtain ⟨cs,h1,h2,_⟩:=hv; exact ⟨cs,h1,h2⟩
 ·rename_i h1 h2
  split at hu
  ·rename_i q hq; exact absurd hq (h1 q)
  ·rename_i q r hq; exact absurd hq (h2 q r)
  ·cases hu
theorem ZgY {t e:TypeId}{v:Value}{d:DataW H}{p:List MemPlace}(n:Nat){ks:List (Option IntKind)}(ht:P.underlying t=some (.slice e))(hks:Zcz P n e=some ks)(hone:v.cells.toList=[v])
 (h:DataW.Trod enc P w base spare held t v d p) (_hlt:∀ x∈p,x.block<w.heap.size) (hpos:0<P.cellsOf e) :
 v = .slice none 0 0∨∃ (a:Addr) (len cap:Nat),v = .slice (some a) len cap∧len≤cap∧cap≤maxLen∧(0<len→a.block<w.heap.size) ∧
  ∀ i,i<len→∀ (j:Nat) (k:Option IntKind),ks[j]?=some k→∃ u,w.cell? (a.add (i * P.cellsOf e+j))=some u∧CellIs k u:=by
 obtain ⟨fuel,hf⟩:=h
 rw [hone] at hf
 rcases Deep.open_slice ht hf with ⟨h0,_⟩ | ⟨a,len,cap,m,n',D,Pl,hcs,hb,hl,hm,hmm,hx,hi⟩
 ·left; simpa using h0
 ·right
  refine ⟨a,len,cap,by simpa using hcs,hl,hm,?_,?_⟩
  ·intro hpos'
   have hml:len≤m:=by rw [hmm]; split <;> omega
   obtain ⟨cs',hc,_⟩:=hi 0 (by omega)
   obtain ⟨_,hcl,hat⟩:=World.cells?_some hc
   have h0:=hat 0 (by omega)
   have h1:cs'[0]?=some (cs'[0]'(by omega)):=List.getElem?_eq_getElem (by omega)
   rw [h1] at h0
   have:=block_lt_of_cell h0
   simpa [Addr.add] using this
  ·intro i hil j k hk
   have hml:len≤m:=by rw [hmm]; split <;> omega
   obtain ⟨cs',hc,ht'⟩:=hi i (by omega)
   obtain ⟨u,hu,hcell⟩:=Zfn n' n e cs' _ ks ht' hks j k hk
   obtain ⟨_,hcl,hat⟩:=World.cells?_some hc
   have hj:j<P.cellsOf e:=by
    have:=(List.getElem?_eq_some_iff.1 hu).1
    omega
   have:=hat j hj
   rw [← Go.Deep.add_add,this,hu]
   exact ⟨u,rfl,hcell⟩
end
end Go.Proofs.YtfcpdlbkmkhhcaaGreatDoor
