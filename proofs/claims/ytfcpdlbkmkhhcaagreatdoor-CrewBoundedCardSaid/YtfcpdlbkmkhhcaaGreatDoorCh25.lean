/-
  Texts of this claim, joined. No condition.
-/
import Derived.Test.YtfcpdlbkmkhhcaaGreatDoorCh1
import Derived.Test.YtfcpdlbkmkhhcaaGreatDoorCh24
namespace Go.Proofs.YtfcpdlbkmkhhcaaGreatDoor
set_option maxRecDepth 100000
set_option maxHeartbeats 40000000
namespace Cv
open See Cw
section
variable {c:Ch}{mn cp:Nat}{st st' Bj:St}
structure bB (c:Ch)(j:Nat)(hx px:Option Nat)(st st':St):Prop where
 CO:st'.sl (.mine j)=st.sl (.mine j)
 Bi:st'.sl (.chain j)=st.sl (.chain j)
 obj:∀ s,st'.ol s (.aU j)=st.ol s (.aU j)
 oL:∀ s,st.own s = .mine j→st'.lv s=st.lv s∧st'.dh s=st.dh s∧st'.nx s=st.nx s
 OH:∀ s,st.own s = .chain j→st'.nx s=st.nx s
 lk:∀ s o,st.loc s o = .aU j→st'.lk s o=st.lk s o
 fst:∀ s,st.own s = .mine j∨st.hold=some j∧st.own s = .shelf→(∃ l,st'.ol s .first=l++st.ol s .first)∧(st.dh s=false→(st'.ol s .first).length=c.O→(st.ol s .first).length=c.O)
 hd:∀ x,hx≠some x→st'.sl (.head x)=st.sl (.head x)∧∀ s,st'.ol s (.head x)=st.ol s (.head x)
 pt:∀ x,px≠some x→st'.sl (.part x)=st.sl (.part x)
 hdk:st.sl (.head j)=[]→st'.sl (.head j)=[]
 lock:st.hold=some j→st'.hold=some j∧st'.cut=st.cut∧st'.held=st.held∧st'.sl .shelf=st.sl .shelf∧∀ s,st.own s = .shelf→st'.nx s=st.nx s∧st'.lv s=st.lv s∧st'.dh s=st.dh s
 hl:st'.hold=some j→st.hold=some j
 WS:∀ x,st.ht x≤st'.ht x
 Xg:∀ x,st.pt x≤st'.pt x
 tk:st'.tk j=st.tk j
theorem bB.refl {j:Nat}{hx px:Option Nat}:bB c j hx px st st where
 CO:=rfl
 Bi:=rfl
 obj _:=rfl
 oL _ _:=⟨rfl,rfl,rfl⟩
 OH _ _:=rfl
 lk _ _ _:=rfl
 fst _ _:=⟨⟨[],rfl⟩,fun _ h=>h⟩
 hd _ _:=⟨rfl,fun _=>rfl⟩
 pt _ _:=rfl
 hdk h:=h
 lock h:=⟨h,rfl,rfl,rfl,fun _ _=>⟨rfl,rfl,rfl⟩⟩
 hl h:=h
 WS _:=Zxt _
 Xg _:=Zxt _
 tk:=rfl
theorem bB.trans {j:Nat}{hx px:Option Nat}(G:dH c mn cp st)(G':dH c mn cp st')(h:bB c j hx px st st')(h':bB c j hx px st' Bj):bB c j hx px st Bj:=by
 have ho:∀ s,st.own s = .mine j→st'.own s = .mine j:=fun s e=>by
  rw[← G'.sm _ rfl,h.CO,G.sm _ rfl];exact e
 have hc:∀ s,st.own s = .chain j→st'.own s = .chain j:=fun s e=>by
  rw[← G'.sm _ rfl,h.Bi,G.sm _ rfl];exact e
 have ht:∀ s o,st.loc s o = .aU j→st'.loc s o = .aU j:=fun s o e=>by
  rw[← G'.om _ _ rfl,h.obj,G.om _ _ rfl];exact e
 have hs:∀ s,st.hold=some j→st.own s = .shelf→st'.own s = .shelf:=fun s e1 e=>by
  rw[← G'.sm _ rfl,(h.lock e1).2.2.2.1,G.sm _ rfl];exact e
 refine⟨h'.CO.trans h.CO,h'.Bi.trans h.Bi,fun s=>(h'.obj s).trans (h.obj s),?_,?_,?_,?_,?_,?_,fun e=>h'.hdk (h.hdk e),?_,fun e=>h.hl (h'.hl e),fun x=>ZxL (h.WS x) (h'.WS x),fun x=>ZxL (h.Xg x) (h'.Xg x),h'.tk.trans h.tk⟩
 ·intro s e
  obtain⟨a1,a2,a3⟩:=h.oL s e;obtain⟨b1,b2,b3⟩:=h'.oL s (ho s e);exact⟨b1.trans a1,b2.trans a2,b3.trans a3⟩
 ·intro s e
  exact(h'.OH s (hc s e)).trans (h.OH s e)
 ·intro s o e
  exact(h'.lk s o (ht s o e)).trans (h.lk s o e)
 ·intro s e
  obtain⟨⟨l,a1⟩,a2⟩:=h.fst s e;have e2:st'.own s = .mine j∨st'.hold=some j∧st'.own s = .shelf:=by
   rcases e with e|⟨e1,e⟩
   ·exact .inl (ho s e)
   ·exact .inr ⟨(h.lock e1).1,hs s e1 e⟩
  obtain⟨⟨l',b1⟩,b2⟩:=h'.fst s e2;refine⟨⟨l'++l,by rw[b1,a1,ZxG]⟩,fun hf hl=>a2 hf (b2 ?_ hl)⟩;rcases e with e|⟨e1,e⟩
  ·rw[(h.oL s e).2.1]
   exact hf
  ·rw[((h.lock e1).2.2.2.2 s e).2.2]
   exact hf
 ·intro x hx
  obtain⟨a1,a2⟩:=h.hd x hx;obtain⟨b1,b2⟩:=h'.hd x hx;exact⟨b1.trans a1,fun s=>(b2 s).trans (a2 s)⟩
 ·intro x hx
  exact(h'.pt x hx).trans (h.pt x hx)
 ·intro e
  obtain⟨a1,a2,a3,a4,a5⟩:=h.lock e;obtain⟨b1,b2,b3,b4,b5⟩:=h'.lock a1;refine⟨b1,b2.trans a2,b3.trans a3,b4.trans a4,fun s tL => ?_⟩;obtain⟨a6,a7,a8⟩:=a5 s tL;obtain⟨b6,b7,b8⟩:=b5 s (hs s e tL);exact⟨b6.trans a6,b7.trans a7,b8.trans a8⟩
theorem wR {j k s:Nat}{a b:Ct}{l1 l2:List Nat}{hx px:Option Nat}(hj:j≠k)(ha:∀ x,a = .aU x→x=k)(hb:∀ x,b = .aU x→x=k)(OB:∀ x,a = .head x∨b = .head x→hx=some x)
 (hf:a = .first→st.own s = .mine k∨st.hold=some k∧st.own s = .shelf) (Ho:a≠b)
 (lZ:b = .first→st.dh s=false→(l1++st.ol s .first).length=c.O→(st.ol s .first).length=c.O∨st.own s = .mine k∨st.hold=some k∧st.own s = .shelf) :
 bB c j hx px st (bW st s a b l1 l2):=by
 refine { (bB.refl:bB c j hx px st st) with obj := ?_,fst := ?_,hd := ?_ }
 ·intro x
  unfold bW;dsimp only;rw[if_neg,if_neg]
  ·rintro⟨-,rfl⟩
   exact hj (ha j rfl)
  ·rintro⟨-,rfl⟩
   exact hj (hb j rfl)
 ·intro x e
  unfold bW;dsimp only;split
  ·rename_i e2
   obtain⟨rfl,rfl⟩:=e2;refine⟨⟨l1,rfl⟩,fun h1 h2 => ?_⟩;rcases lZ rfl h1 h2 with h3|h3|⟨h3,h4⟩
   ·exact h3
   ·rw[h3]at e
    rcases e with e|⟨_,e⟩
    ·cases e
     exact absurd rfl hj
    ·cases e
   ·rw[h3,h4]at e
    rcases e with e|⟨e,_⟩
    ·cases e
    ·cases e
     exact absurd rfl hj
  ·split
   ·rename_i e2
    obtain⟨rfl,rfl⟩:=e2;exfalso;rcases hf rfl with h3|⟨h3,h4⟩
    ·rw[h3]at e
     rcases e with e|⟨_,e⟩
     ·cases e
      exact hj rfl
     ·cases e
    ·rw[h3,h4]at e
     rcases e with e|⟨e,_⟩
     ·cases e
     ·cases e
      exact hj rfl
   ·exact⟨⟨[],rfl⟩,fun _ h=>h⟩
 ·intro x hx
  refine⟨rfl,fun y => ?_⟩;unfold bW;dsimp only;rw[if_neg,if_neg]
  ·rintro⟨-,rfl⟩
   exact hx (OB x (.inl rfl))
  ·rintro⟨-,rfl⟩
   exact hx (OB x (.inr rfl))
structure vI (c:Ch)(cp:Nat)(st:St)(a b:Own)(l1 l2:List Nat):Prop where
 ne:a≠b
 src:a.listed=true→st.sl a=l1++l2
 at_:∀ s∈l1,st.own s=a
 nd:l1.Nodup
 ad:a≠.dead∧a≠.shelf
 bd:b≠.dead
 lv:∀ s∈l1,st.lv s=true
 k:∀ x,b = .head x∨b = .part x∨b = .chain x∨b = .mine x→x<c.C
 one:∀ x,b = .head x∨b = .mine x→l1.length+(st.sl b).length≤1
 fu:b = .full→∀ s∈l1,st.dh s=false∧st.ol s .first=[]
 sh:b = .shelf→st.hold≠none∧∀ s∈l1,st.dh s=false∧st.ol s .first≠[]
 hp:∀ x,b = .head x∨b = .part x∨b = .chain x→∀ s∈l1,st.dh s=true
 oh:∀ x,a = .head x→∀ s∈l1,st.ol s (.head x)=[]
 cP:∀ x,b = .part x∨b = .chain x→xk st.nx (l1++st.sl b)
 cS:b = .shelf→Co st.nx (l1++st.sl b)
 cap:∀ x,b = .part x→(l1++st.sl b).length≤cp
theorem Uq {f:Nat→Nat}:∀ {p q:List Nat},xk f (p++q)→xk f q
 |[],_,h=>h
 |_::_,_,⟨_,h⟩=>Uq h
theorem ZsP {a b:Own}{l1 l2:List Nat}(G:dH c mn cp st)(h:vI c cp st a b l1 l2)(y:Own)(hy:y.listed=true)(s:Nat):s∈(di st a b l1 l2).sl y↔(di st a b l1 l2).own s=y:=by
 have hm:=G.sm y hy s;have hs:=h.src;have ha:=h.at_ s;have hne:=h.ne;unfold di;dsimp only;by_cases hb:y=b
 ·subst hb
  simp only[if_true,ZxQ,hm];by_cases ho:s∈l1<;>simp[ho]
 ·rw[if_neg hb]
  by_cases IR:y=a
  ·subst IR
   rw[if_pos rfl];have hd:=G.sd y hy;rw[hs hy]at hd;by_cases ho:s∈l1
   ·rw[if_pos ho]
    constructor
    ·intro e
     exact absurd rfl ((List.nodup_append.1 hd).2.2 s ho s e)
    ·intro e
     exact absurd e.symm hb
   ·rw[if_neg ho,← hm,hs hy,ZxQ]
    simp[ho]
  ·rw[if_neg IR,hm]
   by_cases ho:s∈l1
   ·rw[if_pos ho,ha ho]
    constructor
    ·intro e
     exact absurd e.symm IR
    ·intro e
     exact absurd e.symm hb
   ·rw[if_neg ho]
theorem ZsO {a b:Own}{l1 l2:List Nat}(G:dH c mn cp st)(h:vI c cp st a b l1 l2)(y:Own)(hy:y.listed=true):((di st a b l1 l2).sl y).Nodup:=by
 unfold di;dsimp only;split
 ·rename_i e
  subst e;refine List.nodup_append.2 ⟨h.nd,G.sd y hy,?_⟩;intro p hp q hq e;subst e;rw[G.sm y hy,h.at_ p hp]at hq;exact h.ne hq
 ·split
  ·rename_i e
   subst e;have:=G.sd y hy;rw[h.src hy]at this;exact(List.nodup_append.1 this).2.1
  ·exact G.sd y hy
theorem zm {a b:Own}{l1 l2:List Nat}(G:dH c mn cp st)(h:vI c cp st a b l1 l2):dH c mn cp (di st a b l1 l2):=by
 have fE:b≠.shelf→(di st a b l1 l2).sl .shelf=st.sl .shelf:=fun e=>by
  unfold di;dsimp only;rw[if_neg (fun e2=>e e2.symm),if_neg (fun e2=>h.ad.2 e2.symm)]
 have rP:∀ s,st.cut=some s→(di st a b l1 l2).own s = .shelf∧st.dh s=true:=by
  intro s hs;obtain⟨h1,h2⟩:=G.cuts s hs;refine⟨?_,h2⟩;unfold di;dsimp only;rw[if_neg]
  ·exact h1
  ·intro e
   rw[h.at_ s e]at h1;exact h.ad.2 h1
 refine { G with cuts:=rP,oh := ?_,sm:=ZsP G h,sd:=ZsO G h,sb := ?_,s1 := ?_,sk := ?_,live := ?_,dead := ?_,making := ?_,full := ?_,shelf := ?_,hpc := ?_,cP := ?_,cS := ?_,cap := ?_,rest := ?_ }
 ·intro s o k hl
  have:=G.oh s o k hl;unfold di;dsimp only;split
  ·rename_i hs
   rw[h.at_ s hs]at this;have h2:=h.oh k this s hs;have h3:=(G.om s (.head k) rfl o).2 hl;rw[h2]at h3;cases h3
  ·exact this
 ·intro s
  unfold di;dsimp only;split
  ·rename_i hs
   intro _;exact G.sb s (by rw[h.at_ s hs];exact h.ad.1)
  ·exact G.sb s
 ·have key:∀ k y,(y = .head k∨y = .mine k)→(st.sl y).length≤1→((di st a b l1 l2).sl y).length≤1:=by
   intro k y hy h1;unfold di;dsimp only;split
   ·rename_i e
    subst e;rw[Zxw];exact h.one k hy
   ·split
    ·rename_i e
     subst e;rw[h.src (by rcases hy with rfl|rfl<;>rfl),Zxw]at h1;omega
    ·exact h1
  intro k;exact⟨key k _ (.inl rfl) (G.s1 k).1,key k _ (.inr rfl) (G.s1 k).2⟩
 ·intro s k
  unfold di;dsimp only;split
  ·exact h.k k
  ·exact G.sk s k
 ·intro s o hs ho
  have:=G.live s o hs ho;unfold di;dsimp only;split
  ·rename_i hl
   rw[h.at_ s hl]at this;constructor
   ·intro e
    exact absurd (this.1 e) h.ad.1
   ·intro e
    exact absurd e h.bd
  ·exact this
 ·intro s
  unfold di;dsimp only;split
  ·intro e
   exact absurd e h.bd
  ·exact G.dead s
 ·intro s k
  unfold di;dsimp only;split
  ·rename_i hl
   intro _ e;rw[h.lv s hl]at e;cases e
  ·exact G.making s k
 ·intro s
  unfold di;dsimp only;split
  ·rename_i hl
   intro e;exact⟨h.lv s hl,h.fu e s hl⟩
  ·exact G.full s
 ·intro s
  unfold di;dsimp only;split
  ·rename_i hl
   intro e;exact⟨h.lv s hl,fun _=>(h.sh e).2 s hl⟩
  ·exact G.shelf s
 ·intro s k
  unfold di;dsimp only;split
  ·rename_i hl
   intro e;exact⟨h.lv s hl,h.hp k e s hl⟩
  ·exact G.hpc s k
 ·have key:∀ k y,(y = .part k∨y = .chain k)→xk st.nx (st.sl y)→xk st.nx ((di st a b l1 l2).sl y):=by
   intro k y hy h1;unfold di;dsimp only;split
   ·rename_i e
    subst e;exact h.cP k hy
   ·split
    ·rename_i e
     subst e;rw[h.src (by rcases hy with rfl|rfl<;>rfl)]at h1;exact Uq h1
    ·exact h1
  intro k;exact⟨key k _ (.inl rfl) (G.cP k).1,key k _ (.inr rfl) (G.cP k).2⟩
 ·by_cases e:b = .shelf
  ·unfold di
   dsimp only;rw[if_pos e.symm];exact h.cS e
  ·rw[fE e]
   exact G.cS
 ·intro k
  unfold di;dsimp only;split
  ·rename_i e
   exact h.cap k e.symm
  ·split
   ·rename_i e
    subst e;have:=G.cap k;rw[h.src rfl,Zxw]at this;omega
   ·exact G.cap k
 ·intro hh
  have e:b≠.shelf:=fun e=>(h.sh e).1 hh;obtain⟨h1,h2,h3⟩:=G.rest hh;refine⟨h1,?_,?_⟩
  ·rw[fE e]
   exact h2
  ·unfold lT
   rw[fE e];exact h3
theorem zn {j k:Nat}{a b:Own}{l1 l2:List Nat}{hx px:Option Nat}(hj:j≠k)(ha:∀ x,a = .mine x∨a = .chain x→x=k)(hb:∀ x,b = .mine x∨b = .chain x→x=k)(OB:∀ x,a = .head x∨b = .head x→hx=some x)(Cz:∀ x,a = .part x∨b = .part x→px=some x)
 (mR:∀ x,b = .head x→x=k) (fE:b = .shelf→st.hold=some k) (has:a≠.shelf) (hah:∀ x,a = .head x→st.sl a=l1++l2) :
 bB c j hx px st (di st a b l1 l2):=by
 have key:∀ y,y≠a→y≠b→(di st a b l1 l2).sl y=st.sl y:=fun y h1 h2=>by
  unfold di;dsimp only;rw[if_neg h2,if_neg h1]
 refine { (bB.refl:bB c j hx px st st) with CO := ?_,Bi := ?_,hd := ?_,pt := ?_,hdk := ?_,lock := ?_ }
 ·exact key _ (fun e=>hj (ha j (.inl e.symm))) (fun e=>hj (hb j (.inl e.symm)))
 ·exact key _ (fun e=>hj (ha j (.inr e.symm))) (fun e=>hj (hb j (.inr e.symm)))
 ·intro x hx
  exact⟨key _ (fun e=>hx (OB x (.inl e.symm))) (fun e=>hx (OB x (.inr e.symm))),fun _=>rfl⟩
 ·intro x hx
  exact key _ (fun e=>hx (Cz x (.inl e.symm))) (fun e=>hx (Cz x (.inr e.symm)))
 ·intro h1
  have h2:Own.head j≠b:=fun e=>hj (mR j e.symm);unfold di;dsimp only;rw[if_neg h2];split
  ·rename_i e
   have:=hah j e.symm;rw[← e,h1]at this;exact(List.nil_eq_append_iff.1 this).2
  ·exact h1
 ·intro h1
  refine⟨h1,rfl,rfl,key _ (fun e=>has e.symm) ?_,fun _ _=>⟨rfl,rfl,rfl⟩⟩;intro e;have:=fE e.symm;rw[h1]at this;cases this;exact hj rfl
end
end Cv
namespace Cv
open See Cw
section
variable {c:Ch}{mn cp:Nat}{st st' Bj:St}
def sS (st:St)(s o x:Nat):St:={ st with lk:=fun y p=>if y=s∧p=o then x else st.lk y p }
theorem Ew {s o x k:Nat}(G:dH c mn cp st)(h:st.loc s o = .aU k):dH c mn cp (sS st s o x):=by
 have key:∀ y z,z.listed=true→(∀ k,z≠.aU k)→gy (st.lk y) (See.keyOf c.key y) (st.ol y z) (-1)→gy ((sS st s o x).lk y) (See.keyOf c.key y) (st.ol y z) (-1):=by
  intro y z hz Ee hl;refine Pn (fun p hp => ?_) hl;unfold sS;dsimp only;rw[if_neg];rintro⟨rfl,rfl⟩;rw[G.om y z hz,h]at hp;exact Ee k hp.symm
 refine { G with l1 := ?_,l2 := ?_ }
 ·exact fun s=>key s _ rfl (fun k e=>by cases e) (G.l1 s)
 ·exact fun s k=>key s _ rfl (fun k e=>by cases e) (G.l2 s k)
theorem sK {j k s o x:Nat}{hx px:Option Nat}(hj:j≠k)(h:st.loc s o = .aU k):bB c j hx px st (sS st s o x):=by
 refine { (bB.refl:bB c j hx px st st) with lk := ?_ };intro y p hp;unfold sS;dsimp only;rw[if_neg];rintro⟨rfl,rfl⟩;rw[h]at hp;cases hp;exact hj rfl
def yE (st:St)(s x:Nat):St:={ st with nx:=fun y=>if y=s then x else st.nx y }
theorem Yp {s x k:Nat}(G:dH c mn cp st)(h:st.own s = .mine k)(hx:x<18446744073709551616):dH c mn cp (yE st s x):=by
 have ne:∀ y z,z.listed=true→z≠.mine k→y∈st.sl z→(yE st s x).nx y=st.nx y:=by
  intro y z hz Ee hy;unfold yE;dsimp only;rw[if_neg];rintro rfl;rw[G.sm z hz,h]at hy;exact Ee hy.symm
 refine { G with cP := ?_,cS := ?_,Ko := ?_ }
 ·intro x
  exact⟨Pw (fun y hy=>ne y _ rfl (fun e=>by cases e) hy) (G.cP x).1,Pw (fun y hy=>ne y _ rfl (fun e=>by cases e) hy) (G.cP x).2⟩
 ·exact Px (fun y hy=>ne y _ rfl (fun e=>by cases e) hy) G.cS
 ·intro y
  unfold yE;dsimp only;split
  ·exact hx
  ·exact G.Ko y
theorem Yq {j k s x:Nat}{hx px:Option Nat}(hj:j≠k)(h:st.own s = .mine k):bB c j hx px st (yE st s x):=by
 have ne:∀ y,st.own y≠.mine k→(yE st s x).nx y=st.nx y:=by
  intro y hy;unfold yE;dsimp only;rw[if_neg];rintro rfl;exact hy h
 refine { (bB.refl:bB c j hx px st st) with oL := ?_,OH := ?_,lock := ?_ }
 ·intro y hy
  refine⟨rfl,rfl,ne y ?_⟩;rw[hy];intro e;cases e;exact hj rfl
 ·intro y hy
  refine ne y ?_;rw[hy];intro e;cases e
 ·intro hh
  refine⟨hh,rfl,rfl,rfl,fun y hy=>⟨ne y ?_,rfl,rfl⟩⟩;rw[hy];intro e;cases e
def jr (st:St)(s:Nat)(a b:Bool):St:={ st with lv:=fun y=>if y=s then a else st.lv y,dh:=fun y=>if y=s then b else st.dh y }
theorem KW {s k:Nat}{a b:Bool}(G:dH c mn cp st)(h:st.own s = .mine k)(ha:a=false→∀ o,o<c.O→st.loc s o = .aU k):dH c mn cp (jr st s a b):=by
 have ne:∀ y,st.own y≠.mine k→(jr st s a b).lv y=st.lv y∧(jr st s a b).dh y=st.dh y:=by
  intro y hy;unfold jr;dsimp only;rw[if_neg,if_neg]
  ·exact⟨rfl,rfl⟩
  ·rintro rfl
   exact hy h
  ·rintro rfl
   exact hy h
 have rP:∀ y,st.cut=some y→st.own y = .shelf∧(jr st s a b).dh y=true:=by
  intro y hy;obtain⟨h1,h2⟩:=G.cuts y hy;refine⟨h1,?_⟩;rw[(ne y (by rw[h1];intro e;cases e)).2];exact h2
 refine { G with dead := ?_,making := ?_,full := ?_,shelf := ?_,hpc := ?_,rest := ?_,cuts:=rP }
 rotate_right
 ·intro e
  obtain⟨h1,h2,h3⟩:=G.rest e;refine⟨h1,h2,ZxL (Ey fun x hx he => ?_) h3⟩;rw[(ne x (by
   rw[(G.sm .shelf rfl x).1 hx];intro e;cases e)).2]at he
  exact he
 ·intro y hy
  rw[(ne y (by rw[show st.own y = .dead from hy];intro e;cases e)).1];exact G.dead y hy
 ·intro y j hy hl o ho
  by_cases e:y=s
  ·subst e
   have e1:Own.mine j=Own.mine k:=by
    rw[← h];exact hy.symm
   cases e1;refine ha ?_ o ho;unfold jr at hl;dsimp only at hl;rw[if_pos rfl]at hl;exact hl
  ·refine G.making y j hy ?_ o ho
   unfold jr at hl;dsimp only at hl;rw[if_neg e]at hl;exact hl
 ·intro y hy
  obtain⟨e1,e2⟩:=ne y (by rw[show st.own y = .full from hy];intro e;cases e);rw[e1,e2];exact G.full y hy
 ·intro y hy
  obtain⟨e1,e2⟩:=ne y (by rw[show st.own y = .shelf from hy];intro e;cases e);rw[e1,e2];exact G.shelf y hy
 ·intro y x hy
  obtain⟨e1,e2⟩:=ne y (by
   intro e;rcases hy with hy|hy|hy <;>
   ·rw[show st.own y=_ from hy]at e
    cases e)
  rw[e1,e2];exact G.hpc y x hy
theorem Ld {j k s:Nat}{a b:Bool}{hx px:Option Nat}(hj:j≠k)(h:st.own s = .mine k):bB c j hx px st (jr st s a b):=by
 have ne:∀ y,st.own y≠.mine k→(jr st s a b).lv y=st.lv y∧(jr st s a b).dh y=st.dh y:=by
  intro y hy;unfold jr;dsimp only;rw[if_neg,if_neg]
  ·exact⟨rfl,rfl⟩
  ·rintro rfl
   exact hy h
  ·rintro rfl
   exact hy h
 refine { (bB.refl:bB c j hx px st st) with oL := ?_,lock := ?_ }
 ·intro y hy
  obtain⟨e1,e2⟩:=ne y (by
   rw[hy];intro e;cases e;exact hj rfl)
  exact⟨e1,e2,rfl⟩
 ·intro hh
  refine⟨hh,rfl,rfl,rfl,fun y hy => ?_⟩;obtain⟨e1,e2⟩:=ne y (by
   rw[hy];intro e;cases e)
  exact⟨rfl,e1,e2⟩
def zK (st:St)(s:Nat):St:={ st with dh:=fun y=>if y=s then true else st.dh y,cut:=some s }
theorem Zme {s k:Nat}(G:dH c mn cp st)(h:st.own s = .shelf)(hh:st.hold=some k)(hc:st.cut=none):dH c mn cp (zK st s):=by
 have ne:∀ y,st.own y≠.shelf→(zK st s).dh y=st.dh y:=by
  intro y hy;unfold zK;dsimp only;rw[if_neg];rintro rfl;exact hy h
 have rP:∀ y,(zK st s).cut=some y→st.own y = .shelf∧(zK st s).dh y=true:=by
  intro y hy;cases hy;exact⟨h,if_pos rfl⟩
 refine { G with full := ?_,shelf := ?_,hpc := ?_,rest := ?_,cuts:=rP }
 ·intro y hy
  rw[ne y (by rw[show st.own y = .full from hy];intro e;cases e)];exact G.full y hy
 ·intro y hy
  obtain⟨h1,h2⟩:=G.shelf y hy;refine⟨h1,fun hne => ?_⟩;have e:y≠s:=fun e=>hne (by rw[e];rfl);obtain⟨h3,h4⟩:=h2 (by rw[hc];intro e;cases e);refine⟨?_,h4⟩;unfold zK;dsimp only;rw[if_neg e];exact h3
 ·intro y x hy
  rw[ne y (by
   intro e;rcases hy with hy|hy|hy <;>
   ·rw[show st.own y=_ from hy]at e
    cases e)]
  exact G.hpc y x hy
 ·intro e
  rw[show st.hold=none from e]at hh;cases hh
theorem Zmf {j k s:Nat}{hx px:Option Nat}(hj:j≠k)(h:st.own s = .shelf)(hh:st.hold=some k):bB c j hx px st (zK st s):=by
 refine { (bB.refl:bB c j hx px st st) with oL := ?_,lock := ?_ }
 ·intro y hy
  refine⟨rfl,?_,rfl⟩;unfold zK;dsimp only;rw[if_neg];rintro rfl;rw[h]at hy;cases hy
 ·intro e
  rw[hh]at e;cases e;exact absurd rfl hj
def off (st:St)(k:Nat)(p:List Nat)(s:Nat)(q:List Nat):St:={ st with
 sl:=fun y=>if y = .mine k then [s] else if y = .shelf then p++q else st.sl y
 own:=fun y=>if y=s then .mine k else st.own y
 nx:=fun y=>if p.getLast?=some y then sw q else st.nx y
 cut:=none }
theorem ZT {f:Nat→Nat}:∀ {p q:List Nat} {s:Nat},(p++s::q).Nodup→Co f (p++s::q)→Co (fun y=>if p.getLast?=some y then sw q else f y) (p++q)
 |[],q,s,_,h=>by
  refine Px (fun o _ => ?_) h.2;simp
 |[a],q,s,hn,h=>by
  refine⟨by simp,Px (fun o ho => ?_) h.2.2⟩;rw[if_neg];intro e;simp at e;subst e;simp at hn;exact hn.1.2 ho
 |a::b::p,q,s,hn,h=>by
  have h2:=ZT (p:=b::p) (q:=q) (s:=s) (List.nodup_cons.1 hn).2 h.2;refine⟨?_,?_⟩
  ·show(if (a::b::p).getLast?=some a then sw q else f a)=_
   rw[if_neg,h.1]
   ·rfl
   ·intro e
    have:a∈b::p:=by
     have:=List.mem_of_getLast? (l:=a::b::p) e;rw[List.getLast?_cons_cons]at e;exact List.mem_of_getLast? e
    have jT:=(List.nodup_cons.1 hn).1;exact jT (List.mem_append_left (s::q) this)
  ·have e:(a::b::p).getLast?=(b::p).getLast?:=List.getLast?_cons_cons
   simp only[e];exact h2
theorem Zn {k s:Nat}{p q:List Nat}(G:dH c mn cp st)(h:st.sl .shelf=p++s::q)(hm:st.sl (.mine k)=[])(hk:k<c.C)(hh:st.hold=some k)(hc:∀ y,st.cut=some y→y=s)(hS:c.S≤32):dH c mn cp (off st k p s q):=by
 have dS:st.own s = .shelf:=(G.sm .shelf rfl s).1 (by rw[h];simp);have jZ:=G.sd .shelf rfl;rw[h]at jZ;have rZ:s∉p∧s∉q:=by
  have h1:=(List.nodup_append.1 jZ).2.2;have h2:=(List.nodup_append.1 jZ).2.1;exact⟨fun e=>h1 s e s ZnJ rfl,(List.nodup_cons.1 h2).1⟩
 have WC:∀ y∈p,st.own y = .shelf:=fun y hy=>(G.sm .shelf rfl y).1 (by rw[h];simp[hy]);have ou:∀ y,st.own y≠.shelf→(off st k p s q).nx y=st.nx y:=by
  intro y hy;unfold off;dsimp only;rw[if_neg];intro e;exact hy (WC y (List.mem_of_getLast? e))
 have bC:∀ y,y≠.mine k→y≠.shelf→(off st k p s q).sl y=st.sl y:=by
  intro y h1 h2;unfold off;dsimp only;rw[if_neg h1,if_neg h2]
 have pQ:∀ y z,z≠.mine k→(off st k p s q).own y=z→st.own y=z∧y≠s:=by
  intro y z hz e;unfold off at e;dsimp only at e;split at e
  ·exact absurd e.symm hz
  ·rename_i hy
   exact⟨e,hy⟩
 refine { G with oh := ?_,sm := ?_,sd := ?_,sb := ?_,s1 := ?_,sk := ?_,live := ?_,dead := ?_,making := ?_,full := ?_,shelf := ?_,hpc := ?_,cP := ?_,cS := ?_,cap := ?_,rest := ?_,Ko := ?_,cuts:=fun y e=>by cases e }
 ·intro y o x hl
  have:=G.oh y o x hl;unfold off;dsimp only;rw[if_neg]
  ·exact this
  ·rintro rfl
   rw[dS]at this;cases this
 ·intro y hy x
  unfold off;dsimp only;by_cases e1:y = .mine k
  ·subst e1
   rw[if_pos rfl,ZxE];by_cases e2:x=s
   ·simp[e2]
   ·simp only[e2,if_false,false_iff]
    rw[← G.sm _ rfl,hm];simp
  ·rw[if_neg e1]
   by_cases e2:y = .shelf
   ·subst e2
    rw[if_pos rfl];by_cases e3:x=s
    ·subst e3
     simp[rZ]
    ·rw[if_neg e3,← G.sm _ rfl,h]
     simp[e3]
   ·rw[if_neg e2]
    by_cases e3:x=s
    ·subst e3
     rw[if_pos rfl,G.sm y hy,dS];exact⟨fun e=>absurd e.symm e2,fun e=>absurd e.symm e1⟩
    ·rw[if_neg e3]
     exact G.sm y hy x
 ·intro y hy
  unfold off;dsimp only;split
  ·simp
  ·split
   ·have h1:=(List.nodup_append.1 jZ)
    exact List.nodup_append.2 ⟨h1.1,(List.nodup_cons.1 h1.2.1).2,fun a ha b hb=>h1.2.2 a ha b (ZnQ _ hb)⟩
   ·exact G.sd y hy
 ·intro y
  unfold off;dsimp only;split
  ·rename_i e
   subst e;intro _;exact G.sb y (by rw[dS];intro e;cases e)
  ·exact G.sb y
 ·intro x
  refine⟨?_,?_⟩
  ·rw[bC _ (fun e=>by cases e) (fun e=>by cases e)]
   exact(G.s1 x).1
  ·unfold off
   dsimp only;split
   ·simp
   ·rw[if_neg (fun e=>by cases e)]
    exact(G.s1 x).2
 ·intro y x
  unfold off;dsimp only;split
  ·rintro(e|e|e|e)<;>cases e
   exact hk
  ·exact G.sk y x
 ·intro y o hy ho
  have:=G.live y o hy ho;unfold off;dsimp only;split
  ·rename_i e
   subst e;rw[dS]at this;constructor
   ·intro e
    have:=this.1 e;cases this
   ·intro e
    cases e
  ·exact this
 ·intro y hy
  exact G.dead y (pQ y _ (fun e=>by cases e) hy).1
 ·intro y x hy hl
  by_cases e:y=s
  ·subst e
   have:=(G.shelf y dS).1;rw[show st.lv y=false from hl]at this;cases this
  ·refine G.making y x ?_ hl
   unfold off at hy;dsimp only at hy;rw[if_neg e]at hy;exact hy
 ·intro y hy
  exact G.full y (pQ y _ (fun e=>by cases e) hy).1
 ·intro y hy
  obtain⟨h1,h2⟩:=pQ y _ (fun e=>by cases e) hy;obtain⟨h3,h4⟩:=G.shelf y h1;exact⟨h3,fun _=>h4 fun e=>h2 (hc y e)⟩
 ·intro y x hy
  have:st.own y = .head x∨st.own y = .part x∨st.own y = .chain x:=by
   rcases hy with hy|hy|hy
   ·exact .inl (pQ y _ (fun e=>by cases e) hy).1
   ·exact .inr (.inl (pQ y _ (fun e=>by cases e) hy).1)
   ·exact .inr (.inr (pQ y _ (fun e=>by cases e) hy).1)
  exact G.hpc y x this
 ·intro x
  have key:∀ z,z.listed=true→z≠.mine k→z≠.shelf→xk st.nx (st.sl z)→xk (off st k p s q).nx ((off st k p s q).sl z):=by
   intro z hz h1 h2 h3;rw[bC z h1 h2];refine Pw (fun y hy=>ou y ?_) h3;rw[(G.sm z hz y).1 hy];exact h2
  exact⟨key _ rfl (fun e=>by cases e) (fun e=>by cases e) (G.cP x).1,key _ rfl (fun e=>by cases e) (fun e=>by cases e) (G.cP x).2⟩
 ·have:=G.cS
  rw[h]at this;exact ZT jZ this
 ·intro x
  rw[bC _ (fun e=>by cases e) (fun e=>by cases e)];exact G.cap x
 ·intro e
  rw[show st.hold=none from e]at hh;cases hh
 ·intro y
  unfold off;dsimp only;split
  ·cases q with
   |nil=>simp[sw]
   |cons a q =>
    have:=G.sb a (by rw[(G.sm .shelf rfl a).1 (by rw[h];simp)];intro e;cases e);show a+1<_;omega
  ·exact G.Ko y
theorem TP {j k s:Nat}{p q:List Nat}{hx px:Option Nat}(G:dH c mn cp st)(hj:j≠k)(h:st.sl .shelf=p++s::q)(hh:st.hold=some k):bB c j hx px st (off st k p s q):=by
 have WC:∀ y∈p,st.own y = .shelf:=fun y hy=>(G.sm .shelf rfl y).1 (by rw[h];simp[hy]);have ou:∀ y,st.own y≠.shelf→(off st k p s q).nx y=st.nx y:=by
  intro y hy;unfold off;dsimp only;rw[if_neg];intro e;exact hy (WC y (List.mem_of_getLast? e))
 have bC:∀ y,y≠.mine k→y≠.shelf→(off st k p s q).sl y=st.sl y:=by
  intro y h1 h2;unfold off;dsimp only;rw[if_neg h1,if_neg h2]
 refine { (bB.refl:bB c j hx px st st) with CO := ?_,Bi := ?_,oL := ?_,OH := ?_,hd := ?_,pt := ?_,hdk := ?_,lock := ?_ }
 ·exact bC _ (fun e=>by cases e;exact hj rfl) (fun e=>by cases e)
 ·exact bC _ (fun e=>by cases e) (fun e=>by cases e)
 ·intro y hy
  exact⟨rfl,rfl,ou y (by rw[hy];intro e;cases e)⟩
 ·intro y hy
  exact ou y (by rw[hy];intro e;cases e)
 ·intro x _
  exact⟨bC _ (fun e=>by cases e) (fun e=>by cases e),fun _=>rfl⟩
 ·intro x _
  exact bC _ (fun e=>by cases e) (fun e=>by cases e)
 ·intro e
  rw[bC _ (fun e=>by cases e) (fun e=>by cases e)];exact e
 ·intro e
  rw[hh]at e;cases e;exact absurd rfl hj
end
end Cv
namespace Cv
open See Cw
section
variable {c:Ch}{mn cp:Nat}{st st' Bj:St}
def jG (st:St)(h:Option Nat):St:={ st with hold:=h }
theorem tZ {h:Option Nat}(G:dH c mn cp st)(hk:∀ k,h=some k→k<c.C)(hr:h=none→st.cut=none∧st.held=(st.sl .shelf).length∧lT c st≤mn):dH c mn cp (jG st h):={ G with rest:=hr,hn:=hk }
theorem zo {j k:Nat}{h:Option Nat}{hx px:Option Nat}(hj:j≠k)(h0:st.hold=none∨st.hold=some k)(h1:h=none∨h=some k):bB c j hx px st (jG st h):=by
 refine { (bB.refl:bB c j hx px st st) with lock := ?_,hl := ?_ }
 ·intro e
  rw[e]at h0;rcases h0 with h0|h0
  ·cases h0
  ·cases h0
   exact absurd rfl hj
 ·intro e
  rcases h1 with h1|h1
  ·rw[show(jG st h).hold=h from rfl,h1]at e
   cases e
  ·rw[show(jG st h).hold=h from rfl,h1]at e
   cases e;exact absurd rfl hj
def zG (st:St)(x:Nat):St:={ st with held:=x }
theorem O7 {k x:Nat}(G:dH c mn cp st)(h:st.hold=some k):dH c mn cp (zG st x):=by
 refine { G with rest := ?_ };intro e;rw[show st.hold=none from e]at h;cases h
theorem O8 {j k x:Nat}{hx px:Option Nat}(hj:j≠k)(h:st.hold=some k):bB c j hx px st (zG st x):=by
 refine { (bB.refl:bB c j hx px st st) with lock := ?_ };intro e;rw[h]at e;cases e;exact absurd rfl hj
def upd {α:Type}(f:Nat→α)(k:Nat)(x:α):Nat→α:=fun y=>if y=k then x else f y
theorem upd_same {α:Type}{f:Nat→α}{k:Nat}{x:α}:upd f k x k=x:=if_pos rfl
theorem upd_ne {α:Type}{f:Nat→α}{k j:Nat}{x:α}(h:j≠k):upd f k x j=f j:=if_neg h
def one:Option Nat→(Nat→Nat)→Nat→Nat
 |none,f=>f
 |some x,f=>fun y=>if x=y then f y+1 else f y
theorem PT {x:Nat}{f:Nat→Nat}:one (some x) f x=f x+1:=if_pos rfl
theorem Qo {z:Option Nat}{x:Nat}{f:Nat→Nat}(h:z≠some x):one z f x=f x:=by
 cases z with
 |none=>rfl
 |some y=>exact if_neg (fun e=>h (by rw[e]))
def tick (st:St)(hx px:Option Nat)(k:Nat)(t:Option Tk):St:={ st with ht:=one hx st.ht,pt:=one px st.pt,n:=st.n+1,tk:=upd st.tk k t }
theorem TA {hx px:Option Nat}{k:Nat}{t:Option Tk}(G:dH c mn cp st):dH c mn cp (tick st hx px k t):=by
 refine { G with turn := ?_ };intro x;have h:=G.turn x;have key:∀ (z:Option Nat) (f:Nat→Nat),f x≤st.n→one z f x≤st.n+1:=by
  intro z f hf;cases z with
  |none=>exact Nat.le_succ_of_le hf
  |some y =>
   unfold one;dsimp only;split<;>omega
 exact⟨key hx _ h.1,key px _ h.2⟩
structure Left (c:Ch)(j:Nat)(st st':St):Prop where
 CO:st'.sl (.mine j)=st.sl (.mine j)
 Bi:st'.sl (.chain j)=st.sl (.chain j)
 obj:∀ s,st'.ol s (.aU j)=st.ol s (.aU j)
 oL:∀ s,st.own s = .mine j→st'.lv s=st.lv s∧st'.dh s=st.dh s∧st'.nx s=st.nx s
 lk:∀ s o,st.loc s o = .aU j→st'.lk s o=st.lk s o
 fst:∀ s,st.own s = .mine j∨st.hold=some j∧st.own s = .shelf→(∃ l,st'.ol s .first=l++st.ol s .first)∧(st.dh s=false→(st'.ol s .first).length=c.O→(st.ol s .first).length=c.O)
 hd:∀ x,st.ht x≤st'.ht x∧(st'.ht x=st.ht x→st'.sl (.head x)=st.sl (.head x)∧∀ s,st'.ol s (.head x)=st.ol s (.head x))
 pt:∀ x,st.pt x≤st'.pt x∧(st'.pt x=st.pt x→st'.sl (.part x)=st.sl (.part x))
 hdk:st.sl (.head j)=[]→st'.sl (.head j)=[]
 lock:st.hold=some j→st'.hold=some j∧st'.cut=st.cut∧st'.held=st.held∧st'.sl .shelf=st.sl .shelf∧∀ s,st.own s = .shelf→st'.nx s=st.nx s∧st'.lv s=st.lv s∧st'.dh s=st.dh s
 hl:st'.hold=some j→st.hold=some j
 tk:st'.tk j=st.tk j
theorem bB.left {j k:Nat}{hx px:Option Nat}{t:Option Tk}(hj:j≠k)(h:bB c j hx px st st')(hh:st'.ht=st.ht)(hp:st'.pt=st.pt):Left c j st (tick st' hx px k t):=by
 refine { h with hd := ?_,pt := ?_,tk := ?_ }
 ·intro x
  show st.ht x≤one hx st'.ht x∧(one hx st'.ht x=st.ht x→_);rw[hh];by_cases e:hx=some x
  ·rw[e,PT]
   exact⟨by omega,fun e2=>by omega⟩
  ·rw[Qo e]
   exact⟨Zxt _,fun _=>h.hd x e⟩
 ·intro x
  show st.pt x≤one px st'.pt x∧(one px st'.pt x=st.pt x→_);rw[hp];by_cases e:px=some x
  ·rw[e,PT]
   exact⟨by omega,fun e2=>by omega⟩
  ·rw[Qo e]
   exact⟨Zxt _,fun _=>h.pt x e⟩
 ·show upd st'.tk k t j=_
  rw[upd_ne hj];exact h.tk
def make (st:St)(k s:Nat)(l:List Nat):St:={ st with
 ol:=fun x y=>if x=s∧y = .aU k then l else st.ol x y
 loc:=fun x o=>if x=s∧o∈l then .aU k else st.loc x o
 sl:=fun y=>if y = .mine k then [s] else st.sl y
 own:=fun x=>if x=s then .mine k else st.own x }
theorem ZnG {k s:Nat}{l:List Nat}(G:dH c mn cp st)(h:st.own s = .dead)(hs:s<c.S)(hk:k<c.C)(hl:∀ o,o∈l↔o<c.O)(hd:l.Nodup)(hm:st.sl (.mine k)=[]):dH c mn cp (make st k s l):=by
 have hn:∀ o,st.loc s o = .none:=by
  intro o;by_cases e:st.loc s o = .none
  ·exact e
  ·have h1:=G.ob s o e
   exact(G.live s o h1.1 h1.2).2 h
 have bA:∀ x z,z≠.aU k→(make st k s l).ol x z=st.ol x z:=by
  intro x z hz;unfold make;dsimp only;rw[if_neg (fun e=>hz e.2)]
 have bC:∀ y,y≠.mine k→(make st k s l).sl y=st.sl y:=by
  intro y hy;unfold make;dsimp only;rw[if_neg hy]
 have pQ:∀ y z,z≠.mine k→(make st k s l).own y=z→st.own y=z∧y≠s:=by
  intro y z hz e;unfold make at e;dsimp only at e;split at e
  ·exact absurd e.symm hz
  ·rename_i hy
   exact⟨e,hy⟩
 have fJ:st.ol s (.aU k)=[]:=by
  cases hc:st.ol s (.aU k) with
  |nil=>rfl
  |cons a r =>
   have:=(G.om s (.aU k) rfl a).1 (by rw[hc];simp);rw[hn]at this;cases this
 have uS:∀ y,st.cut=some y→(make st k s l).own y = .shelf∧st.dh y=true:=by
  intro y hy;obtain⟨h1,h2⟩:=G.cuts y hy;refine⟨(if_neg ?_).trans h1,h2⟩;rintro rfl;rw[h]at h1;cases h1
 refine { G with om := ?_,od := ?_,ob := ?_,oh := ?_,sm := ?_,sd := ?_,sb := ?_,s1 := ?_,sk := ?_,live := ?_,dead := ?_,making := ?_,full := ?_,shelf := ?_,hpc := ?_,l1 := ?_,l2 := ?_,cP := ?_,cS := ?_,cap := ?_,rest := ?_,cuts:=uS }
 ·intro x z hz o
  unfold make;dsimp only;by_cases e:x=s
  ·subst e
   by_cases e2:z = .aU k
   ·subst e2
    simp only[true_and,and_self,if_true];by_cases e3:o∈l
    ·simp[e3]
    ·simp only[e3,if_false,false_iff,hn]
     exact fun e=>by cases e
   ·simp only[e2,and_false,if_false,true_and]
    rw[G.om x z hz,hn];by_cases e3:o∈l
    ·simp only[e3,if_true]
     constructor
     ·intro e
      subst e;cases hz
     ·intro e
      exact absurd e.symm e2
    ·simp only[e3,if_false]
  ·simp only[e,false_and,if_false]
   exact G.om x z hz o
 ·intro x z hz
  unfold make;dsimp only;split
  ·exact hd
  ·exact G.od x z hz
 ·intro x o
  unfold make;dsimp only;split
  ·rename_i e
   obtain⟨rfl,e2⟩:=e;exact fun _=>⟨hs,(hl o).1 e2⟩
  ·exact G.ob x o
 ·intro x o j
  unfold make;dsimp only;split
  ·intro e
   cases e
  ·intro e
   have:=G.oh x o j e;rw[if_neg]
   ·exact this
   ·rintro rfl
    rw[h]at this;cases this
 ·intro y hy x
  unfold make;dsimp only;by_cases e:y = .mine k
  ·subst e
   rw[if_pos rfl,ZxE];by_cases e2:x=s
   ·simp[e2]
   ·simp only[e2,if_false,false_iff]
    rw[← G.sm _ rfl,hm];simp
  ·rw[if_neg e]
   by_cases e3:x=s
   ·subst e3
    rw[if_pos rfl,G.sm y hy,h];constructor
    ·intro e
     subst e;cases hy
    ·intro e2
     exact absurd e2.symm e
   ·rw[if_neg e3]
    exact G.sm y hy x
 ·intro y hy
  unfold make;dsimp only;split
  ·simp
  ·exact G.sd y hy
 ·intro x
  unfold make;dsimp only;split
  ·rename_i e
   subst e;exact fun _=>hs
  ·exact G.sb x
 ·intro x
  refine⟨?_,?_⟩
  ·rw[bC _ (fun e=>by cases e)]
   exact(G.s1 x).1
  ·unfold make
   dsimp only;split
   ·simp
   ·exact(G.s1 x).2
 ·intro x y
  unfold make;dsimp only;split
  ·rintro(e|e|e|e)<;>cases e
   exact hk
  ·exact G.sk x y
 ·intro x o hx ho
  unfold make;dsimp only;by_cases e:x=s
  ·subst e
   simp[(hl o).2 ho]
  ·simp only[e,false_and,if_false]
   exact G.live x o hx ho
 ·intro y hy
  exact G.dead y (pQ y _ (fun e=>by cases e) hy).1
 ·intro y x hy ic o ho
  unfold make at hy ⊢;dsimp only at hy ⊢;by_cases e:y=s
  ·rw[if_pos e]at hy
   cases hy;rw[if_pos ⟨e,(hl o).2 ho⟩]
  ·rw[if_neg e]at hy
   rw[if_neg (fun e2=>e e2.1)];exact G.making y x hy ic o ho
 ·intro y hy
  rw[bA y _ (fun e=>by cases e)];exact G.full y (pQ y _ (fun e=>by cases e) hy).1
 ·intro y hy
  rw[bA y _ (fun e=>by cases e)];exact G.shelf y (pQ y _ (fun e=>by cases e) hy).1
 ·intro y x hy
  have:st.own y = .head x∨st.own y = .part x∨st.own y = .chain x:=by
   rcases hy with hy|hy|hy
   ·exact .inl (pQ y _ (fun e=>by cases e) hy).1
   ·exact .inr (.inl (pQ y _ (fun e=>by cases e) hy).1)
   ·exact .inr (.inr (pQ y _ (fun e=>by cases e) hy).1)
  exact G.hpc y x this
 ·intro x
  rw[bA x _ (fun e=>by cases e)];exact G.l1 x
 ·intro x y
  rw[bA x _ (fun e=>by cases e)];exact G.l2 x y
 ·intro x
  rw[bC _ (fun e=>by cases e),bC _ (fun e=>by cases e)];exact G.cP x
 ·rw[bC _ (fun e=>by cases e)]
  exact G.cS
 ·intro x
  rw[bC _ (fun e=>by cases e)];exact G.cap x
 ·intro e
  obtain⟨h1,h2,h3⟩:=G.rest e;refine⟨h1,?_,?_⟩
  ·rw[bC _ (fun e=>by cases e)]
   exact h2
  ·unfold lT
   rw[bC _ (fun e=>by cases e)];simp only[bA _ .first (fun e=>by cases e)];exact h3
theorem Zd {j k s:Nat}{l:List Nat}{hx px:Option Nat}(hj:j≠k):bB c j hx px st (make st k s l):=by
 have bA:∀ x z,z≠.aU k→(make st k s l).ol x z=st.ol x z:=by
  intro x z hz;unfold make;dsimp only;rw[if_neg (fun e=>hz e.2)]
 have bC:∀ y,y≠.mine k→(make st k s l).sl y=st.sl y:=by
  intro y hy;unfold make;dsimp only;rw[if_neg hy]
 refine { (bB.refl:bB c j hx px st st) with CO := ?_,Bi := ?_,obj := ?_,fst := ?_,hd := ?_,pt := ?_,hdk := ?_,lock := ?_ }
 ·exact bC _ (fun e=>by cases e;exact hj rfl)
 ·exact bC _ (fun e=>by cases e)
 ·exact fun x=>bA x _ (fun e=>by cases e;exact hj rfl)
 ·intro x _
  rw[bA x _ (fun e=>by cases e)];exact⟨⟨[],rfl⟩,fun _ h=>h⟩
 ·exact fun x _=>⟨bC _ (fun e=>by cases e),fun y=>bA y _ (fun e=>by cases e)⟩
 ·exact fun x _=>bC _ (fun e=>by cases e)
 ·intro e
  rw[bC _ (fun e=>by cases e)];exact e
 ·exact fun e=>⟨e,rfl,rfl,bC _ (fun e=>by cases e),fun _ _=>⟨rfl,rfl,rfl⟩⟩
def kill (st:St)(k s:Nat):St:={ st with
 ol:=fun x y=>if x=s∧y = .aU k then [] else st.ol x y
 loc:=fun x o=>if x=s then .none else st.loc x o
 sl:=fun y=>if y = .mine k then [] else st.sl y
 own:=fun x=>if x=s then .dead else st.own x }
theorem Znw {k s:Nat}(G:dH c mn cp st)(h:st.sl (.mine k)=[s])(hv:st.lv s=false):dH c mn cp (kill st k s):=by
 have dS:st.own s = .mine k:=(G.sm _ rfl s).1 (by rw[h];simp);have eG:∀ o,st.loc s o = .aU k∨st.loc s o = .none:=by
  intro o;by_cases e:st.loc s o = .none
  ·exact .inr e
  ·exact .inl (G.making s k dS hv o (G.ob s o e).2)
 have bA:∀ x z,z≠.aU k→(kill st k s).ol x z=st.ol x z:=by
  intro x z hz;unfold kill;dsimp only;rw[if_neg (fun e=>hz e.2)]
 have bC:∀ y,y≠.mine k→(kill st k s).sl y=st.sl y:=by
  intro y hy;unfold kill;dsimp only;rw[if_neg hy]
 have pQ:∀ y z,z≠.dead→(kill st k s).own y=z→st.own y=z∧y≠s:=by
  intro y z hz e;unfold kill at e;dsimp only at e;split at e
  ·exact absurd e.symm hz
  ·rename_i hy
   exact⟨e,hy⟩
 have uR:∀ y,st.cut=some y→(kill st k s).own y = .shelf∧st.dh y=true:=by
  intro y hy;obtain⟨h1,h2⟩:=G.cuts y hy;refine⟨(if_neg ?_).trans h1,h2⟩;rintro rfl;rw[dS]at h1;cases h1
 refine { G with om := ?_,od := ?_,ob := ?_,oh := ?_,sm := ?_,sd := ?_,sb := ?_,s1 := ?_,sk := ?_,live := ?_,dead := ?_,making := ?_,full := ?_,shelf := ?_,hpc := ?_,l1 := ?_,l2 := ?_,cP := ?_,cS := ?_,cap := ?_,rest := ?_,cuts:=uR }
 ·intro x z hz o
  unfold kill;dsimp only;by_cases e:x=s
  ·subst e
   rw[if_pos rfl];by_cases e2:z = .aU k
   ·subst e2
    simp
   ·simp only[e2,and_false,if_false]
    rw[G.om x z hz];constructor
    ·intro e
     rcases eG o with e3|e3
     ·rw[e3]at e
      exact absurd e.symm e2
     ·rw[e3]at e
      subst e;cases hz
    ·intro e
     subst e;cases hz
  ·simp only[e,false_and,if_false]
   exact G.om x z hz o
 ·intro x z hz
  unfold kill;dsimp only;split
  ·simp
  ·exact G.od x z hz
 ·intro x o
  unfold kill;dsimp only;split
  ·exact fun e=>absurd rfl e
  ·exact G.ob x o
 ·intro x o j
  unfold kill;dsimp only;split
  ·intro e
   cases e
  ·exact G.oh x o j
 ·intro y hy x
  unfold kill;dsimp only;by_cases e:y = .mine k
  ·subst e
   rw[if_pos rfl];by_cases e2:x=s
   ·simp[e2]
   ·simp only[e2,if_false]
    rw[← G.sm _ rfl,h];simp[e2]
  ·rw[if_neg e]
   by_cases e3:x=s
   ·subst e3
    rw[if_pos rfl,G.sm y hy,dS];constructor
    ·intro e2
     exact absurd e2.symm e
    ·intro e2
     subst e2;cases hy
   ·rw[if_neg e3]
    exact G.sm y hy x
 ·intro y hy
  unfold kill;dsimp only;split
  ·simp
  ·exact G.sd y hy
 ·intro x
  unfold kill;dsimp only;split
  ·exact fun e=>absurd rfl e
  ·exact G.sb x
 ·intro x
  refine⟨?_,?_⟩
  ·rw[bC _ (fun e=>by cases e)]
   exact(G.s1 x).1
  ·unfold kill
   dsimp only;split
   ·simp
   ·exact(G.s1 x).2
 ·intro x y
  unfold kill;dsimp only;split
  ·rintro(e|e|e|e)<;>cases e
  ·exact G.sk x y
 ·intro x o hx ho
  unfold kill;dsimp only;split
  ·simp
  ·exact G.live x o hx ho
 ·intro y hy
  unfold kill at hy;dsimp only at hy;split at hy
  ·rename_i e
   rw[show(kill st k s).lv y=st.lv y from rfl,e];exact hv
  ·exact G.dead y hy
 ·intro y x hy ic o ho
  obtain⟨h1,h2⟩:=pQ y _ (fun e=>by cases e) hy;have:=G.making y x h1 ic o ho;unfold kill;dsimp only;rw[if_neg h2];exact this
 ·intro y hy
  rw[bA y _ (fun e=>by cases e)];exact G.full y (pQ y _ (fun e=>by cases e) hy).1
 ·intro y hy
  rw[bA y _ (fun e=>by cases e)];exact G.shelf y (pQ y _ (fun e=>by cases e) hy).1
 ·intro y x hy
  have:st.own y = .head x∨st.own y = .part x∨st.own y = .chain x:=by
   rcases hy with hy|hy|hy
   ·exact .inl (pQ y _ (fun e=>by cases e) hy).1
   ·exact .inr (.inl (pQ y _ (fun e=>by cases e) hy).1)
   ·exact .inr (.inr (pQ y _ (fun e=>by cases e) hy).1)
  exact G.hpc y x this
 ·intro x
  rw[bA x _ (fun e=>by cases e)];exact G.l1 x
 ·intro x y
  rw[bA x _ (fun e=>by cases e)];exact G.l2 x y
 ·intro x
  rw[bC _ (fun e=>by cases e),bC _ (fun e=>by cases e)];exact G.cP x
 ·rw[bC _ (fun e=>by cases e)]
  exact G.cS
 ·intro x
  rw[bC _ (fun e=>by cases e)];exact G.cap x
 ·intro e
  obtain⟨h1,h2,h3⟩:=G.rest e;refine⟨h1,?_,?_⟩
  ·rw[bC _ (fun e=>by cases e)]
   exact h2
  ·unfold lT
   rw[bC _ (fun e=>by cases e)];simp only[bA _ .first (fun e=>by cases e)];exact h3
theorem Tc {j k s:Nat}{hx px:Option Nat}(hj:j≠k):bB c j hx px st (kill st k s):=by
 have bA:∀ x z,z≠.aU k→(kill st k s).ol x z=st.ol x z:=by
  intro x z hz;unfold kill;dsimp only;rw[if_neg (fun e=>hz e.2)]
 have bC:∀ y,y≠.mine k→(kill st k s).sl y=st.sl y:=by
  intro y hy;unfold kill;dsimp only;rw[if_neg hy]
 refine { (bB.refl:bB c j hx px st st) with CO := ?_,Bi := ?_,obj := ?_,fst := ?_,hd := ?_,pt := ?_,hdk := ?_,lock := ?_ }
 ·exact bC _ (fun e=>by cases e;exact hj rfl)
 ·exact bC _ (fun e=>by cases e)
 ·exact fun x=>bA x _ (fun e=>by cases e;exact hj rfl)
 ·intro x _
  rw[bA x _ (fun e=>by cases e)];exact⟨⟨[],rfl⟩,fun _ h=>h⟩
 ·exact fun x _=>⟨bC _ (fun e=>by cases e),fun y=>bA y _ (fun e=>by cases e)⟩
 ·exact fun x _=>bC _ (fun e=>by cases e)
 ·intro e
  rw[bC _ (fun e=>by cases e)];exact e
 ·exact fun e=>⟨e,rfl,rfl,bC _ (fun e=>by cases e),fun _ _=>⟨rfl,rfl,rfl⟩⟩
end
end Cv
end Go.Proofs.YtfcpdlbkmkhhcaaGreatDoor
