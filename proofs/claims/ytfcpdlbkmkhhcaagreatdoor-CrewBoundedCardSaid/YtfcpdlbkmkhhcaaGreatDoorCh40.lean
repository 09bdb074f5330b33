/-
  Texts of this claim, joined. No condition.
-/
import Derived.Test.YtfcpdlbkmkhhcaaGreatDoorCh1
import Derived.Test.YtfcpdlbkmkhhcaaGreatDoorCh39
import Derived.Test.YtfcpdlbkmkhhcaaGreatDoorCh23
import Derived.Test.YtfcpdlbkmkhhcaaGreatDoorCh36
import Derived.Test.YtfcpdlbkmkhhcaaGreatDoorCh37
import Derived.Test.YtfcpdlbkmkhhcaaGreatDoorCh38
namespace Go.Proofs.YtfcpdlbkmkhhcaaGreatDoor
set_option maxRecDepth 100000
set_option maxHeartbeats 40000000
namespace Cv
open See Cw
section
variable {c:Ch}{mn cp:Nat}{st st1 st':St}{g g':List Nat}{k:Nat}{t t':Tk}{aj:List Int}{r r':Rn}
structure Quiet (c:Ch)(mn cp:Nat)(st:St)(g:List Nat):Prop where
 Z:kP c mn cp st g
 no:∀ k,st.tk k=none
theorem quiet_of (I:RI c mn cp r st)(h:∀ k,k<c.C→r.tk k=none):Quiet c mn cp st r.g:=⟨I.Z,fun k=>by
 cases ht:st.tk k with
 |none=>rfl
 |some t =>
  have hk:=(I.Z.I.loc k t ht).1;rw[I.tk,h k hk]at ht;cases ht⟩
theorem Quiet.hold (Q:Quiet c mn cp st g):st.hold=none:=by
 cases h:st.hold with
 |none=>rfl
 |some k =>
  obtain⟨t,e,-⟩:=Q.Z.I.gL k h;rw[Q.no k]at e;cases e
theorem Quiet.aU (Q:Quiet c mn cp st g){s o k:Nat}:st.loc s o≠.aU k:=fun h=>by
 have h1:=(Q.Z.I.G.om s (.aU k) rfl o).2 h;have h2:=(Q.Z.I.idle k (Q.no k)).ob s;rw[h2]at h1;split at h1<;>cases h1
theorem Quiet.mine (Q:Quiet c mn cp st g){s k:Nat}:st.own s≠.mine k:=fun h=>by
 have h1:=(Q.Z.I.G.sm (.mine k) rfl s).2 h;rw[(Q.Z.I.idle k (Q.no k)).ms]at h1;cases h1
theorem Quiet.chain (Q:Quiet c mn cp st g){s k:Nat}:st.own s≠.chain k:=fun h=>by
 have h1:=(Q.Z.I.G.sm (.chain k) rfl s).2 h;rw[(Q.Z.I.idle k (Q.no k)).ch]at h1;cases h1
theorem Quiet.live (Q:Quiet c mn cp st g){s:Nat}:st.lv s=true↔st.own s≠.dead:=by
 have G:=Q.Z.I.G;constructor
 ·intro h e
  rw[G.dead s e]at h;cases h
 ·intro h
  cases ho:st.own s with
  |dead=>exact absurd ho h
  |full=>exact(G.full s ho).1
  |shelf=>exact(G.shelf s ho).1
  |head x=>exact(G.hpc s x (.inl ho)).1
  |part x=>exact(G.hpc s x (.inr (.inl ho))).1
  |chain x=>exact absurd ho Q.chain
  |mine x=>exact absurd ho Q.mine
def uF (st:St)(s:Nat):List Nat:=(st.ol s .first).map (16 * s+·)
def qJ (st:St)(k:Nat):List Nat:=match st.sl (.head k) with
 |[]=>[]
 |s::_=>(st.ol s (.head k)).map (16 * s+·)
def Cj (c:Ch)(st:St):List Nat:=(List.range c.S).flatMap (uF st)++(List.range c.C).flatMap (qJ st)
theorem Vo {l:List Nat}{s s' o:Nat}(ho:o<16)(hb:∀ x∈l,x<16)(hn:l.Nodup):(l.map (16 * s+·)).count (16 * s'+o)=if s=s'∧o∈l then 1 else 0:=by
 by_cases h:s=s'∧o∈l
 ·rw[if_pos h]
  obtain⟨rfl,h⟩:=h;have jT:(l.map (16 * s+·)).Nodup:=by
   unfold List.Nodup;rw[List.pairwise_map];exact hn.imp fun h e=>h (by omega)
  rw[jT.count,if_pos (List.mem_map.2 ⟨o,h,rfl⟩)]
 ·rw[if_neg h]
  refine List.count_eq_zero.2 fun h2 => ?_;obtain⟨x,hx,e⟩:=List.mem_map.1 h2;have:=hb x hx;have e2:16 * s+x=16 * s'+o:=e;have hs:s=s':=by omega
  have Xa:x=o:=by omega
  exact h ⟨hs,Xa ▸ hx⟩
theorem Vr (Q:Quiet c mn cp st g){s o:Nat}(hs:s<c.S)(ho:o<c.O):(Cj c st).count (16 * s+o)=(if st.lv s=true∧st.loc s o≠.out then 1 else 0)∧(st.loc s o = .out→st.lv s=true):=by
 classical
 have Z:=Q.Z;have G:=Z.I.G;have hO:=Z.O;have hb:∀ (s:Nat) (x:Ct),x.listed=true→∀ y∈st.ol s x,y<16:=fun s x hx y hy=>by
  have:=(ru G hx hy).2;omega
 have h1:((List.range c.S).flatMap (uF st)).count (16 * s+o)=if st.loc s o = .first then 1 else 0:=by
  rw[QV,QX (k:=s) (fun j hj => ?_),if_pos hs]
  ·show(uF st s).count _=_
   unfold uF;rw[Vo (by omega) (hb s .first rfl) (G.od s .first rfl)];simp only[true_and,G.om s .first rfl o]
  ·show(uF st j).count _=_
   unfold uF;rw[Vo (by omega) (hb j .first rfl) (G.od j .first rfl),if_neg (fun e=>hj e.1)]
 have h2:((List.range c.C).flatMap (qJ st)).count (16 * s+o)=if ∃ x,st.loc s o = .head x then 1 else 0:=by
  have ja:∀ x,(qJ st x).count (16 * s+o)=if st.loc s o = .head x then 1 else 0:=fun x=>by
   unfold qJ;rcases Jw G x with hn|⟨s',tL⟩
   ·rw[hn,if_neg (fun e => ?_)]
    ·rfl
    ·have:=(G.sm (.head x) rfl s).2 (G.oh s o x e)
     rw[hn]at this;cases this
   ·rw[tL]
    show((st.ol s' (.head x)).map (16 * s'+·)).count _=_;rw[Vo (by omega) (hb s' (.head x) rfl) (G.od s' (.head x) rfl)];by_cases e:st.loc s o = .head x
    ·have h3:=(G.sm (.head x) rfl s).2 (G.oh s o x e)
     rw[tL,ZxE]at h3;rw[if_pos e,if_pos ⟨h3.symm,by rw[← h3];exact(G.om s _ rfl o).2 e⟩]
    ·rw[if_neg e,if_neg]
     rintro⟨rfl,h4⟩;exact e ((G.om _ _ rfl o).1 h4)
  rw[QV];by_cases he:∃ x,st.loc s o = .head x
  ·obtain⟨x,hx⟩:=he
   have W9:=G.sk s x (.inl (G.oh s o x hx));rw[if_pos ⟨x,hx⟩,QX (k:=x) (fun j hj=>by
    show(qJ st j).count _=_;rw[ja j,if_neg];intro e;rw[hx]at e;cases e;exact hj rfl),if_pos W9]
   show(qJ st x).count _=_;rw[ja x,if_pos hx]
  ·rw[if_neg he]
   exact Gj fun j _=>by
    show(qJ st j).count _=_;rw[ja j,if_neg (fun e=>he ⟨j,e⟩)]
 have nO:=G.live s o hs ho;unfold Cj;rw[ZxO,h1,h2];cases hl:st.loc s o with
 |none =>
  have hd:=nO.1 hl;have:st.lv s=false:=G.dead s hd;rw[this];refine⟨?_,fun e=>by cases e⟩;simp
 |first =>
  have:st.lv s=true:=Q.live.2 fun e=>by
   rw[nO.2 e]at hl;cases hl
  rw[this];refine⟨?_,fun e=>by cases e⟩;simp
 |head x =>
  have:st.lv s=true:=Q.live.2 fun e=>by
   rw[nO.2 e]at hl;cases hl
  rw[this];refine⟨?_,fun e=>by cases e⟩;simp
 |aU x=>exact absurd hl Q.aU
 |out =>
  have:st.lv s=true:=Q.live.2 fun e=>by
   rw[nO.2 e]at hl;cases hl
  rw[this];refine⟨?_,fun _=>rfl⟩;simp
def uG (c:Ch)(st:St):List Nat:=(List.range c.C).flatMap (fun k=>st.sl (.head k)++st.sl (.part k))++st.sl .shelf
theorem JS (Q:Quiet c mn cp st g)(s:Nat):(uG c st).count s≤1∧((uG c st).count s=1→st.lv s=true):=by
 classical
 have Z:=Q.Z;have G:=Z.I.G;have hc:∀ x:Own,x.listed=true→(st.sl x).count s=if st.own s=x then 1 else 0:=fun x hx=>by
  rw[(G.sd x hx).count];simp only[G.sm x hx]
 have h1:((List.range c.C).flatMap (fun k=>st.sl (.head k)++st.sl (.part k))).count s=if ∃ x,st.own s = .head x∨st.own s = .part x then 1 else 0:=by
  rw[QV];have hk:∀ x,(st.sl (.head x)++st.sl (.part x)).count s=if st.own s = .head x∨st.own s = .part x then 1 else 0:=fun x=>by
   rw[ZxO,hc _ rfl,hc _ rfl];by_cases e:st.own s = .head x
   ·have e2:¬st.own s = .part x:=fun e2=>by
     rw[e]at e2;cases e2
    simp[e]
   ·by_cases e2:st.own s = .part x
    ·simp[e2]
    ·simp[e,e2]
  by_cases he:∃ x,st.own s = .head x∨st.own s = .part x
  ·obtain⟨x,hx⟩:=he
   have W9:=G.sk s x (hx.elim .inl fun h=>.inr (.inl h));rw[if_pos ⟨x,hx⟩,QX (k:=x) (fun j hj=>by
    show(st.sl (.head j)++st.sl (.part j)).count s=0;rw[hk j,if_neg];intro e;rcases hx with hx|hx<;>rcases e with e|e<;>rw[hx]at e<;>cases e<;>exact hj rfl),if_pos W9]
   show(st.sl (.head x)++st.sl (.part x)).count s=1;rw[hk x,if_pos hx]
  ·rw[if_neg he]
   exact Gj fun j _=>by
    show(st.sl (.head j)++st.sl (.part j)).count s=0;rw[hk j,if_neg (fun e=>he ⟨j,e⟩)]
 unfold uG;rw[ZxO,h1,hc _ rfl];by_cases he:∃ x,st.own s = .head x∨st.own s = .part x
 ·obtain⟨x,hx⟩:=he
  have hns:¬st.own s = .shelf:=fun e=>by rcases hx with hx|hx<;>rw[hx]at e<;>cases e
  rw[if_pos ⟨x,hx⟩,if_neg hns];exact⟨Zxt _,fun _=>(G.hpc s x (hx.elim .inl fun h=>.inr (.inl h))).1⟩
 ·rw[if_neg he]
  by_cases e:st.own s = .shelf
  ·rw[if_pos e]
   exact⟨Zxt _,fun _=>(G.shelf s e).1⟩
  ·rw[if_neg e]
   exact⟨by omega,fun h=>by cases h⟩
def MJ (c:Ch)(st:St):Nat:=gY (fun k=>(st.sl (.head k)).length+(st.sl (.part k)).length) c.C
theorem Zw5 (Q:Quiet c mn cp st g){E:List Nat}(hn:E.Nodup)(hE:∀ s∈E,st.lv s=true∧∀ o,o<c.O→st.loc s o≠.out):E.length≤MJ c st+mn:=by
 have Z:=Q.Z;have G:=Z.I.G;have hO:=Z.O;obtain⟨hcut,-,J3⟩:=G.rest Q.hold;have key:∀ s∈E,s∈(List.range c.C).flatMap (fun k=>st.sl (.head k)++st.sl (.part k))++(st.sl .shelf).filter fun s=>(st.ol s .first).length==c.O && !st.dh s:=by
  intro s hs;obtain⟨h1,h2⟩:=hE s hs;have hd:=Q.live.1 h1;have tN:=G.sb s hd;have hall:∀ o,o<c.O→(∀ x,st.own s≠.head x)→st.loc s o = .first:=fun o ho hh=>by
   cases hl:st.loc s o with
   |none=>exact absurd ((G.live s o tN ho).1 hl) hd
   |first=>rfl
   |head x=>exact absurd (G.oh s o x hl) (hh x)
   |aU x=>exact absurd hl Q.aU
   |out=>exact absurd hl (h2 o ho)
  rw[ZxQ];cases ho:st.own s with
  |dead=>exact absurd ho hd
  |full =>
   have h3:=hall 0 (by omega) (fun x e=>by rw[ho]at e;cases e);have h4:=(G.om s .first rfl 0).2 h3;rw[(G.full s ho).2.2]at h4;cases h4
  |shelf =>
   refine .inr (List.mem_filter.2 ⟨(G.sm .shelf rfl s).2 ho,?_⟩);have bT:=((G.shelf s ho).2 (by rw[hcut];intro e;cases e)).1;have hlen:(st.ol s .first).length=c.O:=by
    have h5:=Qv G s;have h6:=Jv (l:=List.range c.O) (m:=st.ol s .first) List.nodup_range fun o xD=>(G.om s .first rfl o).2 (hall o (List.mem_range.1 xD) (fun x e=>by rw[ho]at e;cases e));rw[List.length_range]at h6;omega
   rw[hlen,bT];simp
  |head x=>exact .inl (Ql.2 ⟨x,G.sk s x (.inl ho),List.mem_append_left _ ((G.sm _ rfl s).2 ho)⟩)
  |part x=>exact .inl (Ql.2 ⟨x,G.sk s x (.inr (.inl ho)),ZxU _ ((G.sm _ rfl s).2 ho)⟩)
  |chain x=>exact absurd ho Q.chain
  |mine x=>exact absurd ho Q.mine
 have h:=Jv hn key;rw[Zxw,Qk]at h;have e1:gY (fun k=>(st.sl (.head k)++st.sl (.part k)).length) c.C=MJ c st:=yc fun j _=>Zxw;rw[e1]at h;have e2:((st.sl .shelf).filter fun s=>(st.ol s .first).length==c.O && !st.dh s).length=lT c st:=(List.countP_eq_length_filter).symm;rw[e2]at h;omega
theorem ra0:RA c aj (r0 c) st0 where
 job:=fun _ _ h=>by cases h
 own:=fun _ _=>⟨(fun e=>by cases e),(fun e=>by cases e),fun e=>by cases e⟩
 none:=rfl
 cnt:=by
  show 0+runs c (r0 c)=0;unfold runs;rw[Gj (f:=fun k=>if ((r0 c).tk k).isSome then 1 else 0) (fun _ _=>rfl)]
 nx:=ZxV _
end
end Cv
namespace Cw
open Go Mem See
open Go.RowKit
section
variable {W w:World}{m:List (Nat×Obj)}{bc b0 b1 bt:Nat}{c:Ch}{mn cp cnt n:Nat}{g g':List Nat}{tk:Nat→Option Tk}{t t':Tk}{k:Nat}{st:Cv.St}
theorem Zne (h:bG c mn g t=some (t',g')):70≤t.pc∧t.pc≤103:=by
 unfold bG at h;split at h;all_goals first|omega|cases h
theorem Zpn (h:bL c mn cp t g)(hs:Cv.iO c mn cp g t=some (t',g')):∃ q,q<4∧(∀ j,j<q→Uk (FV j) c mn cp t g)∧cZ (FV q) c mn cp t g t' g':=by
 by_cases h1:t.pc<20
 ·rw[Cv.sU h1]at hs
  exact⟨0,by omega,fun j hj=>by omega,fast_ok h hs⟩
 ·by_cases h2:t.pc<50
  ·rw[Cv.jV (by omega) h2]at hs
   refine⟨1,by omega,fun j hj => ?_,Zqj h hs⟩;obtain rfl:j=0:=(by omega);exact JI h (JH TZ (by omega) (by omega))
  ·by_cases h3:t.pc<69
   ·rw[Cv.kZ (by omega) h3]at hs
    refine⟨2,by omega,fun j hj => ?_,Zp5 h hs⟩;rcases(show j=0∨j=1 by omega) with rfl|rfl
    ·exact JI h (JH TZ (by omega) (by omega))
    ·exact JI h (JH Z6 (by omega) (by omega))
   ·rw[Cv.iP (by omega)]at hs
    have hd:=Zne hs;refine⟨3,by omega,fun j hj => ?_,ZoN h hs⟩;rcases(show j=0∨j=1∨j=2 by omega) with rfl|rfl|rfl
    ·exact JI h (JH TZ (by omega) (by omega))
    ·exact JI h (JH Z6 (by omega) (by omega))
    ·exact JI h (JH Zp6 (by omega) (by omega))
theorem EO (Z:Cv.kP c mn cp st g):g.length=c.words∧1≤g.length∧g.length≤4096:=by
 have h:=Z.E.len;have hC:=Z.C;have hS:=Z.S;have hO:=Z.O;have hm:c.S * c.O≤32 * 16:=Nat.mul_le_mul hS.2 hO.2;refine⟨h,?_,?_⟩ <;>
 ·rw[h]
  unfold Ch.words;omega
theorem Ztq (Z:Cv.kP c mn cp st g)(aV:c.key<18446744073709551616)(ht:st.tk k=some t)(hw:t.want=0):bL c mn cp t g:=by
 obtain⟨hk,hL⟩:=Z.I.loc k t ht;have hC:=Z.C;obtain⟨-,h1,h2⟩:=EO Z;exact⟨⟨hC.1,by omega⟩,Z.S,Z.O,Z.mn,Z.cp,aV,by rw[hL.aB];exact hk,⟨h1,h2⟩,Z.W,hL.fin,hw⟩
theorem MH (Z:Cv.kP c mn cp st g)(aV:c.key<18446744073709551616):sI c (mn:Int) (cp:Int):=by
 have hC:=Z.C;have hS:=Z.S;have hO:=Z.O;have h1:=Z.mn;have h2:=Z.cp;refine⟨?_,aV⟩;unfold bI.Ok;omega
def jF (W:World)(bc b0 b1 bt:Nat)(c:Ch)(mn cp:Nat)(g:List Nat)(tk:Nat→Option Tk)(cnt n:Nat)(m:List (Nat×Obj))(w:World):Prop :=
 ∃ es ck,VM es ck n (oo tk c.C)∧Own W (aY bc b0 bt c mn cp::(bt,.map es ck)::mB b0 b1 g.length cnt::wB b1 g::m) w
theorem Yg (Z:Cv.kP c mn cp st g)(ht:st.tk k=some t)(hm:Cv.makes t=true):0≤t.aA∧t.aA<32:=by
 have hS:=Z.S;obtain⟨-,hL⟩:=Z.I.loc k t ht;have hA:=hL.at_;have key:Cv.eu c t→0≤t.aA∧t.aA<32:=fun h=>by
  unfold Cv.eu at h;omega
 unfold Cv.makes at hm;simp only[Bool.or_eq_true,Zxu,beq_iff_eq]at hm;unfold Cv.At at hA;rcases hm with(⟨h0,h1|h1⟩|h1)|h1
 ·rw[h1]at hA
  exact key (hA.2 h0).2.2.1
 ·rw[h1]at hA
  exact key hA.2.2.1
 ·rw[h1]at hA
  obtain⟨l,ch,-,h2,-⟩:=hA;exact key h2
 ·rw[h1]at hA
  obtain⟨l,ch,-,h2,-⟩:=hA;exact key h2
theorem Lp (h:jF W bc b0 b1 bt c mn cp g tk cnt n m w)(hC:c.C≤5)(hk:k<c.C) :
 Calls Tryz.prog 16 #[.pointer (some ⟨bc,0,Option.none⟩),.int .i64 (k:Int)] w fun e w'=>e = .returned (.tuple #[bH ((tk k).getD mZ),.bool (tk k).isSome])∧jF W bc b0 b1 bt c mn cp g tk cnt n m w':=by
 obtain⟨es,ck,hv,h⟩:=h;refine(Zoh h hv (show k<9 by omega) (t:=(tk k).getD mZ) (is:=(tk k).isSome) ?_ ?_).mono ?_
 ·rw[BI hk]
  cases tk k<;>rfl
 ·rw[BI hk]
  cases tk k<;>rfl
 ·rintro e w' ⟨rfl,h'⟩
  exact⟨rfl,es,ck,hv,h'⟩
theorem Y2 (Z:Cv.kP c mn cp st g)(aV:c.key<18446744073709551616)(dI:st.tk=tk)(h:jF W bc b0 b1 bt c mn cp g tk cnt n m w)(hn:n<1000000000) :
 Calls Tryz.prog 24 #[.pointer (some ⟨bc,0,Option.none⟩)] w fun e w'=>e = .returned (.tuple #[.int .i64 (((Cv.oF c g tk).getD 0:Nat):Int),.bool (Cv.oF c g tk).isSome])∧jF W bc b0 b1 bt c mn cp g tk cnt n m w':=by
 obtain⟨es,ck,hv,h⟩:=h;obtain⟨h1,-,h2⟩:=EO Z;refine(YB (MH Z aV) hv hn (fun j t hj ht hm=>Yg Z (by rw[dI];exact ht) hm) h1 h2 W w m h).mono ?_;rintro e w' ⟨rfl,h'⟩;exact⟨rfl,es,ck,hv,h'⟩
theorem YA (Z:Cv.kP c mn cp st g)(aV:c.key<18446744073709551616)(dI:st.tk=tk)(h:jF W bc b0 b1 bt c mn cp g tk cnt n m w)(hn:n<1000000000)(ht:tk k=some t)(hw:t.want=1)
 (u7:t'=match Cv.oF c g tk with|some s=>{ t with want:=0,aA:=(s:Int),many:=0,pc:=43 }|Option.none=>{ t with want:=0,fin:=2 }) :
 Calls Tryz.prog 15 #[.pointer (some ⟨bc,0,Option.none⟩),.int .i64 (k:Int),.bool (Cv.oF c g tk).isSome] w fun e w'=>e = .returned (.tuple #[bH t',.int .i64 0])∧jF W bc b0 b1 bt c mn cp g (Cv.upd tk k (Cv.stop t')) cnt (n+1) m w':=by
 obtain⟨es,ck,hv,h⟩:=h;obtain⟨h1,-,h2⟩:=EO Z;obtain⟨hk,hL⟩:=Z.I.loc k t (by rw[dI];exact ht);have hC:=Z.C;have ai:t'.aB=k:=by
  rw[u7];cases Cv.oF c g tk<;>exact hL.aB
 refine(Zi3 (s:=(((Cv.oF c g tk).getD 0:Nat):Int)) (is:=(Cv.oF c g tk).isSome) (t':=t') h (by omega) hv hk (by rw[BI hk,ht];rfl) hw (YB (MH Z aV) hv hn (fun j t hj ht hm=>Yg Z (by rw[dI];exact ht) hm) h1 h2) ?_ (by rw[ai];omega)).mono ?_
 ·intro W w m hO
  cases hf:Cv.oF c g tk with
  |none =>
   rw[hf]at u7;subst u7;exact Zmh hO hL.fin hw
  |some s =>
   rw[hf]at u7;subst u7;have hs:=(Cv.find_range.2 s hf).1;have hS:=Z.S;exact ZkD hO (by show 0≤((s:Nat):Int)∧((s:Nat):Int)<32;omega) hL.fin hw
 ·rintro e w' ⟨es',bO,rfl,hv',h'⟩
  rw[Tq hk ai]at hv';exact⟨rfl,es',bO,hv',h'⟩
theorem Zm6 (Z:Cv.kP c mn cp st g)(hT:Ex.jR aJ.gs W)(dI:st.tk=tk)(h:jF W bc b0 b1 bt c mn cp g tk cnt n m w)(ht:tk k=some t)(hw:t.want=2)(hg:kY { t with want:=0 }=some t')(ai:t'.aB=t.aB) :
 Calls Tryz.prog 25 #[.pointer (some ⟨bc,0,Option.none⟩),.int .i64 (k:Int)] w fun e w'=>e = .returned (.tuple #[bH t',.int .i64 0])∧jF W bc b0 b1 bt c mn cp g (Cv.upd tk k (Cv.stop t')) cnt (n+1) m w':=by
 obtain⟨es,ck,hv,h⟩:=h;obtain⟨h1,-,h2⟩:=EO Z;obtain⟨hk,hL⟩:=Z.I.loc k t (by rw[dI];exact ht);have hC:=Z.C;rw[hL.aB]at ai;have hp:=Cv.Ztd hL hw;refine(Zkz (t':=t') h hT (by omega) h2 hv hk (by rw[BI hk,ht];rfl) hp hL.fin hw hg (by rw[ai];omega)).mono ?_;rintro e w' ⟨es',bO,rfl,hv',h'⟩;rw[Tq hk ai]at hv';exact⟨rfl,es',bO,hv',h'⟩
theorem ZoA (Z:Cv.kP c mn cp st g)(aV:c.key<18446744073709551616)(hT:Ex.jR aJ.gs W)(dI:st.tk=tk)(h:jF W bc b0 b1 bt c mn cp g tk cnt n m w)(hc:cnt<1000000000)(ht:tk k=some t)(hw:t.want=0)(hs:Cv.iO c mn cp g t=some (t',g'))(ai:t'.aB=t.aB) :
 Calls Tryz.prog 26 #[.pointer (some ⟨bc,0,Option.none⟩),.int .i64 (k:Int)] w fun e w'=>e = .returned (.tuple #[bH t',.int .i64 0])∧jF W bc b0 b1 bt c mn cp g' (Cv.upd tk k (Cv.stop t')) (cnt+1) (n+1) m w':=by
 obtain⟨es,ck,hv,h⟩:=h;have IP:st.tk k=some t:=by rw[dI];exact ht
 obtain⟨hk,hL⟩:=Z.I.loc k t IP;have hC:=Z.C;rw[hL.aB]at ai;have uX:=Ztq Z aV IP hw;obtain⟨q,hq,fJ,sD⟩:=Zpn uX hs;refine(Zod h hT uX hv hk (by rw[BI hk,ht];rfl) hc hq fJ sD (by rw[ai];omega)).mono ?_;rintro e w' ⟨es',bO,rfl,hv',h'⟩;rw[Tq hk ai]at hv';exact⟨rfl,es',bO,hv',h'⟩
theorem Y1 (hC:c.C≤5)(h:jF W bc b0 b1 bt c mn cp g tk cnt n m w)(hk:k<c.C)(ht:tk k=Option.none) :
 Calls Tryz.prog 13 #[.pointer (some ⟨bc,0,Option.none⟩),.int .i64 (k:Int),.int .i64 1,.int .i64 0,.int .i64 0] w fun e w'=>e = .returned (.int .i64 0)∧jF W bc b0 b1 bt c mn cp g (Cv.upd tk k (some (Cv.Dn k))) cnt (n+1) m w':=by
 obtain⟨es,ck,hv,h⟩:=h;refine(Zkt h (by omega) hv hk (by rw[BI hk,ht];rfl)).mono ?_;rintro e w' ⟨es',bO,rfl,hv',h'⟩;rw[LM hk]at hv';exact⟨rfl,es',bO,hv',h'⟩
theorem ZoB (hC:c.C≤5)(h:jF W bc b0 b1 bt c mn cp g tk cnt n m w)(hk:k<c.C)(ht:tk k=Option.none) :
 Calls Tryz.prog 13 #[.pointer (some ⟨bc,0,Option.none⟩),.int .i64 (k:Int),.int .i64 4,.int .i64 0,.int .i64 0] w fun e w'=>e = .returned (.int .i64 0)∧jF W bc b0 b1 bt c mn cp g (Cv.upd tk k (some (Cv.JB k))) cnt (n+1) m w':=by
 obtain⟨es,ck,hv,h⟩:=h;refine(Zl6 h (by omega) hv hk (by rw[BI hk,ht];rfl)).mono ?_;rintro e w' ⟨es',bO,rfl,hv',h'⟩;rw[LM hk]at hv';exact⟨rfl,es',bO,hv',h'⟩
theorem Zm5 (hC:c.C≤5)(h:jF W bc b0 b1 bt c mn cp g tk cnt n m w)(hk:k<c.C){f:Nat}(hf:f<c.C)(ht:tk k=Option.none) :
 Calls Tryz.prog 13 #[.pointer (some ⟨bc,0,Option.none⟩),.int .i64 (k:Int),.int .i64 3,.int .i64 (f:Int),.int .i64 0] w fun e w'=>e = .returned (.int .i64 0)∧jF W bc b0 b1 bt c mn cp g (Cv.upd tk k (some (Cv.Jt k f))) cnt (n+1) m w':=by
 obtain⟨es,ck,hv,h⟩:=h;refine(Zku h (by omega) hv hk hf (by rw[BI hk,ht];rfl)).mono ?_;rintro e w' ⟨es',bO,rfl,hv',h'⟩;rw[LM hk]at hv';exact⟨rfl,es',bO,hv',h'⟩
theorem Zoz (hc:sI c (mn:Int) (cp:Int))(h:jF W bc b0 b1 bt c mn cp g tk cnt n m w)(hk:k<c.C){x:Nat}(hs:x / 16<c.S)(ho:x % 16<c.O)(ht:tk k=Option.none) :
 Calls Tryz.prog 13 #[.pointer (some ⟨bc,0,Option.none⟩),.int .i64 (k:Int),.int .i64 2,.int .i64 ((x / 16:Nat):Int),.int .i64 ((x % 16:Nat):Int)] w fun e w'=>e = .returned (.int .i64 0)∧jF W bc b0 b1 bt c mn cp g (Cv.upd tk k (some (Cv.GH k x))) cnt (n+1) m w':=by
 obtain⟨es,ck,hv,h⟩:=h;refine(SN h hc hv hk hs ho (by rw[BI hk,ht];rfl)).mono ?_;rintro e w' ⟨es',bO,rfl,hv',h'⟩;rw[LM hk]at hv';exact⟨rfl,es',bO,hv',h'⟩
end
end Cw
namespace Cw
open Go Mem See
open Go.RowKit
section
def vR (f:Nat→Bool):List Value:=(List.range 512).map fun i=>.bool (f i)
theorem Gl (f:Nat→Bool):(vR f).length=512:=by simp[vR]
theorem Zip {f:Nat→Bool}{x:Nat}(h:x<512):(vR f)[x]?=some (.bool (f x)):=by simp[vR,h]
theorem Zo7 {f:Nat→Bool}{x:Nat}{b:Bool}(h:x<512):(vR f).set x (.bool b)=vR (fun y=>if y=x then b else f y):=by
 apply List.ext_getElem?;intro i;rw[List.getElem?_set];by_cases hi:i<512
 ·rw[Zip hi,Zip hi,Gl]
  by_cases e:x=i
  ·subst e
   simp[h]
  ·rw[if_neg e,if_neg (fun e2=>e e2.symm)]
 ·rw[if_neg (by omega),List.getElem?_eq_none (by rw[Gl];omega),List.getElem?_eq_none (by rw[Gl];omega)]
def nG (bc:Nat)(c:Ch)(mn cp:Nat)(jv:Value)(next:Nat)(out:Nat→Bool)(pv:Value)(none_:Nat)(good:Bool):List Value :=
 .pointer (some ⟨bc,0,Option.none⟩)::.int .i64 (c.C:Int)::.int .i64 (c.S:Int)::.int .i64 (c.O:Int)::.int .i64 (mn:Int)::.int .i64 (cp:Int)::.int .u64 (c.key:Int)::jv::.int .i64 (next:Int)::(vR out++[pv,.int .i64 (none_:Int),.bool good])
def gJ (br bc:Nat)(c:Ch)(mn cp:Nat)(jv:Value)(next:Nat)(out:Nat→Bool)(pv:Value)(none_:Nat)(good:Bool):Nat×Obj:=(br,.cells (nG bc c mn cp jv next out pv none_ good).toArray 35)
variable {W w:World}{m:List (Nat×Obj)}{br bc:Nat}{c:Ch}{mn cp next none_:Nat}{jv pv:Value}{out:Nat→Bool}{good:Bool}
theorem C7 {i:Nat}{v:Value}(h:[Value.pointer (some ⟨bc,0,Option.none⟩),.int .i64 (c.C:Int),.int .i64 (c.S:Int),.int .i64 (c.O:Int),.int .i64 (mn:Int),.int .i64 (cp:Int),.int .u64 (c.key:Int),jv,.int .i64 (next:Int)][i]?=some v):(nG bc c mn cp jv next out pv none_ good)[i]?=some v:=by
 have e:nG bc c mn cp jv next out pv none_ good=[Value.pointer (some ⟨bc,0,Option.none⟩),.int .i64 (c.C:Int),.int .i64 (c.S:Int),.int .i64 (c.O:Int),.int .i64 (mn:Int),.int .i64 (cp:Int),.int .u64 (c.key:Int),jv,.int .i64 (next:Int)]++(vR out++[pv,.int .i64 (none_:Int),.bool good]):=by intros;simp only[nG,List.cons_append,List.nil_append]
 rw[e,Zx0 (List.getElem?_eq_some_iff.1 h).1];exact h
theorem Zpi {x:Nat}(h:x<512):(nG bc c mn cp jv next out pv none_ good)[9+x]?=some (.bool (out x)):=by
 have e:nG bc c mn cp jv next out pv none_ good=[Value.pointer (some ⟨bc,0,Option.none⟩),.int .i64 (c.C:Int),.int .i64 (c.S:Int),.int .i64 (c.O:Int),.int .i64 (mn:Int),.int .i64 (cp:Int),.int .u64 (c.key:Int),jv,.int .i64 (next:Int)]++(vR out++[pv,.int .i64 (none_:Int),.bool good]):=by intros;simp only[nG,List.cons_append,List.nil_append]
 rw[e,ZxY (by simp),Zx0 (by rw[Gl];simp;omega)];have:9+x - [Value.pointer (some ⟨bc,0,Option.none⟩),.int .i64 (c.C:Int),.int .i64 (c.S:Int),.int .i64 (c.O:Int),.int .i64 (mn:Int),.int .i64 (cp:Int),.int .u64 (c.key:Int),jv,.int .i64 (next:Int)].length=x:=by simp
 rw[this];exact Zip h
theorem SY {k:Nat}{v:Value}(h:[pv,.int .i64 (none_:Int),.bool good][k]?=some v):(nG bc c mn cp jv next out pv none_ good)[521+k]?=some v:=by
 have e:nG bc c mn cp jv next out pv none_ good=([Value.pointer (some ⟨bc,0,Option.none⟩),.int .i64 (c.C:Int),.int .i64 (c.S:Int),.int .i64 (c.O:Int),.int .i64 (mn:Int),.int .i64 (cp:Int),.int .u64 (c.key:Int),jv,.int .i64 (next:Int)]++vR out)++[pv,.int .i64 (none_:Int),.bool good]:=by intros;simp only[nG,List.cons_append,List.nil_append]
 have hl:([Value.pointer (some ⟨bc,0,Option.none⟩),.int .i64 (c.C:Int),.int .i64 (c.S:Int),.int .i64 (c.O:Int),.int .i64 (mn:Int),.int .i64 (cp:Int),.int .u64 (c.key:Int),jv,.int .i64 (next:Int)]++vR out).length=521:=by rw[Zxw,Gl];rfl
 rw[e,ZxY (by rw[hl];omega),hl,Nat.add_sub_cancel_left];exact h
theorem wW (h:Own W (gJ br bc c mn cp jv next out pv none_ good::m) w){i:Nat}{v:Value}(hi:(nG bc c mn cp jv next out pv none_ good)[i]?=some v):w.cell? ⟨br,i,Option.none⟩=some v:=by
 have:=h.cell (b:=br) ZnJ i;rw[this,Zx3];exact hi
theorem BN (h:Own W (gJ br bc c mn cp jv next out pv none_ good::m) w) :
 (w.cell? ⟨br,0,Option.none⟩=some (.pointer (some ⟨bc,0,Option.none⟩))∧w.cell? ⟨br,1,Option.none⟩=some (.int .i64 (c.C:Int))∧w.cell? ⟨br,2,Option.none⟩=some (.int .i64 (c.S:Int))∧w.cell? ⟨br,3,Option.none⟩=some (.int .i64 (c.O:Int))∧w.cell? ⟨br,4,Option.none⟩=some (.int .i64 (mn:Int))∧w.cell? ⟨br,5,Option.none⟩=some (.int .i64 (cp:Int))∧w.cell? ⟨br,6,Option.none⟩=some (.int .u64 (c.key:Int))∧w.cell? ⟨br,7,Option.none⟩=some jv∧w.cell? ⟨br,8,Option.none⟩=some (.int .i64 (next:Int)) ∧
   w.cell? ⟨br,521,Option.none⟩=some pv∧w.cell? ⟨br,522,Option.none⟩=some (.int .i64 (none_:Int))∧w.cell? ⟨br,523,Option.none⟩=some (.bool good))∧(∀ x,x<512→w.cell? ⟨br,9+x,Option.none⟩=some (.bool (out x)))∧∀ i,w.frozen? ⟨br,i,Option.none⟩=false :=
 ⟨⟨wW h (C7 rfl),wW h (C7 rfl),wW h (C7 rfl),wW h (C7 rfl),wW h (C7 rfl),wW h (C7 rfl),wW h (C7 rfl),wW h (C7 rfl),wW h (C7 rfl),wW h (SY (k:=0) rfl),wW h (SY (k:=1) rfl),wW h (SY (k:=2) rfl)⟩,fun _x hx=>wW h (Zpi hx),fun i=>h.frozen ZnJ i⟩
theorem KX (h:Own W (gJ br bc c mn cp jv next out pv none_ good::m) w)(n:Nat):Own W (gJ br bc c mn cp jv n out pv none_ good::m) (w.setCell ⟨br,8,Option.none⟩ (.int .i64 (n:Int))):=by
 have:=h.set 8 (.int .i64 (n:Int));rw[ZnK]at this;exact this
theorem Yn (h:Own W (gJ br bc c mn cp jv next out pv none_ good::m) w){x:Nat}(hx:x<512)(b:Bool):Own W (gJ br bc c mn cp jv next (fun y=>if y=x then b else out y) pv none_ good::m) (w.setCell ⟨br,9+x,Option.none⟩ (.bool b)):=by
 have:=h.set (9+x) (.bool b);rw[ZnK]at this;have e:(nG bc c mn cp jv next out pv none_ good).set (9+x) (.bool b)=nG bc c mn cp jv next (fun y=>if y=x then b else out y) pv none_ good:=by
  have e1:∀ f,nG bc c mn cp jv next f pv none_ good=[Value.pointer (some ⟨bc,0,Option.none⟩),.int .i64 (c.C:Int),.int .i64 (c.S:Int),.int .i64 (c.O:Int),.int .i64 (mn:Int),.int .i64 (cp:Int),.int .u64 (c.key:Int),jv,.int .i64 (next:Int)]++(vR f++[pv,.int .i64 (none_:Int),.bool good]):=by intros;simp only[nG,List.cons_append,List.nil_append]
  rw[e1,e1,List.set_append_right _ _ (by simp),List.set_append_left _ _ (by rw[Gl];simp;omega)];have:9+x - [Value.pointer (some ⟨bc,0,Option.none⟩),.int .i64 (c.C:Int),.int .i64 (c.S:Int),.int .i64 (c.O:Int),.int .i64 (mn:Int),.int .i64 (cp:Int),.int .u64 (c.key:Int),jv,.int .i64 (next:Int)].length=x:=by simp
  rw[this,Zo7 hx]
 rw[e]at this;exact this
theorem Su (h:Own W (gJ br bc c mn cp jv next out pv none_ good::m) w)(k:Nat)(v:Value){pv':Value}{n':Nat}{g':Bool}(hk:[pv,.int .i64 (none_:Int),.bool good].set k v=[pv',.int .i64 (n':Int),.bool g']):Own W (gJ br bc c mn cp jv next out pv' n' g'::m) (w.setCell ⟨br,521+k,Option.none⟩ v):=by
 have:=h.set (521+k) v;rw[ZnK]at this;have e:(nG bc c mn cp jv next out pv none_ good).set (521+k) v=nG bc c mn cp jv next out pv' n' g':=by
  have e1:∀ p q r,nG bc c mn cp jv next out p q r=([Value.pointer (some ⟨bc,0,Option.none⟩),.int .i64 (c.C:Int),.int .i64 (c.S:Int),.int .i64 (c.O:Int),.int .i64 (mn:Int),.int .i64 (cp:Int),.int .u64 (c.key:Int),jv,.int .i64 (next:Int)]++vR out)++[p,.int .i64 (q:Int),.bool r]:=by intros;simp only[nG,List.cons_append,List.nil_append]
  have hl:([Value.pointer (some ⟨bc,0,Option.none⟩),.int .i64 (c.C:Int),.int .i64 (c.S:Int),.int .i64 (c.O:Int),.int .i64 (mn:Int),.int .i64 (cp:Int),.int .u64 (c.key:Int),jv,.int .i64 (next:Int)]++vR out).length=521:=by rw[Zxw,Gl];rfl
  rw[e1,e1,List.set_append_right _ _ (by rw[hl];omega),hl,Nat.add_sub_cancel_left,hk]
 rw[e]at this;exact this
theorem XB (h:Own W (gJ br bc c mn cp jv next out pv none_ good::m) w)(v:Value):Own W (gJ br bc c mn cp jv next out v none_ good::m) (w.setCell ⟨br,521,Option.none⟩ v):=Su h 0 v rfl
theorem Zk2 (h:Own W (gJ br bc c mn cp jv next out pv none_ good::m) w)(n:Nat):Own W (gJ br bc c mn cp jv next out pv n good::m) (w.setCell ⟨br,522,Option.none⟩ (.int .i64 (n:Int))):=Su h 1 _ rfl
theorem EB (h:Own W (gJ br bc c mn cp jv next out pv none_ good::m) w)(b:Bool):Own W (gJ br bc c mn cp jv next out pv none_ b::m) (w.setCell ⟨br,523,Option.none⟩ (.bool b)):=Su h 2 _ rfl
end
end Cw
end Go.Proofs.YtfcpdlbkmkhhcaaGreatDoor
