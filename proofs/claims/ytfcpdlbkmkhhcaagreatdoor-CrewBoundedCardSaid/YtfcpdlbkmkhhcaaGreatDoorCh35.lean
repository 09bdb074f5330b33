/-
  Texts of this claim, joined. No condition.
-/
import Derived.Test.YtfcpdlbkmkhhcaaGreatDoorCh1
import Derived.Test.YtfcpdlbkmkhhcaaGreatDoorCh34
import Derived.Test.YtfcpdlbkmkhhcaaGreatDoorCh15
namespace Go.Proofs.YtfcpdlbkmkhhcaaGreatDoor
set_option maxRecDepth 100000
set_option maxHeartbeats 40000000
namespace Cv
open See Cw
section
variable {c:Ch}{mn cp:Nat}{st st1 st':St}{g g':List Nat}{k:Nat}{t t':Tk}
def ints (l:List Nat):List Int:=l.map fun n:Nat=>(n:Int)
theorem Zvr {f:Nat→Nat}{key O:Nat}{W:List Nat}(hW:W.length=O)(hf:∀ o,o<O→W.getD o 0=f o)(hO:O≤16):∀ {l:List Nat} {n:Nat} {out:List Int},gy f key l (-1)→(∀ o∈l,o<O)→l.Nodup→(∀ o∈l,(o:Int)∉out)→l.length<n →
 walk (fun w o=>qG w key o.toNat) W n out (gq l (-1))=some (out++ints l)
 |[],0,_,_,_,_,_,hn=>by simp at hn
 |[],n+1,out,_,_,_,_,_=>by
  unfold walk;rw[if_pos (show gq [] (-1) = -1 from rfl)];simp[ints]
 |a::l,0,_,_,_,_,_,hn=>by simp at hn
 |a::l,n+1,out,hl,hb,hd,ho,hn=>by
  have ha:=hb a ZnJ;have eD:=Dk (l:=l) (e := -1) (by omega);have aK:gq l (-1)<O:=by
   cases l with
   |nil =>
    show(-1:Int)<O;omega
   |cons b l =>
    have:=hb b (by simp);show(b:Int)<O;omega
  have fE:qG (W.getD a 0) key a=some (gq l (-1)):=UA ((hf a ha).trans hl.1) eD (by omega);show walk _ W (n+1) out (a:Int)=_;unfold walk;rw[if_neg (by omega),if_neg (ho a ZnJ)];simp only[Zx2];rw[fE];simp only;rw[if_neg (by omega)];rw[Zvr hW hf hO hl.2 (fun o h=>hb o (ZnQ _ h)) (List.nodup_cons.1 hd).2 (fun o h e => ?_) (by simp at hn;omega)]
  ·simp[ints]
  ·rcases List.mem_append.1 e with e|e
   ·exact ho o (ZnQ _ h) e
   ·rw[ZxE]at e
    exact(List.nodup_cons.1 hd).1 (Int.ofNat.inj e ▸ h)
theorem Vi {of:Nat→Option Int}{wd:List Nat→Nat}{nx:Int→Nat}{S:Nat}(j3:∀ l:List Nat,(∀ s∈l,s<S)→l.length≤S→of (wd l)=some (gq l (-1))):∀ {l:List Nat} {n:Nat} {out:List Int},(∀ (p:List Nat) (a:Nat) (q:List Nat),l=p++a::q→nx (a:Int)=wd q)→(∀ s∈l,s<S)→l.length≤S→l.Nodup→(∀ x∈out,0≤x)→(∀ s∈l,(s:Int)∉out)→l.length<n →
 chain of nx S n out (wd l)=some (out++ints l)
 |[],0,_,_,_,_,_,_,_,hn=>by simp at hn
 |[],n+1,out,_,hb,hl,_,ho,_,_=>by
  unfold chain;rw[j3 [] hb hl];show(if (S:Int) ≤ -1∨(-1:Int)∈out then none else if (-1:Int) = -1 then some out else _)=_;rw[if_neg (fun h=>h.elim (fun h=>by omega) (fun h=>by have:=ho _ h;omega)),if_pos rfl];simp[ints]
 |a::l,0,_,_,_,_,_,_,_,hn=>by simp at hn
 |a::l,n+1,out,hx,hb,hl,hd,ho,fJ,hn=>by
  have ha:=hb a ZnJ;unfold chain;rw[j3 (a::l) hb hl];show(if (S:Int)≤(a:Int)∨(a:Int)∈out then none else if (a:Int) = -1 then some out else chain of nx S n (out++[(a:Int)]) (nx (a:Int)))=_;rw[if_neg (fun h=>h.elim (fun h=>by omega) (fJ a ZnJ)),if_neg (by omega),hx [] a l rfl];rw[Vi j3 (fun p b q e=>hx (a::p) b q (by rw[e];rfl)) (fun s h=>hb s (ZnQ _ h)) (by simp at hl;omega) (List.nodup_cons.1 hd).2 (fun x h => ?_) (fun s h e => ?_) (by simp at hn;omega)]
  ·simp[ints]
  ·rcases List.mem_append.1 h with h|h
   ·exact ho x h
   ·rw[ZxE]at h
    omega
  ·rcases List.mem_append.1 e with e|e
   ·exact fJ s (ZnQ _ h) e
   ·rw[ZxE]at e
    exact(List.nodup_cons.1 hd).1 (Int.ofNat.inj e ▸ h)
theorem ZwI {f:Nat→Nat}{l p q:List Nat}{a:Nat}(h:xk f l)(e:l=p++a::q):f a=pw q:=by
 rw[e]at h;exact(Uq h).1
theorem Vl {α:Type}{f:Nat→Option α}{f':Nat→α}:∀ {n:Nat},(∀ i,i<n→f i=some (f' i))→upto f n=some ((List.range n).map f')
 |0,_=>rfl
 |n+1,h=>by
  unfold upto;rw[Vl (n:=n) (fun i hi=>h i (by omega))];simp only;rw[h n (by omega)];simp[List.range_succ]
def mh (st:St)(k:Nat):JK:=⟨gq (st.sl (.head k)) (-1),match st.sl (.head k) with
 |[]=>[]
 |s::_=>ints (st.ol s (.head k)),st.ht k,ints (st.sl (.part k))⟩
def MI (c:Ch)(st:St)(s:Nat):Gt:=if st.lv s=true then ⟨c.O - (st.ol s .first).length,c.O,st.dh s,true⟩ else ⟨0,0,false,false⟩
def pu (c:Ch)(st:St)(s:Nat):JJ:=⟨MI c st s,ints (st.ol s .first)⟩
def jl (c:Ch)(st:St):Fh:=⟨(List.range c.C).map (mh st),ints (st.sl .shelf),st.hold.isSome,(List.range c.S).map (pu c st)⟩
theorem kP.at_ (Z:kP c mn cp st g)(i:Ix)(hi:i.ok c):See.at_ g (i.at_ c)=val c st i:=by
 unfold See.at_;rw[Zxx,Z.E.val i hi];rfl
theorem Zwf (Z:kP c mn cp st g){s:Nat}(hs:s<c.S):(links c g s).length=c.O∧∀ o,o<c.O→(links c g s).getD o 0=st.lk s o:=by
 have h1:∀ o,o<c.O→(links c g s)[o]?=some (st.lk s o):=by
  intro o ho;unfold links;rw[List.getElem?_take,if_pos ho,List.getElem?_drop];have:=Z.E.val (.lk s o) ⟨hs,ho⟩;exact this
 refine⟨?_,fun o ho=>by rw[Zxx,h1 o ho];rfl⟩;have hO:=Z.O;have h2:=h1 (c.O - 1) (by omega);have h3:c.O - 1<(links c g s).length:=(List.getElem?_eq_some_iff.1 h2).1;have h4:(links c g s).length≤c.O:=by
  unfold links;exact List.length_take_le _ _
 omega
theorem Zvk (Z:kP c mn cp st g){s:Nat}{x:Ct}(hx:x = .first∨∃ k,x = .head k)(hs:s<c.S):vT c g s (gq (st.ol s x) (-1))=some (ints (st.ol s x)):=by
 have G:=Z.I.G;have hO:=Z.O;have Kj:x.listed=true:=by rcases hx with rfl|⟨k,rfl⟩<;>rfl
 have hb:∀ o∈st.ol s x,o<c.O:=fun o ho=>(ru G Kj ho).2;have hl:gy (st.lk s) (See.keyOf c.key s) (st.ol s x) (-1):=by
  rcases hx with rfl|⟨k,rfl⟩
  ·exact G.l1 s
  ·exact G.l2 s k
 have eD:=Dk (l:=st.ol s x) (e := -1) (by omega);have aK:=EL G Kj hO.1 (l:=st.ol s x) (s:=s) (fun _ h=>h);obtain⟨h1,h2⟩:=Zwf Z hs;unfold vT;rw[if_pos ⟨by omega,by omega,eD,aK⟩];have h3:=zP (G.od s x Kj) hb;have:=Zvr (out:=[]) (n:=c.O+1) h1 h2 hO.2 hl hb (G.od s x Kj) (fun _ _=>by simp) (by omega);rw[List.nil_append]at this;exact this
theorem Zwq (Z:kP c mn cp st g){k:Nat}(hk:k<c.C):DI c g k=some (mh st k):=by
 have G:=Z.I.G;have hS:=Z.S;have hO:=Z.O;have bN:=Z.cp;have pR:=G.cap k;have xE:∀ s∈st.sl (.part k),s<c.S:=fun s hs=>nY G (x:=.part k) rfl hs;have hlen:=zP (G.sd (.part k) rfl) xE;have kF:DJ c g (See.at_ g (4 * k+2))=some (ints (st.sl (.part k))):=by
  have e1:See.at_ g (4 * k+2)=pw (st.sl (.part k)):=Z.at_ (.pd k) hk;rw[e1];unfold DJ;have:=Vi (of:=fun w=>(partOf w).map (·.1)) (wd:=pw) (nx:=nI c g) (S:=c.S) (fun l hb hl=>by rw[Li (fun s hs=>by have:=hb s hs;omega) (by omega)];rfl) (l:=st.sl (.part k)) (n:=c.S+1) (out:=[]) (fun p a q e => ?_) xE hlen (G.sd (.part k) rfl) (fun _ h=>by cases h) (fun _ _ h=>by cases h) (by omega)
  ·rw[List.nil_append]at this
   exact this
  ·have ha:a<c.S:=xE a (by rw[e];simp)
   have e2:nI c g (a:Int)=st.nx a:=Z.at_ (.nx a) ha;rw[e2];exact ZwI (G.cP k).1 e
 have ht:See.at_ g (4 * k+1)=st.ht k:=Z.at_ (.ht k) hk;have hh:See.at_ g (4 * k)=hw st k:=Z.at_ (.hd k) hk;unfold DI mh;rw[hh,ht,kF];rcases Jw G k with hn|⟨s,hs⟩
 ·rw[GD hn,hn]
  rfl
 ·have tN:=nY G (x:=.head k) rfl (s:=s) (by rw[hs];exact ZnJ)
  rw[QL G hS.2 hO.2 hO.1 hs,hs];simp only;rw[if_neg (by omega),Zvk Z (.inr ⟨k,rfl⟩) tN];rfl
theorem Zwo (Z:kP c mn cp st g){s:Nat}(hs:s<c.S):DF c g s=some (pu c st s):=by
 have G:=Z.I.G;have hO:=Z.O;have h1:See.at_ g (4 * c.C+4+4 * s+1)=ct c st s:=Z.at_ (.ct s) hs;have h2:See.at_ g (4 * c.C+4+4 * s)=fr st s:=Z.at_ (.fr s) hs;have h3:sM (ct c st s)=some (MI c st s):=by
  unfold ct MI;split
  ·exact Pg (by omega) hO.1 hO.2
  ·rfl
 unfold DF pu;rw[h1,h3,h2];simp only;rw[if_neg (by have:=Ml G s;omega)];have e:(fr st s:Int) - 1=gq (st.ol s .first) (-1):=UR _;rw[e,Zvk Z (.inl rfl) hs]
theorem ZwE (Z:kP c mn cp st g):G8 c g=some (jl c st):=by
 have G:=Z.I.G;have hS:=Z.S;have IG:∀ s∈st.sl .shelf,s<c.S:=fun s hs=>nY G (x:=.shelf) rfl hs;have hlen:=Gi G;have IJ:G5 c g=some (ints (st.sl .shelf)):=by
  have e1:See.at_ g (4 * c.C+1)=sw (st.sl .shelf):=Z.at_ .shelf trivial;unfold G5;rw[e1];have:=Vi (of:=yI) (wd:=sw) (nx:=nI c g) (S:=c.S) (fun l hb hl => ?_) (l:=st.sl .shelf) (n:=c.S+1) (out:=[]) (fun p a q e => ?_) IG hlen (G.sd .shelf rfl) (fun _ h=>by cases h) (fun _ _ h=>by cases h) (by omega)
  ·rw[List.nil_append]at this
   exact this
  ·cases l with
   |nil=>rfl
   |cons a l =>
    have:=hb a ZnJ;show(if a+1≤32 then some (((a+1:Nat):Int) - 1) else none)=some (a:Int);rw[if_pos (by omega)]
    congr 1
    omega
  ·have ha:a<c.S:=IG a (by rw[e];simp)
   have e2:nI c g (a:Int)=st.nx a:=Z.at_ (.nx a) ha;rw[e2];exact Mc (G.cS |> (e ▸ ·))
 have NM:See.at_ g (4 * c.C)=lw st:=Z.at_ .lock trivial;unfold G8;rw[Vl (f':=mh st) (fun i hi=>Zwq Z hi)];simp only;rw[IJ];simp only;rw[Vl (f':=pu c st) (fun i hi=>Zwo Z hi)];simp only;rw[NM];unfold jl
 congr 2
 unfold lw;cases st.hold<;>rfl
end
end Cv
namespace Cv
open See Cw
section
variable {c:Ch}{mn cp:Nat}{st st1 st':St}{g g':List Nat}{k:Nat}{t t':Tk}
theorem Jv:∀ {l m:List Nat},l.Nodup→(∀ x∈l,x∈m)→l.length≤m.length
 |[],_,_,_=>ZxV _
 |x::l,m,hn,hs=>by
  have hx:=hs x ZnJ;have h:=Jv (l:=l) (m:=m.erase x) (List.nodup_cons.1 hn).2 fun y hy=>by
   refine(List.mem_erase_of_ne ?_).2 (hs y (ZnQ _ hy));rintro rfl;exact(List.nodup_cons.1 hn).1 hy
  rw[List.length_erase_of_mem hx]at h;have:0<m.length:=List.length_pos_of_mem hx;simp only[ZxJ];omega
theorem Qk {f:Nat→List Nat}:∀ {n:Nat},((List.range n).flatMap f).length=gY (fun i=>(f i).length) n
 |0=>rfl
 |n+1=>by
  rw[List.range_succ,List.flatMap_append,Zxw,Qk];simp[gY]
theorem QV {f:Nat→List Nat}{x:Nat}:∀ {n:Nat},((List.range n).flatMap f).count x=gY (fun i=>(f i).count x) n
 |0=>rfl
 |n+1=>by
  rw[List.range_succ,List.flatMap_append,ZxO,QV];simp[gY]
theorem Ql {f:Nat→List Nat}{n x:Nat}:x∈(List.range n).flatMap f↔∃ i,i<n∧x∈f i:=by
 rw[List.mem_flatMap];constructor
 ·rintro⟨i,hi,h⟩
  exact⟨i,List.mem_range.1 hi,h⟩
 ·rintro⟨i,hi,h⟩
  exact⟨i,List.mem_range.2 hi,h⟩
theorem QX {f:Nat→Nat}{k:Nat}:∀ {n:Nat},(∀ j,j≠k→f j=0)→gY f n=if k<n then f k else 0
 |0,_=>by simp[gY]
 |n+1,h=>by
  unfold gY;rw[QX h];by_cases e:n=k
  ·subst e
   simp
  ·rw[h n e]
   by_cases e2:k<n
   ·rw[if_pos e2,if_pos (by omega)]
    omega
   ·rw[if_neg e2,if_neg (by omega)]
theorem YJ {f f':Nat→Nat}:∀ {n:Nat},(∀ j,j<n→f j≤f' j)→gY f n≤gY f' n
 |0,_=>Zxt _
 |n+1,h=>Nat.add_le_add (YJ fun j hj=>h j (by omega)) (h n (by omega))
theorem Loc.taken (G:dH c mn cp st)(h:Loc c mn cp st k t)(hj:t.job=1){s o:Nat}(ho:st.loc s o = .aU k):st.own s = .mine k∨st.own s = .shelf:=by
 have hm:=(G.om s (.aU k) rfl o).2 ho;have h0:∀ {ms ch:List Nat} {x:Nat},Has st k ms x [] ch→False:=fun h=>by
  rw[h.ob]at hm;split at hm<;>cases hm
 have h1:∀ {ms l ch:List Nat} {x:Nat},Has st k ms x l ch→s=x:=fun h=>by
  rw[h.ob]at hm;split at hm
  ·assumption
  ·cases hm
 have h2:∀ {x:Nat} {l ch:List Nat},Has st k [x] x l ch→st.own s = .mine k∨st.own s = .shelf:=fun h=>by
  have:=h1 h;subst this;exact .inl (h.own G)
 have DV:=h.job.1 hj;have aC:=h.want;have h:=h.at_;unfold At at h;split at h
 all_goals first
  |exact(h0 h).elim
  |exact(h0 h.1).elim
  |exact h2 h.1
  |exact h.elim
  |(rename_i hpc;rw[hpc]at DV;cases DV;done)
  |skip
 case h_20 =>
  obtain⟨⟨l,h5,-⟩,-,-,-,-,⟨r,hr⟩,-⟩:=h;have:=h1 h5;subst this;exact .inr (yh (p:=[]) G hr)
 case h_21 =>
  obtain⟨⟨l,h5,-⟩,-,-,-,-,⟨r,hr,-⟩,-⟩:=h;have:=h1 h5;subst this;exact .inr (yh (p:=[]) G hr)
 case h_22 =>
  obtain⟨⟨l,h5,-⟩,-⟩:=h;exact h2 h5
 case h_23 =>
  obtain⟨⟨l,h5,-⟩,-⟩:=h;exact h2 h5
 case h_24 =>
  obtain⟨⟨l,h5,-⟩,-⟩:=h;exact h2 h5
 case h_25 =>
  obtain⟨⟨l,h5,-⟩,-⟩:=h;exact h2 h5
 case h_26 =>
  obtain⟨⟨l,h5,-⟩,-⟩:=h;exact h2 h5
 case h_27 =>
  rename_i hpc;rcases aC with hw|hw|hw
  ·exact h2 (h.2 hw).1
  ·exact(h0 (h.1 hw.2).1).elim
  ·rw[hpc]at hw
   cases hw.1
theorem ZoR (I:Inv c mn cp st)(hj:∀ k t,st.tk k=some t→t.job=1){s o:Nat}(hs:st.own s = .full)(ho:o<c.O):st.loc s o = .out:=by
 have G:=I.G;have tN:=G.sb s (by rw[hs];intro e;cases e);cases hl:st.loc s o with
 |none =>
  have:=(G.live s o tN ho).1 hl;rw[hs]at this;cases this
 |first =>
  have h4:=(G.om s .first rfl o).2 hl;rw[(G.full s hs).2.2]at h4;cases h4
 |head x =>
  have:=G.oh s o x hl;rw[hs]at this;cases this
 |aU x =>
  exfalso;cases ht:st.tk x with
  |none =>
   have h1:=(G.om s (.aU x) rfl o).2 hl;rw[(I.idle x ht).ob s]at h1;split at h1<;>cases h1
  |some t =>
   rcases(I.loc x t ht).2.taken G (hj x t ht) hl with h|h
   ·rw[hs]at h
    cases h
   ·rw[hs]at h
    cases h
 |out=>rfl
theorem Yi {f:Nat→List Nat}:∀ {l:List Nat},l.Nodup→(∀ i∈l,(f i).Nodup)→(∀ i∈l,∀ j∈l,i≠j→∀ x∈f i,x∉f j)→(l.flatMap f).Nodup
 |[],_,_,_=>List.nodup_nil
 |a::l,hn,h1,h2=>by
  rw[List.flatMap_cons];refine List.nodup_append.2 ⟨h1 a ZnJ,Yi (List.nodup_cons.1 hn).2 (fun i hi=>h1 i (ZnQ _ hi)) (fun i hi j hj=>h2 i (ZnQ _ hi) j (ZnQ _ hj)),fun x hx y hy e => ?_⟩;subst e;obtain⟨j,hj,hxj⟩:=List.mem_flatMap.1 hy;exact h2 a ZnJ j (ZnQ _ hj) (fun e=>(List.nodup_cons.1 hn).1 (e ▸ hj)) x hx hxj
theorem XD {f:Nat→List Nat}{O:Nat}(h:∀ i,(f i).length=O):∀ {l:List Nat},(l.flatMap f).length=l.length * O
 |[]=>by simp
 |a::l=>by
  rw[List.flatMap_cons,Zxw,h,XD h,ZxJ,Nat.succ_mul];omega
theorem room (I:Inv c mn cp st)(hO:c.O≤16)(hj:∀ k t,st.tk k=some t→t.job=1)(dS:∀ s x,st.own s≠.shelf∧st.own s≠.part x∧st.own s≠.chain x)(hd:∀ s,s<c.S→st.own s≠.dead){pile:List Nat}(hp:∀ s o,o<16→st.loc s o = .out→16 * s+o∈pile)(aK:pile.length<(c.S - 2 * c.C) * c.O):False:=by
 classical
 have G:=I.G;obtain⟨F,hF⟩:∃ F,F=(List.range c.S).filter fun s=>st.own s = .full:=⟨_,rfl⟩;have hFm:∀ s,s∈F↔s<c.S∧st.own s = .full:=fun s=>by
  rw[hF,List.mem_filter,ZxW,decide_eq_true_eq]
 have h1:c.S≤F.length+(c.C+c.C):=by
  have h2:=Jv (l:=List.range c.S) (m:=F++(List.range c.C).flatMap fun k=>st.sl (.head k)++st.sl (.mine k)) List.nodup_range fun s hs=>by
   have tN:=List.mem_range.1 hs;rw[ZxQ,hFm];cases ho:st.own s with
   |dead=>exact absurd ho (hd s tN)
   |full=>exact .inl ⟨tN,rfl⟩
   |shelf=>exact absurd ho (dS s 0).1
   |head x=>exact .inr (Ql.2 ⟨x,G.sk s x (.inl ho),List.mem_append_left _ ((G.sm _ rfl s).2 ho)⟩)
   |part x=>exact absurd ho (dS s x).2.1
   |chain x=>exact absurd ho (dS s x).2.2
   |mine x=>exact .inr (Ql.2 ⟨x,G.sk s x (.inr (.inr (.inr ho))),ZxU _ ((G.sm _ rfl s).2 ho)⟩)
  rw[List.length_range,Zxw,Qk]at h2;have h3:gY (fun k=>(st.sl (.head k)++st.sl (.mine k)).length) c.C≤gY (fun _=>2) c.C:=YJ fun j _=>by
   show(st.sl (.head j)++st.sl (.mine j)).length≤2;rw[Zxw];have:=G.s1 j;omega
  have h4:∀ n,gY (fun _=>2) n=2 * n:=fun n=>by
   induction n with
   |zero=>rfl
   |succ n ih =>
    unfold gY;omega
  rw[h4]at h3;omega
 have h2:F.length * c.O≤pile.length:=by
  have h3:(F.flatMap fun s=>(List.range c.O).map (16 * s+·)).length=F.length * c.O:=XD fun i=>by simp
  rw[← h3];refine Jv (Yi ?_ (fun s _ => ?_) (fun s _ s' _ hne x hx CJ => ?_)) fun x hx => ?_
  ·rw[hF]
   exact List.nodup_range.filter _
  ·unfold List.Nodup
   rw[List.pairwise_map];exact List.nodup_range.imp fun h e=>h (by omega)
  ·obtain⟨a,ha,rfl⟩:=List.mem_map.1 hx
   obtain⟨b,hb,e⟩:=List.mem_map.1 CJ;have h5:=List.mem_range.1 ha;have h6:=List.mem_range.1 hb;have e2:16 * s'+b=16 * s+a:=e;omega
  ·obtain⟨s,hs,CJ⟩:=List.mem_flatMap.1 hx
   obtain⟨a,ha,rfl⟩:=List.mem_map.1 CJ;have h5:=List.mem_range.1 ha;exact hp s a (by omega) (ZoR I hj ((hFm s).1 hs).2 h5)
 have h3:(c.S - 2 * c.C) * c.O≤F.length * c.O:=ZxR _ (by omega);omega
end
end Cv
namespace Cv
open See Cw
structure Rn where
 g:List Nat
 tk:Nat→Option Tk
 next:Nat
 out:Nat→Bool
 pile:List Nat
 none:Nat
def eZ (i:Int)(n:Nat):Nat:=(i % (n:Int)).toNat
theorem ul {i:Int}{n:Nat}(h:1≤n):eZ i n<n:=by
 unfold eZ;have h1:=Int.emod_nonneg i (show(n:Int)≠0 by omega);have h2:=Int.emod_lt_of_pos i (show(0:Int)<n by omega);omega
def Dn (k:Nat):Tk:={ job:=1,aB:=k,pc:=0 }
def GH (k x:Nat):Tk:={ job:=2,aB:=k,pc:=10,aA:=((x / 16:Nat):Int),obj:=((x % 16:Nat):Int) }
def Jt (k f:Nat):Tk:={ job:=3,aB:=k,pc:=70,for_:=(f:Int) }
def JB (k:Nat):Tk:={ job:=4,aB:=k,pc:=95 }
def zO (c:Ch)(r:Rn)(k:Nat)(j:Int):Tk×Option Nat :=
 if eZ j 16=15 then (JB k,none)
 else if eZ j 16=14 then (Jt k (eZ (j.tdiv 16) c.C),none)
 else if 8≤eZ j 16∧r.pile≠[] then (GH k (r.pile.getD (eZ (j.tdiv 16) r.pile.length) 0),some (eZ (j.tdiv 16) r.pile.length))
 else (Dn k,none)
def zC (l:List Nat)(i:Nat):List Nat:=(l.set i (l.getD (l.length - 1) 0)).take (l.length - 1)
def l5 (c:Ch)(aj:List Int)(r:Rn)(k:Nat):Rn×Bool :=
 if r.next<aj.length∧r.next<120 then
  match zO c r k (aj.getD r.next 0) with
  |(t,none)=>({ r with next:=r.next+1,tk:=upd r.tk k (some t) },true)
  |(t,some i)=>({ r with next:=r.next+1,tk:=upd r.tk k (some t),pile:=zC r.pile i,out:=fun x=>if x=r.pile.getD i 0 then false else r.out x },true)
 else (r,false)
def zt (tk:Nat→Option Tk)(C s:Nat):Bool:=(List.range C).any fun j=>match tk j with
 |some t=>makes t&&t.aA==(s:Int)
 |none=>false
theorem Pj {tk:Nat→Option Tk}{C s:Nat}:zt tk C s=true↔making tk C s:=by
 unfold zt making;rw[List.any_eq_true];constructor
 ·rintro⟨j,hj,h⟩
  rw[ZxW]at hj;refine⟨j,hj,?_⟩;split at h
  ·rename_i t ht
   rw[Zxu,beq_iff_eq]at h;exact⟨t,ht,h.1,h.2⟩
  ·cases h
 ·rintro⟨j,hj,t,ht,h1,h2⟩
  refine⟨j,List.mem_range.2 hj,?_⟩;simp only[ht,h1,h2,beq_self_eq_true,Bool.and_self]
def oF (c:Ch)(g:List Nat)(tk:Nat→Option Tk):Option Nat:=(List.range c.S).find? fun s=>See.at_ g (fq c s+1)==0 && !zt tk c.C s
def rf (r:Rn)(t:Tk):Rn:=if t.job=1∧t.fin=1 then { r with out:=fun x=>if x=16 * t.aA.toNat+t.obj.toNat then true else r.out x,pile:=r.pile++[16 * t.aA.toNat+t.obj.toNat] } else r
def yC (c:Ch)(mn cp:Nat)(aj:List Int)(r:Rn)(k:Nat):Option (Rn×Bool) :=
 match r.tk k with
 |none=>some (l5 c aj r k)
 |some t =>
  if t.want=1 then match oF c r.g r.tk with
   |some s=>some ({ r with tk:=upd r.tk k (some { t with want:=0,aA:=(s:Int),many:=0,pc:=43 }) },true)
   |none=>some ({ r with none:=r.none+1,tk:=upd r.tk k none },true)
  else if t.want=2 then match kY { t with want:=0 } with
   |some t'=>some ({ r with tk:=upd r.tk k (stop t') },true)
   |none=>none
  else match iO c mn cp r.g t with
   |some (t',g')=>some (rf { r with g:=g',tk:=upd r.tk k (stop t') } t',true)
   |none=>none
section
variable {c:Ch}{mn cp:Nat}{st st1 st':St}{g g':List Nat}{k:Nat}{t t':Tk}{aj:List Int}{r r':Rn}
structure RI (c:Ch)(mn cp:Nat)(r:Rn)(st:St):Prop where
 Z:kP c mn cp st r.g
 tk:st.tk=r.tk
 out:∀ s o,o<16→(r.out (16 * s+o)=true↔st.loc s o = .out)
 nd:r.pile.Nodup
 mem:∀ x,x∈r.pile↔r.out x=true
def left (aj:List Int)(r:Rn):Nat:=min aj.length 120 - r.next
def sV (c:Ch)(aj:List Int)(r:Rn)(st:St):Nat:=gW c st+PJ c * left aj r
theorem ZnU {l:List Nat}{i:Nat}(hi:i<l.length)(hn:l.Nodup):(zC l i).Nodup∧∀ x,x∈zC l i↔x∈l∧x≠l.getD i 0:=by
 obtain⟨p,a,rfl⟩:∃ (p:List Nat) (a:Nat),l=p++[a]:=by
  rcases List.eq_nil_or_concat l with rfl|⟨p,a,rfl⟩
  ·simp at hi
  ·exact⟨p,a,by simp⟩
 have hlen:(p++[a]).length=p.length+1:=by simp
 have wu:(p++[a]).getD ((p++[a]).length - 1) 0=a:=by
  rw[hlen,Zxx];simp
 have Ni:zC (p++[a]) i=if i<p.length then p.set i a else p:=by
  unfold zC;rw[wu,hlen,Nat.add_sub_cancel];split
  ·rename_i h
   rw[List.set_append_left _ _ h,List.take_append_of_le_length (by simp),List.take_of_length_le (by simp)]
  ·rename_i h
   have:i=p.length:=(by omega);subst this;rw[List.set_append_right _ _ (Zxt _)];simp
 have Ob:=List.nodup_append.1 hn;have Hq:a∉p:=fun h=>Ob.2.2 a h a (by simp) rfl;rw[Ni];by_cases h:i<p.length
 ·rw[if_pos h]
  have Ro:(p++[a]).getD i 0=p[i]:=by
   rw[Zxx,Zx0 h,Zxp h];rfl
  rw[Ro];obtain⟨q,z,hq,NJ⟩:∃ q z,p=q++p[i]::z∧q.length=i:=⟨p.take i,p.drop (i+1),by simp,by simp;omega⟩;generalize p[i]=b at hq ⊢;subst hq;have mE:(q++b::z).set i a=q++a::z:=by
   rw[List.set_append_right _ _ (by omega),NJ,Nat.sub_self];rfl
  rw[mE];have h1:=List.nodup_append.1 Ob.1;have h2:=List.nodup_cons.1 h1.2.1;simp only[ZxQ,ZxF,not_or]at Hq;constructor
  ·refine List.nodup_append.2 ⟨h1.1,List.nodup_cons.2 ⟨Hq.2.2,h2.2⟩,fun x hx y hy e => ?_⟩
   subst e;rcases List.mem_cons.1 hy with rfl|hy
   ·exact Hq.1 hx
   ·exact h1.2.2 x hx x (ZnQ _ hy) rfl
  ·intro x
   simp only[ZxQ,ZxF,List.not_mem_nil,or_false];constructor
   ·rintro(hx|rfl|hx)
    ·exact⟨.inl (.inl hx),fun e=>h1.2.2 x hx b ZnJ e⟩
    ·exact⟨.inr rfl,fun e=>Hq.2.1 e⟩
    ·exact⟨.inl (.inr (.inr hx)),fun e=>h2.1 (e ▸ hx)⟩
   ·rintro⟨(hx|rfl|hx)|rfl,hne⟩
    ·exact .inl hx
    ·exact absurd rfl hne
    ·exact .inr (.inr hx)
    ·exact .inr (.inl rfl)
 ·rw[if_neg h]
  have jy:i=p.length:=by omega
  subst jy;have Ro:(p++[a]).getD p.length 0=a:=by
   rw[Zxx];simp
  rw[Ro];refine⟨Ob.1,fun x => ?_⟩;simp only[ZxQ,ZxF,List.not_mem_nil,or_false];constructor
  ·intro hx
   exact⟨.inl hx,fun e=>Hq (e ▸ hx)⟩
  ·rintro⟨hx|hx,hne⟩
   ·exact hx
   ·exact absurd hx hne
theorem find_range {p:Nat→Bool}{n:Nat}:((List.range n).find? p=none→∀ s,s<n→p s=false)∧∀ s,(List.range n).find? p=some s→s<n∧p s=true:=by
 constructor
 ·intro h s hs
  have:=List.find?_eq_none.1 h s (List.mem_range.2 hs);simpa using this
 ·intro s h
  exact⟨List.mem_range.1 (List.mem_of_find?_eq_some h),List.find?_some h⟩
theorem Zmj (Z:kP c mn cp st g)(dI:st.tk=r.tk){s:Nat}(h:oF c g r.tk=some s):s<c.S∧st.own s = .dead:=by
 obtain⟨h1,h2⟩:=find_range.2 s h;refine⟨h1,?_⟩;rw[Y7 Z.I h1];rw[Zxu,beq_iff_eq]at h2;have e:See.at_ g (fq c s+1)=ct c st s:=Z.at_ (.ct s) h1;refine⟨e ▸ h2.1,fun e2 => ?_⟩;rw[dI]at e2;have:=Pj.2 e2;rw[this]at h2;cases h2.2
theorem Zmi (Z:kP c mn cp st g)(dI:st.tk=r.tk)(h:oF c g r.tk=none):∀ s,s<c.S→st.own s≠.dead:=by
 intro s hs hd;have h1:=find_range.1 h s hs;obtain⟨h2,h3⟩:=(Y7 Z.I hs).1 hd;have e:See.at_ g (fq c s+1)=ct c st s:=Z.at_ (.ct s) hs;rw[e,h2]at h1;have:zt r.tk c.C s=false:=by
  cases hm:zt r.tk c.C s with
  |false=>rfl
  |true =>
   have:=Pj.1 hm;rw[← dI]at this;exact absurd this h3
 rw[this]at h1;cases h1
def runs (c:Ch)(r:Rn):Nat:=gY (fun k=>if (r.tk k).isSome then 1 else 0) c.C
structure RA (c:Ch)(aj:List Int)(r:Rn)(st:St):Prop where
 job:∀ k t,r.tk k=some t→t.job=1
 own:∀ s x,st.own s≠.shelf∧st.own s≠.part x∧st.own s≠.chain x
 none:r.none=0
 cnt:r.pile.length+runs c r=r.next
 nx:r.next≤aj.length
structure Uu (c:Ch)(aj:List Int):Prop where
 all:∀ j∈aj,eZ j 16<8
 len:aj.length≤(c.S - 2 * c.C) * c.O
theorem Qg {x:Option Tk}(hk:k<c.C):runs c { r with tk:=upd r.tk k x }+(if (r.tk k).isSome then 1 else 0)=runs c r+(if x.isSome then 1 else 0):=by
 have:=PW (f:=fun j=>if (r.tk j).isSome then 1 else 0) (f':=fun j=>if (upd r.tk k x j).isSome then 1 else 0) hk fun j hj=>by
  show(if (upd r.tk k x j).isSome then 1 else 0)=(if (r.tk j).isSome then 1 else 0);rw[upd_ne hj]
 simp only[upd_same]at this;exact this
theorem RA.Vg {x:Option Tk}(A:RA c aj r st)(hx:∀ t,x=some t→t.job=1):∀ j t,upd r.tk k x j=some t→t.job=1:=fun j t h=>by
 by_cases e:j=k
 ·rw[e,upd_same]at h
  exact hx t h
 ·rw[upd_ne e]at h
  exact A.job j t h
theorem RA.own' (A:RA c aj r st)(h:∀ s,st'.own s=st.own s∨st'.own s = .head k∨st'.own s = .mine k∨st'.own s = .full):∀ s x,st'.own s≠.shelf∧st'.own s≠.part x∧st'.own s≠.chain x:=fun s x=>by
 rcases h s with h|h|h|h
 ·rw[h]
  exact A.own s x
 ·rw[h]
  exact⟨(fun e=>by cases e),(fun e=>by cases e),fun e=>by cases e⟩
 ·rw[h]
  exact⟨(fun e=>by cases e),(fun e=>by cases e),fun e=>by cases e⟩
 ·rw[h]
  exact⟨(fun e=>by cases e),(fun e=>by cases e),fun e=>by cases e⟩
inductive Di (c:Ch)(aj:List Int)(r:Rn)(st:St)(k:Nat):Rn→St→Bool→Prop where
 |on {r':Rn} {st':St} (h:sV c aj r' st'+1≤sV c aj r st):Di c aj r st k r' st' true
 |idle (h:r.tk k=none) (h2:¬(r.next<aj.length∧r.next<120)):Di c aj r st k r st false
 |spin (h:st.hold≠none) (t:Tk) (ht:r.tk k=some t) (hl:nE t.pc=false) (hw:t.want=0):Di c aj r st k r st true
theorem Zrc (I:RI c mn cp r st)(hk:k<c.C)(hn:st.n<1000000000):∃ r' b st',yC c mn cp aj r k=some (r',b)∧RI c mn cp r' st'∧st'.n≤st.n+1∧Di c aj r st k r' st' b∧(Uu c aj→RA c aj r st→RA c aj r' st'):=by
 have Z:=I.Z;have hO:=Z.O;have G:=Z.I.G;cases ht:r.tk k with
 |none =>
  have dI:st.tk k=none:=by rw[I.tk];exact ht
  have hp:yC c mn cp aj r k=some (l5 c aj r k):=by
   unfold yC;rw[ht]
  by_cases dK:r.next<aj.length∧r.next<120
  ·have pJ:left aj r=left aj { r with next:=r.next+1 }+1:=by
    show min aj.length 120 - r.next=min aj.length 120 - (r.next+1)+1;omega
   have uZ:∀ t0,zO c r k (aj.getD r.next 0)=(t0,none)→Mv c k t0→∃ r' b st',yC c mn cp aj r k=some (r',b)∧RI c mn cp r' st'∧st'.n≤st.n+1∧Di c aj r st k r' st' b∧(Uu c aj→RA c aj r st→RA c aj r' st'):=by
    intro t0 hj Iq;obtain⟨st',hx,rX,eG,dS,-⟩:=Zow Z hk dI Iq;refine⟨{ r with next:=r.next+1,tk:=upd r.tk k (some t0) },true,st',?_,⟨hx.Z,?_,fun s o ho => ?_,I.nd,I.mem⟩,by rw[hx.n];exact Zxt _,.on ?_,fun T A=>⟨A.Vg (fun t e => ?_),A.own' (k:=k) (fun s=>.inl (by rw[dS])),A.none,?_,dK.1⟩⟩
    ·rw[hp]
     unfold l5;rw[if_pos dK,hj]
    ·rw[hx.tk,I.tk]
    ·rw[eG]
     exact I.out s o ho
    ·unfold sV
     have e:left aj { r with next:=r.next+1,tk:=upd r.tk k (some t0) }=left aj { r with next:=r.next+1 }:=rfl;rw[e,pJ,Nat.mul_add];omega
    ·cases e
     have h7:=T.all (aj.getD r.next 0) (by rw[Zxx,Zxp dK.1];exact List.getElem_mem dK.1);unfold zO at hj;rw[if_neg (by omega),if_neg (by omega),if_neg (by omega)]at hj;cases hj;rfl
    ·have h8:=Qg (r:=r) (x:=some t0) hk
     rw[ht]at h8;have h9:=A.cnt;show r.pile.length+runs c { r with tk:=upd r.tk k (some t0) }=r.next+1;simp at h8;omega
   by_cases zW:eZ (aj.getD r.next 0) 16=15
   ·exact uZ (JB k) (if_pos zW) .trim
   by_cases DR:eZ (aj.getD r.next 0) 16=14
   ·exact uZ (Jt k _) ((if_neg zW).trans (if_pos DR)) (.flush _ (ul Z.C.1))
   by_cases h8:8≤eZ (aj.getD r.next 0) 16∧r.pile≠[]
   ·obtain⟨i,hi⟩:∃ i,i=eZ ((aj.getD r.next 0).tdiv 16) r.pile.length:=⟨_,rfl⟩
    have pR:1≤r.pile.length:=by
     cases hc:r.pile with
     |nil=>exact absurd hc h8.2
     |cons a l=>simp
    have Cs:i<r.pile.length:=hi ▸ ul pR;obtain⟨x,hx⟩:∃ x,x=r.pile.getD i 0:=⟨_,rfl⟩;have Kl:x∈r.pile:=by
     rw[hx,Zxx,Zxp Cs];exact List.getElem_mem Cs
    have Xa:r.out x=true:=(I.mem x).1 Kl;have hxe:x=16 * (x / 16)+x % 16:=(by omega);have eG:st.loc (x / 16) (x % 16) = .out:=(I.out _ _ (by omega)).1 (by rw[← hxe];exact Xa);obtain⟨st',hN,rX,pM,-⟩:=SN Z hk dI eG;have hj:zO c r k (aj.getD r.next 0)=(GH k x,some i):=by
     unfold zO;rw[if_neg zW,if_neg DR,if_pos h8,← hi,← hx]
    obtain⟨hd1,hd2⟩:=ZnU Cs I.nd;refine⟨{ r with next:=r.next+1,tk:=upd r.tk k (some (GH k x)),pile:=zC r.pile i,out:=fun y=>if y=r.pile.getD i 0 then false else r.out y },true,st',?_,⟨hN.Z,?_,fun s o ho => ?_,hd1,fun y => ?_⟩,by rw[hN.n];exact Zxt _,.on ?_,fun T A => ?_⟩
    ·rw[hp]
     unfold l5;rw[if_pos dK,hj]
    ·rw[hN.tk,I.tk]
     rfl
    ·rw[pM s o]
     show(if 16 * s+o=r.pile.getD i 0 then false else r.out (16 * s+o))=true↔_;rw[← hx];by_cases e:16 * s+o=x
     ·rw[if_pos e]
      constructor
      ·intro e2
       cases e2
      ·intro e2
       exact absurd ⟨by omega,by omega⟩ e2.2
     ·rw[if_neg e,I.out s o ho]
      constructor
      ·intro e2
       refine⟨e2,fun e3=>e ?_⟩;omega
      ·intro e2
       exact e2.1
    ·show y∈zC r.pile i↔(if y=r.pile.getD i 0 then false else r.out y)=true
     rw[hd2 y,I.mem y];by_cases e:y=r.pile.getD i 0
     ·rw[if_pos e]
      constructor
      ·intro e2
       exact absurd e e2.2
      ·intro e2
       cases e2
     ·rw[if_neg e]
      exact⟨fun e2=>e2.1,fun e2=>⟨e2,e⟩⟩
    ·unfold sV
     show gW c st'+PJ c * left aj { r with next:=r.next+1 }+1≤_;rw[pJ,Nat.mul_add];omega
    ·have h7:=T.all (aj.getD r.next 0) (by rw[Zxx,Zxp dK.1];exact List.getElem_mem dK.1)
     exact absurd h8.1 (by omega)
   ·refine uZ (Dn k) ?_ .alloc
    unfold zO;rw[if_neg zW,if_neg DR,if_neg h8]
  ·refine⟨r,false,st,?_,I,Nat.le_succ _,.idle ht dK,fun _ A=>A⟩
   rw[hp];unfold l5;rw[if_neg dK]
 |some t =>
  have dI:st.tk k=some t:=by rw[I.tk];exact ht
  by_cases ve:t.want=1
  ·cases hf:oF c r.g r.tk with
   |some s =>
    obtain⟨hs,hd⟩:=Zmj Z I.tk hf;obtain⟨st',hN,rX,pM,dS⟩:=Zl4 Z dI ve hs hd;refine⟨{ r with tk:=upd r.tk k (some { t with want:=0,aA:=(s:Int),many:=0,pc:=43 }) },true,st',?_,⟨hN.Z,?_,fun s o ho => ?_,I.nd,I.mem⟩,by rw[hN.n];exact Zxt _,.on ?_,fun T A=>⟨A.Vg (fun t2 e=>by cases e;exact A.job k t ht),A.own' (fun x=>(dS x).elim .inl fun h=>.inr (.inr (.inl h))),A.none,?_,A.nx⟩⟩
    ·unfold yC
     rw[ht];dsimp only;rw[if_pos ve,hf]
    ·rw[hN.tk,I.tk]
    ·rw[pM]
     exact I.out s o ho
    ·show gW c st'+PJ c * left aj r+1≤gW c st+PJ c * left aj r
     omega
    ·have h8:=Qg (r:=r) (x:=some { t with want:=0,aA:=(s:Int),many:=0,pc:=43 }) hk
     rw[ht]at h8;have h9:=A.cnt;show r.pile.length+runs c { r with tk:=upd r.tk k (some { t with want:=0,aA:=(s:Int),many:=0,pc:=43 }) }=r.next;simp at h8;omega
   |none =>
    obtain⟨st',hN,rX,pM,-⟩:=ZmO Z dI ve;refine⟨{ r with none:=r.none+1,tk:=upd r.tk k none },true,st',?_,⟨hN.Z,?_,fun s o ho => ?_,I.nd,I.mem⟩,by rw[hN.n];exact Zxt _,.on ?_,fun T A => ?_⟩
    ·unfold yC
     rw[ht];dsimp only;rw[if_pos ve,hf]
    ·rw[hN.tk,I.tk]
    ·rw[pM]
     exact I.out s o ho
    ·show gW c st'+PJ c * left aj r+1≤gW c st+PJ c * left aj r
     omega
    ·exfalso
     refine room (pile:=r.pile) Z.I hO.2 (fun j t e=>A.job j t (by rw[← I.tk];exact e)) A.own (Zmi Z I.tk hf) (fun s o ho hl=>(I.mem _).2 ((I.out s o ho).2 hl)) ?_;have h8:=Qg (r:=r) (x:=none) hk;rw[ht]at h8;have h9:=A.cnt;have lX:=A.nx;have uM:=T.len;simp at h8;omega
  ·by_cases Oz:t.want=2
   ·obtain⟨t',hg,st',hN,aI,jH,qM,rX,pM⟩:=ZG Z dI Oz
    refine⟨{ r with tk:=upd r.tk k (stop t') },true,st',?_,⟨hN.Z,?_,fun s o ho => ?_,I.nd,I.mem⟩,by rw[hN.n];exact Zxt _,.on ?_,fun T A=>absurd (A.job k t ht) qM⟩
    ·unfold yC
     rw[ht];dsimp only;rw[if_neg ve,if_pos Oz,hg]
    ·rw[hN.tk,I.tk]
    ·rw[pM]
     exact I.out s o ho
    ·show gW c st'+PJ c * left aj r+1≤gW c st+PJ c * left aj r
     omega
   ·have aL:t.want=0:=by
     rcases(Z.I.loc k t dI).2.want with h|h|h
     ·exact h
     ·exact absurd h.2 ve
     ·exact absurd h.2 Oz
    have X:=Z.cx dI hn;obtain⟨t',g',st',hR⟩:=step_ok X aL;have Z':kP c mn cp st' g':=⟨hR.I,hR.E,hR.W,Z.C,Z.S,Z.O,Z.cp,Z.mn⟩;have Av:yC c mn cp aj r k=some (rf { r with g:=g',tk:=upd r.tk k (stop t') } t',true):=by
     unfold yC;rw[ht];dsimp only;rw[if_neg ve,if_neg Oz,hR.step]
    rcases hR.phi with rX|⟨h1,h2,h3,h4,h5⟩
    ·refine⟨_,true,st',Av,?_,hR.n,?_,fun T A => ?_⟩
     ·by_cases he:t'.job=1∧t'.fin=1
      ·have fB:=hR.out
       rw[if_pos ⟨hR.job ▸ he.1,he.2⟩]at fB;obtain⟨s0,o0,e1,e2,cO,Kb,fJ,pM⟩:=fB;have hx:16 * t'.aA.toNat+t'.obj.toNat=16 * s0+o0:=(by omega);have xq:rf { r with g:=g',tk:=upd r.tk k (stop t') } t'={ g:=g',tk:=upd r.tk k (stop t'),next:=r.next,out:=fun x=>if x=16 * s0+o0 then true else r.out x,pile:=r.pile++[16 * s0+o0],none:=r.none }:=by
         unfold rf;rw[if_pos he,hx]
       rw[xq];have Ie:16 * s0+o0∉r.pile:=fun e=>fJ ((I.out s0 o0 (by omega)).1 ((I.mem _).1 e));refine⟨Z',?_,fun s o ho => ?_,?_,fun x => ?_⟩
       ·show st'.tk=upd r.tk k (stop t')
        rw[hR.tk,I.tk]
       ·show(if 16 * s+o=16 * s0+o0 then true else r.out (16 * s+o))=true↔_
        rw[pM s o];by_cases e:16 * s+o=16 * s0+o0
        ·rw[if_pos e]
         exact⟨fun _=>.inr ⟨by omega,by omega⟩,fun _=>rfl⟩
        ·rw[if_neg e,I.out s o ho]
         exact⟨fun h=>.inl h,fun h=>h.elim id fun h=>absurd (by omega) e⟩
       ·refine List.nodup_append.2 ⟨I.nd,by simp,fun a ha b hb e => ?_⟩
        rw[ZxE]at hb;subst hb;subst e;exact Ie ha
       ·show x∈r.pile++[16 * s0+o0]↔(if x=16 * s0+o0 then true else r.out x)=true
        rw[ZxQ,ZxE,I.mem x];by_cases e:x=16 * s0+o0
        ·rw[if_pos e]
         exact⟨fun _=>rfl,fun _=>.inr e⟩
        ·rw[if_neg e]
         exact⟨fun h=>h.elim id fun h=>absurd h e,fun h=>.inl h⟩
      ·have xq:rf { r with g:=g',tk:=upd r.tk k (stop t') } t'={ r with g:=g',tk:=upd r.tk k (stop t') }:=if_neg he
       rw[xq];have fB:=hR.out;rw[if_neg (fun e=>he ⟨hR.job.trans e.1,e.2⟩)]at fB;refine⟨Z',?_,fun s o ho => ?_,I.nd,I.mem⟩
       ·show st'.tk=upd r.tk k (stop t')
        rw[hR.tk,I.tk]
       ·rw[fB]
        exact I.out s o ho
     ·refine .on ?_
      have e:left aj (rf { r with g:=g',tk:=upd r.tk k (stop t') } t')=left aj r:=by
       unfold rf;split<;>rfl
      unfold sV;rw[e];omega
     ·have hj:=A.job k t ht
      have h9:=A.cnt;have h8:=Qg (r:=r) (x:=stop t') hk;rw[ht]at h8;have dS:=A.own' (st':=st') (k:=k) fun s=>by
       rcases hR.ao hj s with h|h|h|h
       ·exact .inl h
       ·exact .inr (.inl h)
       ·exact .inr (.inr (.inl h))
       ·exact .inr (.inr (.inr h.1))
      have jH:∀ j t2,upd r.tk k (stop t') j=some t2→t2.job=1:=A.Vg fun t2 e=>by
       unfold stop at e;split at e
       ·cases e
        exact hR.job.trans hj
       ·cases e
      rcases hR.fin with hf|hf
      ·have xq:rf { r with g:=g',tk:=upd r.tk k (stop t') } t'={ r with g:=g',tk:=upd r.tk k (stop t') }:=if_neg (fun e=>by rw[hf]at e;cases e.2)
       have aW:stop t'=some t':=if_pos hf;rw[xq];refine⟨jH,dS,A.none,?_,A.nx⟩;show r.pile.length+runs c { r with tk:=upd r.tk k (stop t') }=r.next;rw[aW]at h8 ⊢;simp at h8;omega
      ·have xq:rf { r with g:=g',tk:=upd r.tk k (stop t') } t'={ g:=g',tk:=upd r.tk k (stop t'),next:=r.next,out:=fun x=>if x=16 * t'.aA.toNat+t'.obj.toNat then true else r.out x,pile:=r.pile++[16 * t'.aA.toNat+t'.obj.toNat],none:=r.none }:=if_pos ⟨hR.job.trans hj,hf⟩
       have aW:stop t'=none:=if_neg (by rw[hf];decide);rw[xq];refine⟨jH,dS,A.none,?_,A.nx⟩;show(r.pile++[_]).length+runs c { r with tk:=upd r.tk k (stop t') }=r.next;rw[aW]at h8 ⊢;simp at h8 ⊢;omega
    ·subst h1 h2 h3
     have hf:t'.fin=0:=(Z.I.loc k _ dI).2.fin;have aW:stop t'=some t':=if_pos hf;have WW:upd r.tk k (stop t')=r.tk:=by
      rw[aW]
      funext j
      by_cases e:j=k
      ·rw[e,upd_same,ht]
      ·rw[upd_ne e]
     have xq:rf { r with g:=r.g,tk:=upd r.tk k (stop t') } t'=r:=by
      rw[WW];exact if_neg (fun e=>by rw[hf]at e;cases e.2)
     rw[xq]at Av;exact⟨r,true,_,Av,I,Nat.le_succ _,.spin h4 t' ht h5 aL,fun _ A=>A⟩
end
end Cv
end Go.Proofs.YtfcpdlbkmkhhcaaGreatDoor
