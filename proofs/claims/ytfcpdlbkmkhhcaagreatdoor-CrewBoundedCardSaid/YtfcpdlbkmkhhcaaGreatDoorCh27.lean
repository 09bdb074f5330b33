/-
  Texts of this claim, joined. No condition.
-/
import Derived.Test.YtfcpdlbkmkhhcaaGreatDoorCh1
import Derived.Test.YtfcpdlbkmkhhcaaGreatDoorCh26
namespace Go.Proofs.YtfcpdlbkmkhhcaaGreatDoor
set_option maxRecDepth 100000
set_option maxHeartbeats 40000000
namespace Cv
open See Cw
section
variable {c:Ch}{mn cp:Nat}{st st':St}{k:Nat}{t:Tk}{g:List Nat}
structure Inv (c:Ch)(mn cp:Nat)(st:St):Prop where
 G:dH c mn cp st
 loc:∀ k t,st.tk k=some t→k<c.C∧Loc c mn cp st k t
 idle:∀ k,st.tk k=none→Has st k [] 0 [] []
 gL:∀ k,st.hold=some k→∃ t,st.tk k=some t∧nE t.pc=true∧t.want=0
theorem Inv.step (I:Inv c mn cp st)(hk:k<c.C)(G':dH c mn cp st')(hL:∀ j,j≠k→Left c j st st')(h:st'.tk k=none∧Has st' k [] 0 [] []∨∃ t',st'.tk k=some t'∧Loc c mn cp st' k t')
 (hh:st'.hold=some k→∃ t',st'.tk k=some t'∧nE t'.pc=true∧t'.want=0):Inv c mn cp st':=by
 refine⟨G',?_,?_,?_⟩
 ·intro j t ht
  by_cases e:j=k
  ·subst e
   rcases h with⟨h1,_⟩|⟨t',h1,h2⟩
   ·rw[h1]at ht
    cases ht
   ·rw[h1]at ht
    cases ht;exact⟨hk,h2⟩
  ·have L:=hL j e
   rw[L.tk]at ht;obtain⟨h1,h2⟩:=I.loc j t ht;exact⟨h1,h2.keep I.G G' L⟩
 ·intro j hj
  by_cases e:j=k
  ·subst e
   rcases h with⟨_,h1⟩|⟨t',h1,_⟩
   ·exact h1
   ·rw[h1]at hj
    cases hj
  ·have L:=hL j e
   rw[L.tk]at hj;exact(I.idle j hj).keep L
 ·intro j hj
  by_cases e:j=k
  ·subst e
   exact hh hj
  ·have L:=hL j e
   rw[L.tk];exact I.gL j (L.hl hj)
theorem dM {i x:Nat}{f:Nat→Out}(h:g[i]?=some x):rd g i f=f x:=by
 unfold rd;rw[h]
theorem jW {i x y:Nat}(h:g[i]?=some y):wr g i x t=some (t,g.set i x):=dM h
theorem dQ {p:Prop}[Decidable p]{o:Out}(h:p):need p o=o:=if_pos h
theorem fM {f:Nat→Out}(h:eu c t):iN c t f=f (sn t):=dQ h
theorem pY {x:Int}{f:Nat→Out}(h:0≤x∧x<c.O):wZ c x f=f x.toNat:=dQ h
theorem uo {i old sec x y p q:Nat}{a b:Tk}(hp:g[i]?=some p)(hq:g[i+1]?=some q):mK g i old sec x y a b=if p=old∧q=sec then some (a,(g.set i x).set (i+1) y) else some (b,g):=by
 unfold mK;rw[dM hp,dM hq]
theorem Pg {iu ob:Nat}{f:Bool}(h1:iu≤ob)(h2:1≤ob)(h3:ob≤16):sM (dF iu ob f true)=some ⟨iu,ob,f,true⟩:=by
 have e:dF iu ob f true=iu+256 * ob+(if f then 65536 else 0)+131072:=rfl;unfold sM;cases f
 ·simp only[Bool.false_eq_true,if_false]at e
  rw[e,if_neg (by omega),if_pos (by omega)]
  congr 2
  ·omega
  ·omega
  ·rw[decide_eq_false_iff_not]
   omega
 ·simp only[if_true]at e
  rw[e,if_neg (by omega),if_pos (by omega)]
  congr 2
  ·omega
  ·omega
  ·rw[decide_eq_true_eq]
   omega
theorem pack_inj {a b ob:Nat}{f f':Bool}(h1:a≤ob)(DN:b≤ob)(h2:1≤ob)(h3:ob≤16)(h:dF a ob f true=dF b ob f' true):a=b∧f=f':=by
 have e:=Pg (f:=f) h1 h2 h3;rw[h,Pg DN h2 h3]at e;simp only[ZlP,Gt.mk.injEq]at e;exact⟨e.1.symm,e.2.2.1.symm⟩
theorem o8 {iu ob:Nat}{f:Bool}{x:Nat→Nat→Bool→Out}(h1:iu≤ob)(h2:1≤ob)(h3:ob≤16):sW (dF iu ob f true) x=x iu ob f:=by
 unfold sW;rw[Pg h1 h2 h3];exact if_pos ⟨rfl,h2⟩
theorem Zjm {s:Nat}{o:Int}(hs:s<32)(h1 : -1≤o)(h2:o<16):sO (headW (s:Int) o)=some ((s:Int),o):=by
 unfold sO headW;rw[if_neg (by omega),if_pos (by omega)]
 congr 2
 ·omega
 ·omega
theorem ZjJ {s n:Nat}(hs:s<32)(h1:1≤n)(h2:n<64):partOf (qF (s:Int) (n:Int))=some ((s:Int),(n:Int)):=by
 unfold partOf qF;rw[if_neg (by omega),if_pos (by omega)]
 congr 2
 ·omega
 ·omega
theorem ZmE (a b:Nat):a ^^^ b ^^^ b=a:=by rw[Nat.xor_assoc,Nat.xor_self,Nat.xor_zero]
theorem Sv {n:Int}{key o:Nat}(h1 : -1≤n)(h2:n<16):qG (fZ n key o) key o=some n:=by
 unfold qG fZ;rw[ZmE,if_pos (by omega)]
 congr 1
 omega
theorem PO {key o:Nat}:turned key o<18446744073709551616:=Nat.mod_lt _ (by omega)
theorem EC {n:Int}{key o:Nat}(h2:n<16):fZ n key o<18446744073709551616:=by
 unfold fZ;have:=PO (key:=key) (o:=o);exact Nat.xor_lt_two_pow (n:=64) (by omega) this
theorem Tx {s:Nat}{o:Int}(hs:s<32)(h1 : -1≤o)(h2:o<16):headW (s:Int) o<18446744073709551616:=by
 unfold headW;omega
theorem ED {iu ob:Nat}{f:Bool}(h1:iu≤ob)(h3:ob≤16):dF iu ob f true<18446744073709551616:=by
 have e:dF iu ob f true=iu+256 * ob+(if f then 65536 else 0)+131072:=rfl;rw[e];split<;>omega
theorem ZtG {l:List Nat}(hb:∀ s∈l,s<32)(hl:l.length<64):pw l<18446744073709551616:=by
 cases l with
 |nil=>decide
 |cons a l =>
  have:=hb a ZnJ;simp only[ZxJ]at hl;show qF (a:Int) ((l.length+1:Nat):Int)<_;unfold qF;omega
theorem U1 {l:List Nat}(hb:∀ s∈l,s<32):sw l<18446744073709551616:=by
 cases l with
 |nil=>decide
 |cons a l =>
  have:=hb a ZnJ;show a+1<_;omega
theorem UF {a:Nat}{l:List Nat}:pw (a::l)≠0:=by
 show qF (a:Int) ((l.length+1:Nat):Int)≠0;unfold qF;omega
theorem Li {l:List Nat}(hb:∀ s∈l,s<32)(hl:l.length<64):partOf (pw l)=some (gq l (-1),(l.length:Int)):=by
 cases l with
 |nil=>rfl
 |cons a l=>exact ZjJ (hb a ZnJ) (by omega) hl
theorem Jg {l:List Nat}{f:Int→Int→Out}(hb:∀ s∈l,s<32)(hl:l.length<64):ut (pw l) f=f (gq l (-1)) (l.length:Int):=by
 unfold ut;rw[Li hb hl]
theorem Lh {w:Nat}{a b:Int}{f:Int→Int→Out}(h:sO w=some (a,b)):Dq w f=f a b:=by
 unfold Dq;rw[h]
theorem Zo9 {w:Nat}{a b:Int}{f:Int→Int→Out}(h:partOf w=some (a,b)):ut w f=f a b:=by
 unfold ut;rw[h]
def iO (c:Ch)(mn cp:Nat)(g:List Nat)(t:Tk):Out:=if t.pc<20 then jq c g t else if t.pc<50 then dD c g t else if t.pc<69 then dZ c mn cp g t else bG c mn g t
theorem sU (h:t.pc<20):iO c mn cp g t=jq c g t:=if_pos h
theorem jV (h:20≤t.pc)(h2:t.pc<50):iO c mn cp g t=dD c g t:=by
 unfold iO;rw[if_neg (by omega),if_pos h2]
theorem kZ (h:50≤t.pc)(h2:t.pc<69):iO c mn cp g t=dZ c mn cp g t:=by
 unfold iO;rw[if_neg (by omega),if_neg (by omega),if_pos h2]
theorem iP (h:69≤t.pc):iO c mn cp g t=bG c mn g t:=by
 unfold iO;rw[if_neg (by omega),if_neg (by omega),if_neg (by omega)]
end
end Cv
namespace Cv
open See Cw
section
variable (c:Ch)(st:St)(t:Tk)
def cont (b:Int)(k:Nat):Nat:=if b=73 then 20 else if b=95 then 2 * c.S+12 else if b=79 then 36 * (st.sl (.chain k)).length else 0
def Bf (x:Int):Nat:=if st.hold=some t.aB then (st.sl .shelf).idxOf x.toNat else 0
def shl:Nat:=if st.hold=some t.aB then (st.sl .shelf).length else 0
abbrev AA:Nat:=2 * c.S+c.O+79
def base:Nat:=match t.pc with
 |0=>AA c+51
 |1=>AA c+50
 |2=>AA c+49
 |3=>AA c+48
 |20=>AA c+48
 |21=>AA c+31
 |22=>AA c+30
 |23=>AA c+29
 |24=>AA c+29
 |30=>AA c+4
 |31=>AA c+3
 |32=>AA c+2
 |33=>AA c+1
 |34=>AA c+2
 |35=>AA c+1
 |36=>AA c
 |37=>50
 |38=>49
 |39=>48
 |46=>23
 |47=>22
 |48=>21
 |49=>20
 |40=>19
 |41=>18
 |42=>17
 |43=>if t.want=1 then AA c - 1 else 77+2 * c.S+(c.O - t.many.toNat)
 |44=>77+2 * c.S
 |10=>97
 |11=>96
 |12=>95
 |13=>94
 |50=>95
 |51=>94
 |52=>93
 |53=>92
 |54=>92
 |55=>92
 |56=>91
 |57=>96
 |58=>9+c.S
 |59=>1
 |60=>67
 |61=>66
 |62=>65
 |63=>64
 |64=>8+c.S
 |65=>7+(c.S - Bf st t t.bS)
 |66=>6
 |67=>5
 |68=>4
 |70=>74+c.O
 |71=>73+c.O
 |72=>72+c.O
 |73=>20
 |74=>19
 |75=>18
 |79=>36 * (st.sl (.chain t.aB)).length
 |80=>35+cont c st t.back t.aB+(if t.obj<0 then 0 else c.O)
 |81=>34+cont c st t.back t.aB+(c.O - t.many.toNat)
 |84=>34+cont c st t.back t.aB
 |85=>33+cont c st t.back t.aB
 |86=>32+cont c st t.back t.aB
 |87=>31+cont c st t.back t.aB
 |88=>6+cont c st t.back t.aB
 |90=>5+cont c st t.back t.aB
 |91=>4+cont c st t.back t.aB
 |92=>3+cont c st t.back t.aB
 |93=>2+cont c st t.back t.aB
 |94=>1+cont c st t.back t.aB
 |76=>if t.back=95 then 7 else 3+cont c st t.back t.aB
 |77=>2+cont c st t.back t.aB
 |78=>1+cont c st t.back t.aB
 |95=>2 * c.S+12
 |96=>2 * c.S+11
 |97=>2 * (shl st t - Bf st t t.aA)+10
 |98=>2 * (shl st t - Bf st t t.aA)+9
 |99=>1
 |100=>11
 |101=>10
 |102=>9
 |103=>8
 |_=>0
def pen:Nat :=
 if t.pc=1∨t.pc=2∨t.pc=3∨t.pc=20∨t.pc=11∨t.pc=12∨t.pc=13∨t.pc=42 then (if st.ht t.aB=t.T then 0 else 4)
 else if t.pc=71∨t.pc=72 then (if st.ht t.for_.toNat=t.T then 0 else 4)
 else if t.pc=31∨t.pc=32∨t.pc=33∨t.pc=61∨t.pc=62∨t.pc=63 then (if st.pt t.aB=t.T then 0 else 4)
 else if t.pc=74∨t.pc=75 then (if st.pt t.for_.toNat=t.T then 0 else 4)
 else if t.pc=22∨t.pc=38∨t.pc=51∨t.pc=85 then (if fr st (sn t)=t.F then 0 else 6)
 else if t.pc=23∨t.pc=24∨t.pc=39∨t.pc=52∨t.pc=53∨t.pc=54∨t.pc=55∨t.pc=56∨t.pc=86∨t.pc=87 then (if fr st (sn t)=t.F∧ct c st (sn t)=t.K then 0 else 6)
 else 0
def aF:Nat:=base c st t+pen c st t
def sZ (k:Nat):Nat:=match st.tk k with
 |none=>0
 |some t=>aF c st t
def gY (f:Nat→Nat):Nat→Nat
 |0=>0
 |n+1=>gY f n+f n
def iq (s:Nat):Nat:=if st.lv s=true then 1 else 0
def tV (k:Nat):Nat:=(st.sl (.part k)).length
def gW:Nat:=gY (sZ c st) c.C+47 * gY (tV st) c.C+(2 * c.S+33) * gY (iq st) c.S
end
section
variable {c:Ch}{mn cp:Nat}{st st':St}{k:Nat}{t:Tk}
theorem TV {f f':Nat→Nat}{k q:Nat}:∀ {n:Nat},k<n→(∀ j,j<n→j≠k→f' j≤f j+q)→gY f' n+f k≤gY f n+f' k+(n - 1) * q
 |0,h,_=>by omega
 |n+1,h,hq=>by
  have aux:∀ m,m≤n→k≥m→gY f' m≤gY f m+m * q:=by
   intro m hm hk
   induction m with
   |zero=>simp[gY]
   |succ m ih =>
    have:=ih (by omega) (by omega);have h2:=hq m (by omega) (by omega);simp only[gY,Nat.succ_mul];omega
  by_cases e:k=n
  ·subst e
   have:=aux k (Zxt _) (Zxt _);simp only[gY,Nat.add_sub_cancel];omega
  ·have ih:=TV (f:=f) (f':=f') (k:=k) (q:=q) (n:=n) (by omega) (fun j hj hne=>hq j (by omega) hne)
   have h2:=hq n (by omega) (fun e2=>e e2.symm);have h3:(n+1 - 1) * q=(n - 1) * q+q:=by
    have:n+1 - 1=(n - 1)+1:=(by omega);rw[this,Nat.succ_mul]
   simp only[gY];omega
theorem yc {f f':Nat→Nat}:∀ {n:Nat},(∀ j,j<n→f' j=f j)→gY f' n=gY f n
 |0,_=>rfl
 |n+1,h=>by
  simp only[gY];rw[yc (fun j hj=>h j (by omega)),h n (by omega)]
theorem PW {f f':Nat→Nat}{k:Nat}:∀ {n:Nat},k<n→(∀ j,j≠k→f' j=f j)→gY f' n+f k=gY f n+f' k
 |0,h,_=>by omega
 |n+1,h,hq=>by
  simp only[gY];by_cases e:k=n
  ·subst e
   rw[yc (f:=f) (f':=f') (fun j hj=>hq j (by omega))];omega
  ·have:=PW (f:=f) (f':=f') (k:=k) (n:=n) (by omega) hq
   rw[hq n (fun e2=>e e2.symm)];omega
theorem ZmT (L:Left c k st st')(hc:t.aB=k):base c st' t=base c st t:=by
 have e1:st'.sl (.chain t.aB)=st.sl (.chain t.aB):=by rw[hc];exact L.Bi
 have e2:∀ x,Bf st' t x=Bf st t x:=by
  intro x;unfold Bf;rw[hc];by_cases h:st.hold=some k
  ·obtain⟨h1,_,_,h4,_⟩:=L.lock h
   rw[if_pos h,if_pos h1,h4]
  ·rw[if_neg h,if_neg (fun e=>h (L.hl e))]
 have e3:shl st' t=shl st t:=by
  unfold shl;rw[hc];by_cases h:st.hold=some k
  ·obtain⟨h1,_,_,h4,_⟩:=L.lock h
   rw[if_pos h,if_pos h1,h4]
  ·rw[if_neg h,if_neg (fun e=>h (L.hl e))]
 have e4:cont c st' t.back t.aB=cont c st t.back t.aB:=by
  unfold cont;rw[e1]
 unfold base;simp only[e1,e2,e3,e4]
theorem ZsT (q1 q2 q3:Nat)(h1:q1=0→∀ x,st'.ht x=st.ht x)(h2:q2=0→∀ x,st'.pt x=st.pt x)(h3:q3=0→∀ s,fr st' s=fr st s∧ct c st' s=ct c st s)(hq:(q1=0∨q1=4)∧(q2=0∨q2=4)∧(q3=0∨q3=6)):pen c st' t≤pen c st t+(max q1 (max q2 q3)):=by
 obtain⟨hq1,Ke,hq3⟩:=hq;unfold pen;split
 ·rcases hq1 with rfl|rfl
  ·rw[h1 rfl]
   omega
  ·split<;>split<;>omega
 split
 ·rcases hq1 with rfl|rfl
  ·rw[h1 rfl]
   omega
  ·split<;>split<;>omega
 split
 ·rcases Ke with rfl|rfl
  ·rw[h2 rfl]
   omega
  ·split<;>split<;>omega
 split
 ·rcases Ke with rfl|rfl
  ·rw[h2 rfl]
   omega
  ·split<;>split<;>omega
 split
 ·rcases hq3 with rfl|rfl
  ·rw[(h3 rfl _).1]
   omega
  ·split<;>split<;>omega
 split
 ·rcases hq3 with rfl|rfl
  ·rw[(h3 rfl _).1,(h3 rfl _).2]
   omega
  ·split<;>split<;>omega
 ·omega
theorem YV {q1 q2 q3:Nat}(I:Inv c mn cp st)(L:Left c k st st')(h1:q1=0→∀ x,st'.ht x=st.ht x)(h2:q2=0→∀ x,st'.pt x=st.pt x)(h3:q3=0→∀ s,fr st' s=fr st s∧ct c st' s=ct c st s)(hq:(q1=0∨q1=4)∧(q2=0∨q2=4)∧(q3=0∨q3=6)) :
 sZ c st' k≤sZ c st k+max q1 (max q2 q3):=by
 unfold sZ;rw[L.tk];split
 ·omega
 ·rename_i t ht
  have hc:=(I.loc k t ht).2.aB;unfold aF;rw[ZmT L hc];have:=ZsT (c:=c) (t:=t) (st:=st) (st':=st') q1 q2 q3 h1 h2 h3 hq;omega
theorem LW {q1 q2 q3 p p' l l':Nat}(I:Inv c mn cp st)(hk:k<c.C)(hC:c.C≤5)(hL:∀ j,j≠k→Left c j st st')(h1:q1=0→∀ x,st'.ht x=st.ht x)(h2:q2=0→∀ x,st'.pt x=st.pt x)(h3:q3=0→∀ s,fr st' s=fr st s∧ct c st' s=ct c st s)(hq:(q1=0∨q1=4)∧(q2=0∨q2=4)∧(q3=0∨q3=6))
 (hp:gY (tV st') c.C+p=gY (tV st) c.C+p') (hl:gY (iq st') c.S+l=gY (iq st) c.S+l') (_hl1:l≤1∧l'≤1)
 (IA:sZ c st' k+4 * (max q1 (max q2 q3))+47 * p'+(2 * c.S+33) * l'+1≤sZ c st k+47 * p+(2 * c.S+33) * l):gW c st'+1≤gW c st:=by
 have h:=TV (f:=sZ c st) (f':=sZ c st') (k:=k) (q:=max q1 (max q2 q3)) hk fun j _ hj=>YV I (hL j hj) h1 h2 h3 hq;have h4:(c.C - 1) * max q1 (max q2 q3)≤4 * max q1 (max q2 q3):=ZxR _ (by omega);unfold gW;have e1:47 * gY (tV st') c.C+47 * p=47 * gY (tV st) c.C+47 * p':=by omega
 have e2:(2 * c.S+33) * gY (iq st') c.S+(2 * c.S+33) * l=(2 * c.S+33) * gY (iq st) c.S+(2 * c.S+33) * l':=by
  rw[← Nat.mul_add,← Nat.mul_add,hl]
 omega
end
end Cv
namespace Cv
open See Cw
section
structure Cx (c:Ch)(mn cp:Nat)(st:St)(g:List Nat)(k:Nat)(t:Tk):Prop where
 I:Inv c mn cp st
 E:Enc c st g
 W:xX g
 tk:st.tk k=some t
 C:1≤c.C∧c.C≤5
 S:1≤c.S∧c.S≤32
 O:1≤c.O∧c.O≤16
 cp:cp≤32
 mn:mn≤32
 n:st.n<1000000000
variable {c:Ch}{mn cp:Nat}{st st1 st':St}{g g':List Nat}{k:Nat}{t t':Tk}
def stop (t':Tk):Option Tk:=if t'.fin=0 then some t' else none
def AO (k:Nat)(st st':St)(s:Nat):Prop:=st'.own s=st.own s∨st'.own s = .head k∨st'.own s = .mine k∨st'.own s = .full∧st.own s = .mine k∧st.ol s .first=[]
structure aM (c:Ch)(mn cp:Nat)(st:St)(g:List Nat)(k:Nat)(t:Tk)(t':Tk)(g':List Nat)(st':St):Prop where
 step:iO c mn cp g t=some (t',g')
 E:Enc c st' g'
 W:xX g'
 I:Inv c mn cp st'
 tk:st'.tk=upd st.tk k (stop t')
 fin:t'.fin=0∨t'.fin=1
 job:t'.job=t.job
 n:st'.n≤st.n+1
 ao:t.job=1→∀ s,AO k st st' s
 phi:gW c st'+1≤gW c st∨t'=t∧g'=g∧st'=st∧st.hold≠none∧nE t.pc=false
 out:if t.job=1∧t'.fin=1 then ∃ s o:Nat,t'.aA=(s:Int)∧t'.obj=(o:Int)∧s<c.S∧o<c.O∧st.loc s o≠.out∧∀ x y,st'.loc x y = .out↔st.loc x y = .out∨x=s∧y=o
  else ∀ x y,st'.loc x y = .out↔st.loc x y = .out
theorem Cx.loc (X:Cx c mn cp st g k t):Loc c mn cp st k t:=(X.I.loc k t X.tk).2
theorem Cx.kC (X:Cx c mn cp st g k t):k<c.C:=(X.I.loc k t X.tk).1
theorem At.tick {j:Nat}{x:Option Tk}(h:At c mn cp st k t):At c mn cp (Cv.tick st none none j x) k t:=h
theorem vN {x:Option Tk}(i:Ix):val c (tick st none none k x) i=val c st i:=by cases i<;>rfl
theorem Left.tick {j:Nat}{x:Option Tk}(hj:j≠k):Left c j st (tick st none none k x):=bB.left hj bB.refl rfl rfl
theorem Dh {x:Tk}(h:st.tk k=some x):sZ c st k=aF c st x:=by
 unfold sZ;rw[h]
theorem Inv.go {hx px:Option Nat}(X:Cx c mn cp st g k t)(G1:dH c mn cp st1)(R:∀ j,j≠k→bB c j hx px st st1)(h1:st1.ht=st.ht)(h2:st1.pt=st.pt)(hL:Loc c mn cp (tick st1 hx px k (some t')) k t')
 (hh:st1.hold=some k→nE t'.pc=true∧t'.want=0):Inv c mn cp (tick st1 hx px k (some t')) :=
 X.I.step X.kC (TA G1) (fun j hj=>(R j hj).left hj h1 h2) (.inr ⟨t',upd_same,hL⟩) fun e=>⟨t',upd_same,hh e⟩
theorem Inv.fin {hx px:Option Nat}(X:Cx c mn cp st g k t)(G1:dH c mn cp st1)(R:∀ j,j≠k→bB c j hx px st st1)(h1:st1.ht=st.ht)(h2:st1.pt=st.pt)(hL:Has st1 k [] 0 [] [])
 (hh:st1.hold≠some k):Inv c mn cp (tick st1 hx px k none) :=
 X.I.step X.kC (TA G1) (fun j hj=>(R j hj).left hj h1 h2) (.inl ⟨upd_same,⟨hL.ms,hL.ob,hL.ch⟩⟩) fun e=>absurd e hh
def Zt0 (pc pc':Int):Bool:=pc' != 78&&alloc pc'==alloc pc&&(nE pc'==nE pc||nE pc')
theorem aM.read {pc pc':Int}(X:Cx c mn cp st g k t)(hpc:t.pc=pc)(xG:t'.pc=pc')(uX:Zt0 pc pc'=true)(hs:iO c mn cp g t=some (t',g))(hA:At c mn cp st k t')(ai:t'.aB=t.aB)(aI:t'.fin=t.fin)(jH:t'.job=t.job)(hw:t'.want=0)(IA:aF c st t'+1≤aF c st t):∃ t' g' st',aM c mn cp st g k t t' g' st':=by
 have hl:=X.loc;have hf:t'.fin=0:=aI.trans hl.fin;obtain⟨hp,DV,qN⟩:t'.pc≠78∧alloc t'.pc=alloc t.pc∧(nE t'.pc=nE t.pc∨nE t'.pc=true):=by
  rw[hpc,xG];unfold Zt0 at uX;simpa [and_assoc] using uX
 have aW:stop t'=some t':=if_pos hf;have hI:Inv c mn cp (tick st none none k (some t')):=by
  refine Inv.go X X.I.G (fun j _=>bB.refl) rfl rfl ⟨ai.trans hl.aB,hf,?_,.inl hw,fun e=>absurd e hp,At.tick hA⟩ fun e=>⟨?_,hw⟩
  ·rw[jH,DV]
   exact hl.job
  ·obtain⟨t2,h1,h2,_⟩:=X.I.gL k e
   rw[X.tk]at h1;cases h1;rcases qN with h|h
   ·rw[h]
    exact h2
   ·exact h
 refine⟨t',g,tick st none none k (some t'),hs,X.E.same (fun i _=>vN i),X.W,hI,by rw[aW];rfl,.inl hf,jH,Zxt _,fun _ _=>.inl rfl,.inl ?_,?_⟩
 ·refine LW (q1:=0) (q2:=0) (q3:=0) (p:=0) (p':=0) (l:=0) (l':=0) X.I X.kC X.C.2 (fun j hj=>Left.tick hj) (fun _ _=>rfl) (fun _ _=>rfl) (fun _ _=>⟨rfl,rfl⟩) ⟨.inl rfl,.inl rfl,.inl rfl⟩ rfl rfl ⟨by omega,by omega⟩ ?_
  rw[Dh (upd_same:(tick st none none k (some t')).tk k=some t'),Dh X.tk];have:aF c (tick st none none k (some t')) t'=aF c st t':=rfl;rw[this];omega
 ·rw[if_neg (fun e=>by rw[hf]at e;cases e.2)]
  exact fun _ _=>Iff.rfl
end
end Cv
namespace Cv
open See Cw
section
variable {c:Ch}{mn cp:Nat}{st st1 st':St}{g g':List Nat}{k:Nat}{t t':Tk}
theorem Cx.at_ (X:Cx c mn cp st g k t):At c mn cp st k t:=X.loc.at_
theorem Cx.aB (X:Cx c mn cp st g k t):t.aB=k:=X.loc.aB
theorem Cx.w0 (X:Cx c mn cp st g k t)(h:t.pc≠43)(h2:t.pc≠78):t.want=0:=by
 rcases X.loc.want with h|h|h
 ·exact h
 ·exact absurd h.1 ‹_›
 ·exact absurd h.1 h2
theorem Cx.FU (X:Cx c mn cp st g k t){j:Nat}(h:j<c.C):g[kK j]?=some (hw st j):=X.E.val (.hd j) h
theorem Cx.Eh (X:Cx c mn cp st g k t){j:Nat}(h:j<c.C):g[kK j+1]?=some (st.ht j):=X.E.val (.ht j) h
theorem Cx.Kr (X:Cx c mn cp st g k t){j:Nat}(h:j<c.C):g[nD j]?=some (pw (st.sl (.part j))):=X.E.val (.pd j) h
theorem Cx.Kt (X:Cx c mn cp st g k t){j:Nat}(h:j<c.C):g[nD j+1]?=some (st.pt j):=X.E.val (.pt j) h
theorem Cx.Bg (X:Cx c mn cp st g k t){s o:Nat}(hs:s<c.S)(ho:o<c.O):g[o9 c s o]?=some (st.lk s o):=X.E.val (.lk s o) ⟨hs,ho⟩
theorem Cx.xU (X:Cx c mn cp st g k t){s:Nat}(hs:s<c.S):g[fq c s]?=some (fr st s):=X.E.val (.fr s) hs
theorem Cx.vw (X:Cx c mn cp st g k t){s:Nat}(hs:s<c.S):g[fq c s+1]?=some (ct c st s):=X.E.val (.ct s) hs
theorem Cx.yR (X:Cx c mn cp st g k t){s:Nat}(hs:s<c.S):g[mO c s]?=some (st.nx s):=X.E.val (.nx s) hs
theorem Cx.rlock (X:Cx c mn cp st g k t):g[jc c]?=some (lw st):=X.E.val .lock trivial
theorem Cx.Dm (X:Cx c mn cp st g k t):g[o7 c]?=some (sw (st.sl .shelf)):=X.E.val .shelf trivial
theorem Cx.yD (X:Cx c mn cp st g k t):g[qa c]?=some st.held:=X.E.val .held trivial
theorem dG (h:eu c t):sn t<c.S:=by
 have:=h.1;have:=h.2;unfold sn;omega
theorem qE (h:nC c t):on t<c.O:=by
 have:=h.1;have:=h.2;unfold on;omega
theorem Dt (h:eu c t):t.aA=(sn t:Int):=by
 have:=h.1;unfold sn;omega
theorem UV (h:nC c t):t.obj=(on t:Int):=by
 have:=h.1;unfold on;omega
theorem ru (G:dH c mn cp st){s o:Nat}{x:Ct}(hx:x.listed=true)(h:o∈st.ol s x):s<c.S∧o<c.O:=G.ob s o (by
 rw[(G.om s x hx o).1 h];intro e;rw[e]at hx;cases hx)
theorem nY (G:dH c mn cp st){s:Nat}{x:Own}(hx:x.listed=true)(h:s∈st.sl x):s<c.S:=G.sb s (by
 rw[(G.sm x hx s).1 h];intro e;rw[e]at hx;cases hx)
theorem EL (G:dH c mn cp st){s:Nat}{x:Ct}(hx:x.listed=true)(hO:1≤c.O){l:List Nat}(h:∀ o∈l,o∈st.ol s x):gq l (-1)<c.O:=by
 cases l with
 |nil =>
  show(-1:Int)<c.O;omega
 |cons a l =>
  have:=(ru G hx (h a ZnJ)).2;show(a:Int)<c.O;omega
theorem Ml (G:dH c mn cp st)(s:Nat):fr st s≤c.O:=by
 unfold fr;cases h:st.ol s .first with
 |nil=>exact ZxV _
 |cons a l=>exact(ru G (x:=.first) rfl (by rw[h];exact ZnJ)).2
theorem Zsy {s:Nat}(h:st.ol s .first≠[]):1≤fr st s:=by
 unfold fr;cases h2:st.ol s .first with
 |nil=>exact absurd h2 h
 |cons a l=>exact Nat.succ_le_succ (ZxV _)
theorem Jw (G:dH c mn cp st)(x:Nat):st.sl (.head x)=[]∨∃ s,st.sl (.head x)=[s]:=by
 have:=(G.s1 x).1;cases h:st.sl (.head x) with
 |nil=>exact .inl rfl
 |cons a l =>
  rw[h]at this;simp at this;exact .inr ⟨a,by rw[this]⟩
theorem GD {x:Nat}(h:st.sl (.head x)=[]):hw st x=0:=by
 unfold hw;rw[h]
theorem Qz {x s:Nat}(h:st.sl (.head x)=[s]):hw st x=headW (s:Int) (gq (st.ol s (.head x)) (-1)):=by
 unfold hw;rw[h]
theorem QL (G:dH c mn cp st)(hS:c.S≤32)(hO:c.O≤16)(iB:1≤c.O){x s:Nat}(h:st.sl (.head x)=[s]):sO (hw st x)=some ((s:Int),gq (st.ol s (.head x)) (-1)):=by
 rw[Qz h];have h1:=nY G (x:=.head x) rfl (s:=s) (by rw[h];exact ZnJ);have h2:=EL G (x:=.head x) (s:=s) rfl iB (l:=st.ol s (.head x)) (fun _ h=>h);exact Zjm (by omega) (Dk (by omega)) (by omega)
theorem vL {s:Nat}{f:Bool}(h:st.lv s=true)(hf:st.dh s=f):ct c st s=dF (c.O - (st.ol s .first).length) c.O f true:=by
 unfold ct;rw[if_pos h,hf]
theorem Lr (X:Cx c mn cp st g k t)(x:Nat):(st.sl (.part x)).length<64∧∀ s∈st.sl (.part x),s<32:=by
 have h1:=X.I.G.cap x;have h2:=X.cp;have h3:=X.S;exact⟨by omega,fun s hs=>by
  have:=nY X.I.G (x:=.part x) rfl hs;omega⟩
theorem Gi (G:dH c mn cp st):(st.sl .shelf).length≤c.S:=zP (G.sd .shelf rfl) fun _ hs=>nY G (x:=.shelf) rfl hs
theorem Ji (G:dH c mn cp st){p q:List Nat}{s:Nat}(h:st.sl .shelf=p++s::q):s<c.S:=nY G (x:=.shelf) rfl (by rw[h];simp)
theorem PM (G:dH c mn cp st){s o:Nat}(h:st.loc s o = .aU k)(hm:st.sl (.mine k)=[]):st.lv s=true:=by
 have hb:=G.ob s o (by rw[h];intro e;cases e);have jZ:st.own s≠.dead:=fun e=>by
  have:=(G.live s o hb.1 hb.2).2 e;rw[h]at this;cases this
 cases ho:st.own s with
 |dead=>exact absurd ho jZ
 |full=>exact(G.full s ho).1
 |shelf=>exact(G.shelf s ho).1
 |head x=>exact(G.hpc s x (.inl ho)).1
 |part x=>exact(G.hpc s x (.inr (.inl ho))).1
 |chain x=>exact(G.hpc s x (.inr (.inr ho))).1
 |mine x =>
  cases hl:st.lv s with
  |true=>rfl
  |false =>
   have:=G.making s x ho hl o hb.2;rw[h]at this;cases this;have:=(G.sm (.mine k) rfl s).2 ho;rw[hm]at this;cases this
theorem Jc (G:dH c mn cp st){s:Nat}{l:List Nat}(h:st.ol s (.aU k)=l):l.length+(st.ol s .first).length≤c.O:=by
 have h1:(l++st.ol s .first).Nodup:=by
  refine List.nodup_append.2 ⟨h ▸ G.od s (.aU k) rfl,G.od s .first rfl,?_⟩;intro a ha b hb e;subst e;rw[← h,G.om s _ rfl]at ha;rw[G.om s _ rfl,ha]at hb;cases hb
 have:=zP (n:=c.O) h1 (by
  intro o ho;rcases List.mem_append.1 ho with ho|ho
  ·rw[← h]at ho
   exact(ru G (x:=.aU k) rfl ho).2
  ·exact(ru G (x:=.first) rfl ho).2)
 rw[Zxw]at this;exact this
theorem LC {p q:List Nat}{a:Nat}(h:(p++a::q).Nodup):(p++a::q).idxOf a=p.length:=by
 have h1:=(List.nodup_append.1 h).2.2;rw[List.idxOf_append,if_neg (fun e=>h1 a e a ZnJ rfl)];simp
theorem Has.at_ {ms l ch:List Nat}{s:Nat}(h:Has st k ms s l ch):st.ol s (.aU k)=l:=by rw[h.ob,if_pos rfl]
theorem Mm (G:dH c mn cp st){q:List Nat}(h:∀ s∈q,s∈st.sl .shelf):sw q≤c.S:=by
 cases q with
 |nil=>exact ZxV _
 |cons a q=>exact nY G (x:=.shelf) rfl (h a ZnJ)
theorem ZqV {f:Nat→Nat}{key a:Nat}{e:Int}(h:gy f key [a] e):f a=fZ e key a:=h.1
theorem ZqW {f:Nat→Nat}{key a b:Nat}{l:List Nat}{e:Int}(h:gy f key (a::b::l) e):f a=fZ (b:Int) key a:=h.1
theorem UA {x key o:Nat}{n:Int}(h:x=fZ n key o)(h1 : -1≤n)(h2:n<16):qG x key o=some n:=by
 rw[h];exact Sv h1 h2
theorem Zq8 {w:Nat}{p:Int×Int}(h:partOf w=some p):w<18446744073709551616:=by
 unfold partOf at h;split at h
 ·omega
 ·split at h
  ·omega
  ·cases h
end
end Cv
namespace Cv
open See Cw
section
variable {c:Ch}{mn cp:Nat}{st st1 st':St}{g g':List Nat}{k:Nat}{t t':Tk}
theorem aM.iI {hx px:Option Nat}{pc pc':Int}(X:Cx c mn cp st g k t)(st1:St)(hpc:t.pc=pc)(xG:t'.pc=pc')(uX:alloc pc'=alloc pc)(hs:iO c mn cp g t=some (t',g'))(ai:t'.aB=t.aB)(aI:t'.fin=t.fin)(jH:t'.job=t.job)
 (hw:t'.want=0∧pc'≠78∨pc'=43∧t'.want=1∨pc'=78∧t'.want=2) (G1:dH c mn cp st1) (R:∀ j,j≠k→bB c j hx px st st1) (qm:st1.ht=st.ht) (qx:st1.pt=st.pt) (hn:st1.n=st.n) (dI:st1.tk=st.tk)
 (hA:At c mn cp (tick st1 hx px k (some t')) k t') (hh:st1.hold=some k→nE pc'=true∧t'.want=0) (E:Enc c (tick st1 hx px k (some t')) g') (W:xX g') (phi:gW c (tick st1 hx px k (some t'))+1≤gW c st) (ho:∀ x y,st1.loc x y = .out↔st.loc x y = .out) (VT:t.job=1→∀ s,AO k st st1 s:=by exact fun _ _=>.inl rfl) :
 ∃ t' g' st',aM c mn cp st g k t t' g' st':=by
 have hl:=X.loc;have hf:t'.fin=0:=aI.trans hl.fin;have aW:stop t'=some t':=if_pos hf;refine⟨t',g',tick st1 hx px k (some t'),hs,E,W,?_,?_,.inl hf,jH,?_,VT,.inl phi,?_⟩
 ·refine Inv.go X G1 R qm qx ⟨ai.trans hl.aB,hf,?_,?_,?_,hA⟩ (by rw[xG];exact hh)
  ·rw[jH,xG,uX,← hpc]
   exact hl.job
  ·rw[xG]
   rcases hw with h|h|h
   ·exact .inl h.1
   ·exact .inr (.inl h)
   ·exact .inr (.inr h)
  ·rw[xG]
   intro e;rcases hw with h|h|h
   ·exact absurd e h.2
   ·rw[h.1]at e
    cases e
   ·exact h.2
 ·show upd st1.tk k (some t')=_
  rw[dI,aW]
 ·show st1.n+1≤_
  rw[hn];exact Zxt _
 ·rw[if_neg (fun e=>by rw[hf]at e;cases e.2)]
  exact ho
theorem aM.Dw {hx px:Option Nat}(X:Cx c mn cp st g k t)(st1:St)(hs:iO c mn cp g t=some (t',g'))(aI:t'.fin=1)(jH:t'.job=t.job)(G1:dH c mn cp st1)(R:∀ j,j≠k→bB c j hx px st st1)(qm:st1.ht=st.ht)(qx:st1.pt=st.pt)(hn:st1.n=st.n)(dI:st1.tk=st.tk)
 (hA:Has st1 k [] 0 [] []) (hh:st1.hold≠some k) (E:Enc c (tick st1 hx px k none) g') (W:xX g') (phi:gW c (tick st1 hx px k none)+1≤gW c st)
 (ho:if t.job=1 then ∃ s o:Nat,t'.aA=(s:Int)∧t'.obj=(o:Int)∧s<c.S∧o<c.O∧st.loc s o≠.out∧∀ x y,st1.loc x y = .out↔st.loc x y = .out∨x=s∧y=o else ∀ x y,st1.loc x y = .out↔st.loc x y = .out) (VT:t.job=1→∀ s,AO k st st1 s:=by exact fun _ _=>.inl rfl) :
 ∃ t' g' st',aM c mn cp st g k t t' g' st':=by
 have aW:stop t'=none:=if_neg (by rw[aI];decide);refine⟨t',g',tick st1 hx px k none,hs,E,W,Inv.fin X G1 R qm qx hA hh,?_,.inr aI,jH,?_,VT,.inl phi,?_⟩
 ·show upd st1.tk k none=_
  rw[dI,aW]
 ·show st1.n+1≤_
  rw[hn];exact Zxt _
 ·by_cases hj:t.job=1
  ·rw[if_pos ⟨hj,aI⟩]
   rw[if_pos hj]at ho;exact ho
  ·rw[if_neg (fun e=>hj e.1)]
   rw[if_neg hj]at ho;exact ho
theorem Cx.rC (X:Cx c mn cp st g k t)(h:alloc t.pc=false):t.job≠1:=fun e=>by
 have:=X.loc.job.1 e;rw[h]at this;cases this
theorem Cx.ZtU (X:Cx c mn cp st g k t)(h:alloc t.pc=true):t.job=1:=X.loc.job.2 h
theorem o6 {s x:Nat}{a b y:Ct}{l1 l2:List Nat}(h1:¬(x=s∧y=b))(h2:¬(x=s∧y=a)):(bW st s a b l1 l2).ol x y=st.ol x y:=by
 unfold bW;dsimp only;rw[if_neg h1,if_neg h2]
theorem zu {s:Nat}{a b:Ct}{l1 l2:List Nat}:(bW st s a b l1 l2).ol s b=l1++st.ol s b:=if_pos ⟨rfl,rfl⟩
theorem yw {s:Nat}{a b:Ct}{l1 l2:List Nat}(h:a≠b):(bW st s a b l1 l2).ol s a=l2:=by
 unfold bW;dsimp only;rw[if_neg (fun e=>h e.2),if_pos ⟨rfl,rfl⟩]
theorem kJ {a b y:Own}{l1 l2:List Nat}(h1:y≠b)(h2:y≠a):(di st a b l1 l2).sl y=st.sl y:=by
 unfold di;dsimp only;rw[if_neg h1,if_neg h2]
theorem Dg {a b:Own}{l1 l2:List Nat}:(di st a b l1 l2).sl b=l1++st.sl b:=if_pos rfl
theorem zw {a b:Own}{l1 l2:List Nat}(h:a≠b):(di st a b l1 l2).sl a=l2:=by
 unfold di;dsimp only;rw[if_neg h,if_pos rfl]
theorem Db {s:Nat}(h:st'.ol s .first=st.ol s .first):fr st' s=fr st s:=by
 unfold fr;rw[h]
theorem zA {s:Nat}(h:st'.ol s .first=st.ol s .first)(h1:st'.lv s=st.lv s)(h2:st'.dh s=st.dh s):ct c st' s=ct c st s:=by
 unfold ct;rw[h,h1,h2]
def xg (c:Ch)(st:St):Option Tk→Nat
 |none=>0
 |some t=>aF c st t
theorem L8 {x:Option Tk}(h:st.tk k=x):sZ c st k=xg c st x:=by
 unfold sZ;rw[h];cases x<;>rfl
theorem jX {x:Option Tk}(X:Cx c mn cp st g k t)(R:∀ j,j≠k→bB c j none none st st1)(qm:st1.ht=st.ht)(qx:st1.pt=st.pt)(h1:∀ j,st1.sl (.part j)=st.sl (.part j))(h2:st1.ol=st.ol)(h3:st1.lv=st.lv)(h4:st1.dh=st.dh)
 (hp:xg c (tick st1 none none k x) x+1≤aF c st t):gW c (tick st1 none none k x)+1≤gW c st:=by
 refine LW (q1:=0) (q2:=0) (q3:=0) (p:=0) (p':=0) (l:=0) (l':=0) X.I X.kC X.C.2 (fun j hj=>(R j hj).left hj qm qx) (fun _ y => ?_) (fun _ y => ?_) (fun _ s=>⟨Db ?_,zA ?_ ?_ ?_⟩) ⟨.inl rfl,.inl rfl,.inl rfl⟩ ?_ ?_ ⟨by omega,by omega⟩ ?_
 ·show st1.ht y=_
  rw[qm]
 ·show st1.pt y=_
  rw[qx]
 ·show st1.ol s _=_
  rw[h2]
 ·show st1.ol s _=_
  rw[h2]
 ·show st1.lv s=_
  rw[h3]
 ·show st1.dh s=_
  rw[h4]
 ·rw[yc (f':=tV (tick st1 none none k x)) (f:=tV st)]
  intro j _;show(st1.sl _).length=(st.sl _).length;rw[h1]
 ·rw[yc (f':=iq (tick st1 none none k x)) (f:=iq st)]
  intro j _;show(if st1.lv j=true then 1 else 0)=(if st.lv j=true then 1 else 0);rw[h3]
 ·rw[Dh X.tk]
  rw[L8 (upd_same:(tick st1 none none k x).tk k=x)];omega
theorem EZ {s o x:Nat}{y:Option Tk}(X:Cx c mn cp st g k t)(hs:s<c.S)(ho:o<c.O):Enc c (tick (sS st s o x) none none k y) (g.set (o9 c s o) x):=by
 refine X.E.set (i:=.lk s o) ⟨hs,ho⟩ (fun j _ hj => ?_) ?_
 ·rw[vN]
  cases j with
  |lk s' o' =>
   show(if s'=s∧o'=o then x else st.lk s' o')=st.lk s' o';rw[if_neg];rintro⟨rfl,rfl⟩;exact hj rfl
  |_=>rfl
 ·show(if s=s∧o=o then x else st.lk s o)=x
  rw[if_pos ⟨rfl,rfl⟩]
theorem ZtR {s x:Nat}{y:Option Tk}(X:Cx c mn cp st g k t)(hs:s<c.S):Enc c (tick (yE st s x) none none k y) (g.set (mO c s) x):=by
 refine X.E.set (i:=.nx s) hs (fun j _ hj => ?_) ?_
 ·rw[vN]
  cases j with
  |nx s' =>
   show(if s'=s then x else st.nx s')=st.nx s';rw[if_neg];rintro rfl;exact hj rfl
  |_=>rfl
 ·show(if s=s then x else st.nx s)=x
  rw[if_pos rfl]
theorem uD {h:Option Nat}{y:Option Tk}(X:Cx c mn cp st g k t):Enc c (tick (jG st h) none none k y) (g.set (jc c) (if h.isSome then 1 else 0)):=by
 refine X.E.set (i:=.lock) trivial (fun j _ hj => ?_) rfl;rw[vN];cases j with
 |lock=>exact absurd rfl hj
 |_=>rfl
theorem QN {x:Nat}{y:Option Tk}(X:Cx c mn cp st g k t):Enc c (tick (zG st x) none none k y) (g.set (qa c) x):=by
 refine X.E.set (i:=.held) trivial (fun j _ hj => ?_) rfl;rw[vN];cases j with
 |held=>exact absurd rfl hj
 |_=>rfl
end
end Cv
end Go.Proofs.YtfcpdlbkmkhhcaaGreatDoor
