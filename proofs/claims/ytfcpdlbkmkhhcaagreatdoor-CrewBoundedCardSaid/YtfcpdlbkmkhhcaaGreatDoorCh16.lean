/-
  Texts of this claim, joined. No condition.
-/
import Derived.Test.YtfcpdlbkmkhhcaaGreatDoorCh1
import Derived.Test.YtfcpdlbkmkhhcaaGreatDoorCh15
import Derived.Test.YtfcpdlbkmkhhcaaGreatDoorCh14
import Derived.Test.YtfcpdlbkmkhhcaaGreatDoorCh10
import Derived.Maps.OwnSet
import Derived.Maps.OwnOps
namespace Go.Proofs.YtfcpdlbkmkhhcaaGreatDoor
set_option maxRecDepth 100000
set_option maxHeartbeats 40000000
section
open Go.RowKit
section
variable {W w:World}{m bs:List (Nat×Obj)}{l l':List Int}
theorem ZiC {ops:Array Oper}{o:Oper}{a:Act}{K:Act→World→Prop}{Q:Exit→Act→World→Prop}{E:Prop}(jw:o.guard=none)(s x:Operand)
 (ho:o.op = .call { callee:=.builtin .append,args:=#[s,x],argTypes:=#[25,25] }) {v xv:Value} (oM:a.eval s=v) (hex:a.eval x=xv)
 (hs:lS true v l bs) (hO:Own W (bs++m) w) (hx:jP w xv l') (hlen:l.length+l'.length≤60000)
 (h:∀ v' w' bs',lS true v' (l++l') bs'→Own W (bs'++m) w'→K (a.put o.dst v') w') :
 if Region.wanted o (yielded ops a.tmps)=true then Oper.wp Tryz.prog o a w K Q else E:=by
 obtain⟨i,hi,hz,dn,hb⟩:=Gs ZH;refine Zpo jw s x _ ho oM hex 3 i _ 1 8 Tryz.underlying25 hi hz dn hb rfl (by omega) hs hO hx (ZI l') (by unfold maxLen;omega) (by omega) fun v' w' bs' h1 h2 => ?_;rw[X3,← Zxw]at h1;exact h v' w' bs' h1 h2
end
end
namespace See
open Go.RowKit
open Apart (tF)
open bI (Ok)
attribute [local go_sem ↓] Go.wp_at_zero Go.wp_at_succ
structure sI (c:Ch)(d e:Int):Prop where
 ok:Ok c.C c.S c.O d e
 key:c.key<18446744073709551616
theorem sI.nums {c:Ch}{d e:Int}(h:sI c d e):1≤c.C∧c.C≤8∧1≤c.S∧c.S≤32∧1≤c.O∧c.O≤16:=by
 have:=h.ok;unfold Ok at this;omega
abbrev cV (c:Ch) (d e:Int):Value:=tF c.C c.S c.O d e c.key
abbrev rV (B o N k:Nat) (c:Ch) (d e:Int):Value:=.agg #[.slice (some ⟨B,o,none⟩) N k,.int .i64 c.C,.int .i64 c.S,.int .i64 c.O,.int .i64 d,.int .i64 e,.int .u64 c.key]
theorem Zwe (k s:Nat):keyOf k s<18446744073709551616:=Nat.mod_lt _ (by omega)
section
variable {W w:World}{m:List (Nat×Obj)}{B o N k:Nat}{g:List Nat}{c:Ch}{d e:Int}
theorem Zvj (s:Nat)(hs:s<32)(h:Own W m w):Calls Tryz.prog 71 #[cV c d e,.int .i64 s] w fun r w'=>r = .returned (.int .u64 (keyOf c.key s:Nat))∧Own W m w':=by
 have h1:=h.alloc (.cells #[.int .i64 c.C,.int .i64 c.S,.int .i64 c.O,.int .i64 d,.int .i64 e,.int .u64 c.key] 24);have hv:IntKind.u64.wrap ((c.key:Int)+IntKind.u64.wrap ((s:Int) * 11400714819323198485))=((keyOf c.key s:Nat):Int):=by
  unfold keyOf;rw[IntKind.wrap_u64,IntKind.wrap_u64];omega
 have HV:=ZkQ hv;clear hv;unfold cV tF
 go_enter Tryz.func71,Tryz.ntmps71
 go_wp2_with fail
 go_ret;exact⟨by rw[← HV.out];rfl,h1⟩
structure xY (W:World)(m:List (Nat×Obj))(B o N k:Nat)(g:List Nat)(c:Ch):Prop where
 rd:Rd W m B o g
 len:g.length=N
 n:N=c.words
 CP:xX g
 nk:N≤k
 km:k≤maxLen
theorem xY.more {m':List (Nat×Obj)}(h:xY W m B o N k g c):xY W (m'++m) B o N k g c:=⟨h.rd.more,h.len,h.n,h.CP,h.nk,h.km⟩
theorem Zwv {s:Nat}(hs:s<c.S):s * c.O+c.O≤c.S * c.O:=by
 have:=ZxR c.O (show s+1≤c.S by omega);rw[Nat.succ_mul]at this;exact this
theorem Zwm (h:xY W m B o N k g c){s:Nat}(hs:s<c.S):Rd W m B (o+(4 * c.C+4+4 * c.S+s * c.O)) (links c g s):=fun ws hw j x hj=>by
 have aK:=(List.getElem?_eq_some_iff.1 hj).1;rw[Zvb (h.len.trans h.n) hs]at aK;rw[ZvG (h.len.trans h.n) hs aK]at hj;have hm:=Zwv hs;have hn:=h.len.trans h.n;unfold Ch.words at hn;have hx:g[4 * c.C+4+4 * c.S+s * c.O+j]?=some x:=by
  rw[Zxp (by omega)];unfold at_ at hj;rw[Zxx,Zxp (by omega)]at hj;exact hj
 have:=h.rd ws hw _ x hx;rw[← Nat.add_assoc]at this;exact this
theorem ZvY (h:xY W m B o N k g c)(s:Nat):xX (links c g s):=fun x hx=>by
 unfold links at hx;exact h.CP x (List.mem_of_mem_drop (List.mem_of_mem_take hx))
def iQ (b B o N k:Nat)(c:Ch)(d e:Int):Nat×Obj:=(b,.cells #[.slice (some ⟨B,o,none⟩) N k,.int .i64 c.C,.int .i64 c.S,.int .i64 c.O,.int .i64 d,.int .i64 e,.int .u64 c.key] 87)
theorem iC {b:Nat}(h:Own W (iQ b B o N k c d e::m) w):w.cell? ⟨b,0,none⟩=some (.slice (some ⟨B,o,none⟩) N k)∧w.cell? ⟨b,1,none⟩=some (.int .i64 c.C)∧w.cell? ⟨b,2,none⟩=some (.int .i64 c.S)∧w.cell? ⟨b,3,none⟩=some (.int .i64 c.O)∧w.cell? ⟨b,4,none⟩=some (.int .i64 d)∧w.cell? ⟨b,5,none⟩=some (.int .i64 e)∧w.cell? ⟨b,6,none⟩=some (.int .u64 c.key) :=
 ⟨h.cell ZnJ 0,h.cell ZnJ 1,h.cell ZnJ 2,h.cell ZnJ 3,h.cell ZnJ 4,h.cell ZnJ 5,h.cell ZnJ 6⟩
def ZwH (W:World)(m:List (Nat×Obj))(r:Option (List Int))(e:Ending)(w':World):Prop:=match r with
 |some l=>∃ v bs,e = .returned (.tuple #[v,.bool true])∧Hid (lS true v l bs)∧Own W (bs++m) w'
 |none=>e = .returned (.tuple #[.slice none 0 0,.bool false])∧Own W m w'
theorem Zwg {s:Nat}(hs:s<c.S){i:Int}(h0 : -1≤i)(h1:i<c.O):vT c g s i=walk (Kv (keyOf c.key s)) (links c g s) (c.O+1) [] i:=by
 unfold vT;rw[if_pos ⟨by omega,by omega,h0,h1⟩];rfl
theorem ZvH {s:Nat}{i:Int}(h1:(c.O:Int)≤i):vT c g s i=none:=by
 unfold vT;rw[if_neg (by omega)]
theorem ZuZ (h:Own W m w)(hc:sI c d e)(hw:xY W m B o N k g c)(s:Nat)(hs:s<c.S)(i:Int)(hi : -1≤i) :
 Calls Tryz.prog 53 #[rV B o N k c d e,.int .i64 s,.int .i64 i] w (ZwH W m (vT c g s i)):=by
 obtain⟨n1,n2,n3,n4,n5,n6⟩:=hc.nums;have h1:=h.new (.cells #[.slice (some ⟨B,o,none⟩) N k,.int .i64 c.C,.int .i64 c.S,.int .i64 c.O,.int .i64 d,.int .i64 e,.int .u64 c.key] 87);obtain⟨b,hb⟩:=Zx9 (w.heap.size);rw[hb]at h1;have h1:Own W (iQ b B o N k c d e::m) _:=h1;obtain⟨y0,y1,y2,y3,y4,y5,y6⟩:=iC h1;by_cases Rp:i<c.O
 ·have NV:¬ (c.O:Int)≤i:=by omega
  have hsi:0≤(s:Int)∧(s:Int)<(c.S:Int):=by omega
  have hm:=Zwv hs;have hN:=hw.n;unfold Ch.words at hN;have iF:4 * c.C+4+4 * c.S+s * c.O+c.O≤N:=by omega
  have hnk:=hw.nk;have Wp:=hw.km;have Il:=fun ws (kX:Own W (iQ b B o N k c d e::m) ws)=>ZvI (c:=k - (4 * c.C+4+4 * c.S+s * c.O)) kX ((Zwm hw hs).more (m':=[iQ b B o N k c d e])) (n:=c.O) (Zvb (hw.len.trans hw.n) hs) n6 (ZvY hw s) (by omega) (by omega) (keyOf c.key s) (Zwe _ _) i hi Rp;rw[← Zwg hs hi Rp]at Il;clear hN hm Wp;have HC:=ZkQ hc;have HS:=ZkQ hsi;have HM:=ZkQ hw.rd;obtain⟨p,hp⟩:∃ p:Nat,4 * c.C+4+4 * c.S+s * c.O=p:=⟨_,rfl⟩;have rY:4 * (c.C:Int)+4+4 * (c.S:Int)+(s:Int) * (c.O:Int)+0=(p:Int):=by rw[← hp];push_cast;omega
  have oz:=ZkQ rY;rw[hp]at iF Il;have Oi:s<32:=by omega
  have N9:(0:Int)≤(p:Int):=by omega
  have D9:p≤700:=by
   have:=Nat.mul_le_mul (show s≤32 by omega) n6;omega
  have ve:IntKind.i64.wrap ((p:Int)+(c.O:Int))=(p:Int)+(c.O:Int):=by rw[IntWalk.i64_in]<;>omega
  have jE:(p:Int)≤(p:Int)+(c.O:Int):=by omega
  have mD:(p:Int)+(c.O:Int)≤(N:Int):=by omega
  have WB:(p:Int)+(c.O:Int)≤(k:Int):=by omega
  have qX:Hid (((p:Int)+(c.O:Int)).toNat - p=c.O):=by
   show _=_;omega
  clear hp rY hw hc;obtain⟨R,hR⟩:=Zx9 (vT c g s i);rw[hR]at Il ⊢;clear hR;unfold rV;cases R with
  |none =>
   have HL:=ZkQ Il;clear Il
   go_enter Tryz.func53,Tryz.ntmps53
   go_wp2_with fail
   refine(Apart.UZ HC.out.ok HS.out (k:=0) (by omega) h1).mono ?_;rintro r w2 ⟨rfl,h2⟩;rw[oz.out];clear y0 y1 y2 y3 y4 y5 y6;obtain⟨y0,y1,y2,y3,y4,y5,y6⟩:=iC h2;have H2:=ZkQ h2;clear h1 h2;go_wp2_with fail
   go_region_held3 (fun w'=>w'.cell? ⟨b,0,none⟩=some (.slice (some ⟨B,o,none⟩) N k)∧w'.cell? ⟨b,1,none⟩=some (.int .i64 c.C)∧w'.cell? ⟨b,2,none⟩=some (.int .i64 c.S)∧w'.cell? ⟨b,3,none⟩=some (.int .i64 c.O)∧w'.cell? ⟨b,4,none⟩=some (.int .i64 d)∧w'.cell? ⟨b,5,none⟩=some (.int .i64 e)∧w'.cell? ⟨b,6,none⟩=some (.int .u64 c.key)) (first|(refine⟨?_,?_,?_,?_,?_,?_,?_⟩<;>assumption)|go_keep)
    (first|(go_at_call 71;refine(Zvj s Oi H2.out.drew).mono ?_;rintro r w3 ⟨rfl,h3⟩;obtain⟨y0,y1,y2,y3,y4,y5,y6⟩:=iC h3) |
      (go_at_call 70;rw[qX.out];refine(HL.out _ h3).mono ?_;rintro r w4 ⟨rfl,h4⟩;obtain⟨y0,y1,y2,y3,y4,y5,y6⟩:=iC h4))
   go_wp2_with fail
   go_ret2
   exact⟨rfl,h4.skip⟩
  |some l =>
   have HL:=ZkQ Il;clear Il
   go_enter Tryz.func53,Tryz.ntmps53
   go_wp2_with fail
   refine(Apart.UZ HC.out.ok HS.out (k:=0) (by omega) h1).mono ?_;rintro r w2 ⟨rfl,h2⟩;rw[oz.out];clear y0 y1 y2 y3 y4 y5 y6;obtain⟨y0,y1,y2,y3,y4,y5,y6⟩:=iC h2;have H2:=ZkQ h2;clear h1 h2;go_wp2_with fail
   go_region_held3 (fun w'=>w'.cell? ⟨b,0,none⟩=some (.slice (some ⟨B,o,none⟩) N k)∧w'.cell? ⟨b,1,none⟩=some (.int .i64 c.C)∧w'.cell? ⟨b,2,none⟩=some (.int .i64 c.S)∧w'.cell? ⟨b,3,none⟩=some (.int .i64 c.O)∧w'.cell? ⟨b,4,none⟩=some (.int .i64 d)∧w'.cell? ⟨b,5,none⟩=some (.int .i64 e)∧w'.cell? ⟨b,6,none⟩=some (.int .u64 c.key)) (first|(refine⟨?_,?_,?_,?_,?_,?_,?_⟩<;>assumption)|go_keep)
    (first|(go_at_call 71;refine(Zvj s Oi H2.out.drew).mono ?_;rintro r w3 ⟨rfl,h3⟩;obtain⟨y0,y1,y2,y3,y4,y5,y6⟩:=iC h3) |
      (go_at_call 70;rw[qX.out];refine(HL.out _ h3).mono ?_;rintro r w4 ⟨v4,bs4,rfl,K4,h4⟩;obtain⟨y0,y1,y2,y3,y4,y5,y6⟩:=iC (h4.perm ZxT)))
   go_wp2_with fail
   go_ret2
   exact⟨v4,bs4,rfl,K4,h4.drop1⟩
 ·have NV:(c.O:Int)≤i:=by omega
  rw[ZvH NV];unfold rV
  go_enter Tryz.func53,Tryz.ntmps53
  go_wp2_with fail
  go_ret2
  exact⟨rfl,h1.skip⟩
end
end See
section
open Go.RowKit
open Go.Maps (Keyed)
open Go.ChangeMaps (setBlock modify_eq_set)
structure IM (es:Array MapEntry)(n:Nat)(f:Int→Option Int):Prop where
 size:es.size≤n
 ints:∀ x∈es.toList,∃ k c,x.key = .int .i64 k∧x.val = .int .i64 c∧(Lit.int .i64 k).wf=true
 apart:∀ (i j:Nat) (x y:MapEntry),es.toList[i]?=some x→es.toList[j]?=some y→x.key=y.key→i=j
 fits:∀ k c,f k=some c↔∃ x∈es.toList,x.key = .int .i64 k∧x.val = .int .i64 c
def uE (f:Int→Option Int)(k c:Int):Int→Option Int:=fun j=>if j=k then some c else f j
theorem IM.nil:IM #[] 0 (fun _=>none):=⟨by simp,by simp,by simp,by simp⟩
theorem int_keyed':Keyed Tryz.prog 3:=Go.Maps.int_keyed Tryz.underlying3
theorem keyOf_i64 {k:Int}(hk:(Lit.int .i64 k).wf=true):keyOf Tryz.prog 3 (.int .i64 k)=some (.int .i64 k):=Go.Maps.keyOf_int_mk Tryz.underlying3 hk
section
variable {w:World}{es:Array MapEntry}{ck n b:Nat}{f:Int→Option Int}
theorem IM.GC (h:IM es n f):∀ e∈es.toList,∃ l,keyOf Tryz.prog 3 e.key=some l:=fun e he=>by
 obtain⟨k,c,hk,-,hw⟩:=h.ints e he;exact⟨_,by rw[hk];exact keyOf_i64 hw⟩
theorem IM.Qj (h:IM es n f){k:Int}(hk:∀ e∈es.toList,e.key≠.int .i64 k):f k=none:=by
 cases hf:f k with
 |none=>rfl
 |some c =>
  obtain⟨x,hx,h1,-⟩:=(h.fits k c).1 hf;exact absurd h1 (hk x hx)
theorem ZmA (h:IM es n f)(hb:w.heap[b]?=some (.map es ck))(_hn:n<maxLen){k:Int}(hk:(Lit.int .i64 k).wf=true)(c:Int) :
 ∃ es' bO,(Instr.mapUpdate 98 (.map (some b)) (.int .i64 k) (.int .i64 c)).run Tryz.prog w = .ok () (setBlock w b (.map es' bO))∧IM es' (n+1) (uE f k c):=by
 have aV:=keyOf_i64 hk;have K:=int_keyed';rcases K.find w aV es.toList h.GC with⟨h1,h2⟩|⟨j,e0,h1,h2,h3⟩
 ·refine⟨es.push ⟨.int .i64 k,.int .i64 c,ck⟩,ck+1,?_,⟨by have:=h.size;simp;omega,?_,?_,?_⟩⟩
  ·simp[Instr.mapUpdate,run_underlying Tryz.underlying98,MapKept.run_getObj_map hb,K.check w false aV,h1,MapKept.run_setObj_map _ hb,Result.andThen,setBlock]
  ·intro x hx
   simp only[Array.toList_push,ZxQ,ZxE]at hx;rcases hx with hx|rfl
   ·exact h.ints x hx
   ·exact⟨k,c,rfl,rfl,hk⟩
  ·intro i j x y hx hy sG
   rw[Array.toList_push,List.getElem?_append]at hx hy;split at hx<;>split at hy
   ·exact h.apart i j x y hx hy sG
   ·have:y=⟨.int .i64 k,.int .i64 c,ck⟩:=by
     rw[List.getElem?_singleton]at hy;split at hy<;>simp_all
    subst this;exact absurd sG (h2 x (Zxz hx))
   ·have:x=⟨.int .i64 k,.int .i64 c,ck⟩:=by
     rw[List.getElem?_singleton]at hx;split at hx<;>simp_all
    subst this;exact absurd sG.symm (h2 y (Zxz hy))
   ·rw[List.getElem?_singleton]at hx hy
    split at hx<;>split at hy<;>first|omega|simp_all
  ·intro q d
   simp only[Array.toList_push,ZxQ,ZxE,uE];by_cases hq:q=k
   ·subst hq
    rw[if_pos rfl];constructor
    ·intro hd
     simp only[ZlP]at hd;subst hd;exact⟨_,.inr rfl,rfl,rfl⟩
    ·rintro⟨x,hx|rfl,e1,e2⟩
     ·exact absurd e1 (h2 x hx)
     ·simp only[Value.int.injEq,true_and]at e2
      rw[e2]
   ·rw[if_neg hq,h.fits q d]
    constructor
    ·rintro⟨x,hx,e1,e2⟩
     exact⟨x,.inl hx,e1,e2⟩
    ·rintro⟨x,hx|rfl,e1,e2⟩
     ·exact⟨x,hx,e1,e2⟩
     ·simp only[Value.int.injEq,true_and]at e1
      exact absurd e1.symm hq
 ·have hj:es[j]?=some e0:=by simpa using h2
  have Ah:j<es.toList.length:=(List.getElem?_eq_some_iff.1 h2).1;have jI:(es.modify j (fun e'=>{ e' with key:=.int .i64 k,val:=.int .i64 c })).toList=es.toList.set j { e0 with key:=.int .i64 k,val:=.int .i64 c }:=by rw[Array.toList_modify,modify_eq_set _ _ _ _ h2]
  have oO:∀ i,(es.toList.set j { e0 with key:=.int .i64 k,val:=.int .i64 c })[i]?=if i=j then some { e0 with key:=.int .i64 k,val:=.int .i64 c } else es.toList[i]?:=fun i=>by
   rw[List.getElem?_set];by_cases uT:j=i
   ·subst uT;rw[if_pos rfl,if_pos rfl,if_pos Ah]
   ·rw[if_neg uT,if_neg (fun e=>uT e.symm)]
  have bY:∀ x,x∈es.toList.set j { e0 with key:=.int .i64 k,val:=.int .i64 c }↔x={ e0 with key:=.int .i64 k,val:=.int .i64 c }∨(x∈es.toList∧x.key≠.int .i64 k):=fun x=>by
   constructor
   ·intro hx
    obtain⟨i,hi⟩:=List.getElem?_of_mem hx;rw[oO]at hi;split at hi
    ·exact .inl (ZxZ hi).symm
    ·rename_i uT
     exact .inr ⟨Zxz hi,fun e=>uT (h.apart i j x e0 hi h2 (e.trans h3.symm))⟩
   ·rintro(rfl|⟨hx,hne⟩)
    ·exact List.mem_iff_getElem?.2 ⟨j,by rw[oO,if_pos rfl]⟩
    ·obtain⟨i,hi⟩:=List.getElem?_of_mem hx
     refine List.mem_iff_getElem?.2 ⟨i,?_⟩;rw[oO,if_neg,hi];rintro rfl;rw[h2]at hi;cases hi;exact hne h3
  refine⟨es.modify j (fun e'=>{ e' with key:=.int .i64 k,val:=.int .i64 c }),ck,?_,⟨by have:=h.size;simp;omega,?_,?_,?_⟩⟩
  ·simp[Instr.mapUpdate,run_underlying Tryz.underlying98,MapKept.run_getObj_map hb,K.check w false aV,h1,hj,h3,K.stays w aV,MapKept.run_setObj_map _ hb,Result.andThen,setBlock]
  ·intro x hx
   rw[jI]at hx;rcases(bY x).1 hx with rfl|⟨hx,-⟩
   ·exact⟨k,c,rfl,rfl,hk⟩
   ·exact h.ints x hx
  ·intro i i' x y hx hy sG
   rw[jI,oO]at hx hy;split at hx<;>split at hy
   ·omega
   ·cases hx
    rename_i h5 h6;exact absurd (h.apart i' j y e0 hy h2 (sG.symm.trans h3.symm)) h6
   ·cases hy
    rename_i h5 h6;exact absurd (h.apart i j x e0 hx h2 (sG.trans h3.symm)) h5
   ·exact h.apart i i' x y hx hy sG
  ·intro q d
   rw[jI];simp only[uE];by_cases hq:q=k
   ·subst hq
    rw[if_pos rfl];constructor
    ·intro hd
     simp only[ZlP]at hd;subst hd;exact⟨_,(bY _).2 (.inl rfl),rfl,rfl⟩
    ·rintro⟨x,hx,e1,e2⟩
     rcases(bY x).1 hx with rfl|⟨-,hne⟩
     ·simp only[Value.int.injEq,true_and]at e2
      rw[e2]
     ·exact absurd e1 hne
   ·rw[if_neg hq,h.fits q d]
    constructor
    ·rintro⟨x,hx,e1,e2⟩
     exact⟨x,(bY x).2 (.inr ⟨hx,by rw[e1];intro he;simp only[Value.int.injEq,true_and]at he;exact hq he⟩),e1,e2⟩
    ·rintro⟨x,hx,e1,e2⟩
     rcases(bY x).1 hx with rfl|⟨hx,-⟩
     ·simp only[Value.int.injEq,true_and]at e1
      exact absurd e1.symm hq
     ·exact⟨x,hx,e1,e2⟩
end
section
variable {W w:World}{m:List (Nat×Obj)}{b:Nat}{o:Obj}{es:Array MapEntry}{ck:Nat}
theorem Own.Uz (h:Own W ((b,.map es ck)::m) w)(es':Array MapEntry)(bO:Nat):Own W ((b,.map es' bO)::m) (setBlock w b (.map es' bO)):=by
 have hg:=h.get (ZnJ);have eD:=h.ge (ZnJ);have aK:=yj hg;have nR:∀ k,k≠b→(setBlock w b (.map es' bO)).heap[k]?=w.heap[k]?:=fun k hk=>by
  simp only[setBlock];rw[Array.getElem?_setIfInBounds,if_neg (fun e=>hk e.symm)]
 have hb:=h.below;refine⟨⟨hb.os,hb.tape,hb.output,by simpa [setBlock] using hb.size,fun k hk => ?_⟩,fun p hm => ?_,h.nd⟩
 ·rw[nR k (by omega)];exact hb.block k hk
 ·rcases List.mem_cons.1 hm with rfl|hm
  ·exact⟨eD,by simp[setBlock,aK]⟩
  ·exact⟨(h.at_ p (ZnQ _ hm)).1,(nR p.1 (Own.ne h (b':=p.1) (o':=p.2) hm)).trans (h.at_ p (ZnQ _ hm)).2⟩
end
section
variable {W w:World}{M:List (Nat×Obj)}{es:Array MapEntry}{ck n b:Nat}{f:Int→Option Int}
variable {ops:Array Oper}{rest:List Oper}{o:Oper}{a:Act}{Q:Exit→Act→World→Prop}
theorem Eu (hg:o.guard=none)(m x v:Operand)(dX:o.op=Op.mapUpdate 98 m x v){k c:Int}(hm:a.eval m = .map (some b))(hx:a.eval x = .int .i64 k)(hv:a.eval v = .int .i64 c)
 (h:IM es n f) (hO:Own W ((b,.map es ck)::M) w) (hn:n<maxLen) (hk:(Lit.int .i64 k).wf=true)
 (hK:∀ es' bO w',IM es' (n+1) (uE f k c)→Own W ((b,.map es' bO)::M) w'→wpList Tryz.prog ops Q rest (a.put o.dst undef) w'):wpList Tryz.prog ops Q (o::rest) a w:=by
 refine wpList_plain hg fun K' hK' => ?_;obtain⟨es',bO,aO,h1⟩:=ZmA h (hO.get ZnJ) hn hk c;unfold Oper.wp;simp[execOp,dX,hm,hx,hv,aO,Result.andThen];exact hK' _ _ (hK es' bO _ h1 (hO.Uz es' bO))
end
end
namespace See
open Go.RowKit
open bI (Ok)
attribute [local go_sem ↓] Go.wp_at_zero Go.wp_at_succ
section
variable {W w:World}{M m:List (Nat×Obj)}{B o N k b ck n:Nat}{g:List Nat}{c:Ch}{d e:Int}{es:Array MapEntry}{f:Int→Option Int}
theorem ZvK (h:IM es n f)(hb:w.heap[b]?=some (.map es ck)){k:Int}(hk:(Lit.int .i64 k).wf=true) :
 (Instr.lookup 98 (.map (some b)) (.int .i64 k) false).run Tryz.prog w = .ok (.int .i64 ((f k).getD 0)) w:=by
 have aV:=keyOf_i64 hk;have K:=int_keyed';rcases K.find w aV es.toList h.GC with⟨h1,h2⟩|⟨j,e0,h1,h2,h3⟩
 ·have hf:=h.Qj h2
  simp[Instr.lookup,run_underlying Tryz.underlying98,MapKept.run_getObj_map hb,K.check w _ aV,h1,Result.andThen,hf]
 ·have hm:=Zxz h2
  obtain⟨k',c,e1,e2,-⟩:=h.ints e0 hm;have hf:f k=some c:=(h.fits k c).2 ⟨e0,hm,h3,e2⟩;simp[Instr.lookup,run_underlying Tryz.underlying98,MapKept.run_getObj_map hb,K.check w _ aV,h1,Result.andThen,hf,e2]
theorem JQ {ops:Array Oper}{rest:List Oper}{o:Oper}{a:Act}{Q:Exit→Act→World→Prop}(hg:o.guard=none)(m x:Operand)(dX:o.op=Op.lookup 98 m x false){k:Int}(hm:a.eval m = .map (some b))(hx:a.eval x = .int .i64 k)
 (h:IM es n f) (hb:w.heap[b]?=some (.map es ck)) (hk:(Lit.int .i64 k).wf=true)
 (hK:wpList Tryz.prog ops Q rest (a.put o.dst (.int .i64 ((f k).getD 0))) w):wpList Tryz.prog ops Q (o::rest) a w:=by
 refine wpList_plain hg fun K' hK' => ?_;unfold Oper.wp;simp[execOp,dX,hm,hx,ZvK h hb hk,Result.andThen];exact hK' _ _ hK
def seen (out:List Int):Int→Option Int:=fun s=>if s∈out then some 1 else none
theorem Zvn (out:List Int)(s:Int):uE (seen out) s 1=seen (out++[s]):=by
 funext j
 unfold uE seen;by_cases hj:j=s
 ·subst hj;simp
 ·by_cases ho:j∈out<;>simp[hj,ho]
theorem Zvm:seen []=fun _=>none:=by
 funext j
 simp[seen]
theorem Zvo {out:List Int}{s:Int}(h:s∈out):(seen out s).getD 0=1:=by simp[seen,h]
theorem ZvT {out:List Int}{s:Int}(h:s∉out):(seen out s).getD 0=0:=by simp[seen,h]
def Zwu (r:Option Int)(e:Ending):Prop:=match r with
 |some s=>e = .returned (.tuple #[.int .i64 s,.bool true])
 |none=>∃ v:Int,e = .returned (.tuple #[.int .i64 v,.bool false])
def xR (w:Nat):Option Int:=(partOf w).map (·.1)
theorem Zwi (x:Nat)(hx:x<18446744073709551616)(w:World):Calls Tryz.prog 54 #[.int .u64 x] w fun e w'=>Zwu (xR x) e∧w=w':=by
 have hp:=fun w=>Tf x hx w;unfold Mo at hp;unfold xR;clear hx;cases hc:partOf x with
 |none =>
  rw[hc]at hp;have HP:=ZkQ hp;clear hp hc
  go_enter Tryz.func54,Tryz.ntmps54
  go_wp2_with (go_at_call 72;refine(HP.out _).mono ?_;rintro e w' ⟨rfl,rfl⟩)
  go_ret2
  exact⟨⟨_,rfl⟩,rfl⟩
 |some q =>
  obtain⟨s,n⟩:=q;rw[hc]at hp;have HP:=ZkQ hp;clear hp hc
  go_enter Tryz.func54,Tryz.ntmps54
  go_wp2_with (go_at_call 72;refine(HP.out _).mono ?_;rintro e w' ⟨rfl,rfl⟩)
  go_ret2
  exact⟨rfl,rfl⟩
theorem ZwK {w:Nat}{s:Int}(h:xR w=some s) : -1≤s∧s<32:=by
 unfold xR partOf at h;split at h
 ·simp at h;omega
 ·split at h
  ·simp at h;omega
  ·cases h
theorem ZwL {w:Nat}{s:Int}(h:yI w=some s) : -1≤s∧s<32:=by
 unfold yI at h;split at h
 ·simp at h;omega
 ·cases h
theorem Zwj (x:Nat)(hx:x<18446744073709551616)(w:World):Calls Tryz.prog 37 #[.int .u64 x] w fun e w'=>Zwu (yI x) e∧w=w':=by
 unfold yI;by_cases hc:x≤32
 ·rw[if_pos hc]
  have VZ:decide ((x:Int)≤32)=true:=Zx8 (by omega);clear hx
  go_enter Tryz.func37,Tryz.ntmps37
  go_wp2_with fail
  go_ret2
  exact⟨rfl,rfl⟩
 ·rw[if_neg hc]
  have VZ:decide ((x:Int)≤32)=false:=Zx7 (by omega);clear hx
  go_enter Tryz.func37,Tryz.ntmps37
  go_wp2_with fail
  go_ret2
  exact⟨⟨_,rfl⟩,rfl⟩
def Zwt (W:World)(m:List (Nat×Obj))(r:Option (List Int))(e:Ending)(w':World):Prop:=match r with
 |some l=>∃ v bs,e = .returned (.tuple #[v,.bool true])∧Hid (lS true v l bs)∧Own W (bs++m) w'
 |none=>e = .returned (.tuple #[.slice none 0 0,.bool false])∧Own W m w'
theorem QW (h:Own W m w)(hc:sI c d e)(hw:xY W m B o N k g c)(x0:Nat)(dw:x0<18446744073709551616) :
 Calls Tryz.prog 35 #[rV B o N k c d e,.int .u64 x0,.func (.func 54) #[] #[]] w (Zwt W m (chain xR (nI c g) c.S (c.S+1) [] x0)):=by
 obtain⟨n1,n2,n3,n4,n5,n6⟩:=hc.nums;have h1:=(h.new (.cells #[.slice (some ⟨B,o,none⟩) N k,.int .i64 c.C,.int .i64 c.S,.int .i64 c.O,.int .i64 d,.int .i64 e,.int .u64 c.key] 87)).new (.map #[] 0);obtain⟨b,hb⟩:=Zx9 (w.heap.size);simp only[World.size_alloc]at h1;rw[hb]at h1;have h1:Own W ((b+1,.map #[] 0)::(iQ b B o N k c d e::m)) _:=h1;obtain⟨R,hR⟩:=Zx9 (chain xR (nI c g) c.S (c.S+1) [] x0);have HR:=ZkQ hR;have HC:=ZkQ hc;have HW:=ZkQ hw;have HX0:=ZkQ dw;have Cu:IM #[] 0 (seen []):=by rw[Zvm];exact IM.nil
 have lI:=ZkQ Cu;rw[hR];clear hR hc dw Cu hw;have pO:=fun w:World=>run_makeMap (P:=Tryz.prog) 98 w;unfold rV
 go_enter Tryz.func35,Tryz.ntmps35
 go_wp2_with fail
 clear pO;obtain⟨wa,eQ⟩:=Zx9 ((w.alloc (.cells #[.slice (some ⟨B,o,none⟩) N k,.int .i64 c.C,.int .i64 c.S,.int .i64 c.O,.int .i64 d,.int .i64 e,.int .u64 c.key] 87)).alloc (.map #[] 0));rw[eQ]at h1 ⊢;have H1:=ZkQ h1;clear h1 eQ h hb
 go_loopw [1,6] (fun xv ov wr=>∃ (x:Nat) (out:List Int) (bs:List (Nat×Obj)) (es:Array MapEntry) (ck:Nat),xv = .int .u64 x∧Hid (x<18446744073709551616)∧Hid (out.Nodup∧∀ y∈out,0≤y∧y<c.S)∧Hid (chain xR (nI c g) c.S (c.S+1 - out.length) out x=R)∧Hid (lS true ov out bs)∧Hid (IM es out.length (seen out))∧Own W ((b+1,.map es ck)::(bs++(iQ b B o N k c d e::m))) wr) (fun _ ov _=>33 - JR ov)
 case atStart=>exact⟨x0,[],[],#[],0,rfl,HX0,⟨List.nodup_nil,fun x hx=>(by simp at hx)⟩,HR,gI.nil _ _ _,lI,H1.out⟩
 case round =>
  clear H1 HR HX0 lI;obtain⟨x,out,bs,es,ck,rfl,HX,oZ,xV,HO,lI,hr⟩:=hrel;obtain⟨A8,c8,hv,-,-⟩:=HO.out.slice;subst hv;have Af:=few oZ.out.1 oZ.out.2;obtain⟨z,hz⟩:=Zx9 (out.length);have HZ:=ZkQ hz;rw[hz]at Af;have hO2:lS true (.slice A8 z c8) out bs:=by have:=HO.out;rw[hz]at this;exact this
  have CS:=ZkQ hO2;have j3:=fun w=>Zwi x HX.out w;have hk:=xV.out;rw[hz,show c.S+1 - z=(c.S - z)+1 by omega]at hk;unfold chain at hk;rw[hz];have HRW:=ZkQ hr;have u6:=(hr.skip.perm ZxT);obtain⟨y0,y1,y2,y3,y4,y5,y6⟩:=iC u6;clear hO2 xV hz;cases hs:xR x with
  |none =>
   rw[hs]at j3 hk;have wL:=ZkQ j3;have ku:=ZkQ hk;clear j3 hk hs u6;go_wp2_with (go_at_call 54;refine(wL.out _).mono ?_;rintro e w5 ⟨⟨v5,rfl⟩,rfl⟩)
   go_ret2
   rw[← ku.out];exact⟨rfl,hr.skip.bD.skip⟩
  |some s =>
   rw[hs]at j3 hk;simp only at hk;have wL:=ZkQ j3;obtain⟨s0,s1⟩:=ZwK hs;clear j3 hs;by_cases hS:(c.S:Int)≤s
   ·rw[if_pos (.inl hS)]at hk
    have ku:=ZkQ hk;clear hk u6;go_wp2_with (go_at_call 54;refine(wL.out _).mono ?_;rintro e w5 ⟨rfl,rfl⟩)
    go_ret2
    rw[← ku.out];exact⟨rfl,hr.skip.bD.skip⟩
   ·have hSn:¬ (c.S:Int)≤s:=hS
    have lG:(Lit.int .i64 s).wf=true:=(by simp[Lit.wf,IntKind.min,IntKind.max,IntKind.signed,IntKind.bits];omega);have jh:=ZkQ lG;have kN:=hr.get ZnJ;clear lG;by_cases ja:s∈out
    ·rw[if_pos (.inr ja)]at hk
     have ku:=ZkQ hk;have oN:=Zvo ja;clear hk u6;go_wp2_with (first|(go_at_call 54;refine(wL.out _).mono ?_;rintro e w5 ⟨rfl,rfl⟩)|(at_lookup;refine JQ rfl _ _ rfl rfl rfl lI.out kN jh.out ?_;rw[oN]))
     go_ret2
     rw[← ku.out];exact⟨rfl,hr.skip.bD.skip⟩
    ·rw[if_neg (by intro hh;exact hh.elim hS ja)]at hk
     have oN:=ZvT ja;by_cases qO:s = -1
     ·rw[if_pos qO]at hk
      subst qO;have ku:=ZkQ hk;clear hk u6;go_wp2_with (first|(go_at_call 54;refine(wL.out _).mono ?_;rintro e w5 ⟨rfl,rfl⟩)|(at_lookup;refine JQ rfl _ _ rfl rfl rfl lI.out kN jh.out ?_;rw[oN]))
      go_ret2
      rw[← ku.out];exact⟨_,bs,rfl,CS,hr.skip.drop1⟩
     ·rw[if_neg qO]at hk
      have IG:(s == -1)=false:=beq_eq_false_iff_ne.2 qO;obtain⟨j,rfl⟩:∃ j:Nat,s=j:=⟨s.toNat,by omega⟩;have Wn:j<c.S:=(by omega);have uU:0≤(j:Int)∧(j:Int)<(c.S:Int):=(by omega);have HJ:=ZkQ uU;have hN:=HW.out.n;unfold Ch.words at hN;have D9:4 * c.C+4+4 * j+2<N:=(by omega);obtain⟨p,hp⟩:∃ p:Nat,4 * c.C+4+4 * j+2=p:=⟨_,rfl⟩;have rY:4 * (c.C:Int)+4+4 * (j:Int)+2=(p:Int):=(by omega);have oz:=ZkQ rY;rw[hp]at D9;have N9:(0:Int)≤(p:Int):=(by omega);have jE:(p:Int)<(N:Int):=(by omega);obtain⟨x',AU⟩:∃ x',g[p]?=some x':=⟨_,Zxp (by rw[HW.out.len];exact D9)⟩;have Ao:nI c g (j:Int)=x':=by
       unfold nI at_;rw[Zx2,hp,Zxx,AU];rfl
      rw[Ao]at hk;have Sc:Hid (x'<18446744073709551616):=HW.out.CP x' (Zxz AU);have KQ:=ZkQ AU;have aK:=Vq oZ.out.1 oZ.out.2 uU.1 uU.2 ja;rw[HZ.out]at aK;have ze:Hid ((out++[(j:Int)]).Nodup∧∀ y∈out++[(j:Int)],0≤y∧y<c.S):=by
       refine⟨List.nodup_append.2 ⟨oZ.out.1,by simp,fun a ha b hb he => ?_⟩,fun y hy => ?_⟩
       ·simp at hb
        subst hb;subst he;exact ja ha
       ·rcases List.mem_append.1 hy with hy|hy
        ·exact oZ.out.2 y hy
        ·simp at hy
         subst hy;exact uU
      have ku:Hid (chain xR (nI c g) c.S (c.S+1 - (out++[(j:Int)]).length) (out++[(j:Int)]) x'=R):=by
       show _=_;rw[Zxw,HZ.out,Zx5,show c.S+1 - (z+1)=c.S - z by omega];exact hk
      have HLEN:Hid (out.length+[(j:Int)].length≤60000):=by
       show _≤_;rw[HZ.out];simp;omega
      have RN:Hid (out.length<maxLen):=by
       show _<_;rw[HZ.out];unfold maxLen;omega
      clear hk hN hp rY AU Ao u6
      go_wp2_with (first|(go_at_call 54;refine(wL.out _).mono ?_;rintro e w5 ⟨rfl,rfl⟩)|(at_lookup;refine JQ rfl _ _ rfl rfl rfl lI.out kN jh.out ?_;rw[oN]) |
       (at_mapUpdate;refine Eu rfl _ _ _ rfl rfl rfl rfl lI.out HRW.out RN.out jh.out ?_;intro es' bO w' k1 k2;rw[Zvn]at k1;have K1:=ZkQ k1;have H2:=ZkQ ((k2.perm List.perm_middle.symm).alloc (.cells #[.int .i64 (j:Int)] 3));have ni:=ZkQ (QE w' (j:Int));clear k1 k2 y0 y1 y2 y3 y4 y5 y6 kN) |
       (at_builtin;refine LQ rfl _ _ rfl rfl rfl CS.out H2.out ni.out HLEN.out ?_;intro v' w' bs' q1 q2 q3;have Q1:=ZkQ q1;have Q2:=ZkQ q2;obtain⟨y0,y1,y2,y3,y4,y5,y6⟩:=iC q2.bD.skip;have cx:=HW.out.rd _ q2.bD.skip.skip p x' KQ.out;clear q1 q2 q3))
      go_region_held3 (fun w'=>w'.cell? ⟨b,0,none⟩=some (.slice (some ⟨B,o,none⟩) N k)∧w'.cell? ⟨b,1,none⟩=some (.int .i64 c.C)∧w'.cell? ⟨b,2,none⟩=some (.int .i64 c.S)∧w'.cell? ⟨b,3,none⟩=some (.int .i64 c.O)∧w'.cell? ⟨b,4,none⟩=some (.int .i64 d)∧w'.cell? ⟨b,5,none⟩=some (.int .i64 e)∧w'.cell? ⟨b,6,none⟩=some (.int .u64 c.key)∧w'.cell? ⟨B,o+p,none⟩=some (.int .u64 (x':Int))) (first|(refine⟨?_,?_,?_,?_,?_,?_,?_,?_⟩<;>assumption)|go_keep)
       (first|(go_at_call 55;refine(Apart.ZvJ HC.out.ok HJ.out Q2.out.drew).mono ?_;rintro r w6 ⟨rfl,h6⟩;rw[oz.out];obtain⟨y0,y1,y2,y3,y4,y5,y6⟩:=iC h6.bD.skip;have cx:=HW.out.rd _ h6.bD.skip.skip p x' KQ.out))
      go_wp2_with fail
      obtain⟨A9,c9,yN,-,-⟩:=Q1.out.slice;rw[Zxw,HZ.out,Zx5]at yN;refine⟨⟨x',_,bs',es',bO,rfl,Sc,ze,ku,Q1,?_,?_⟩,?_⟩
      ·show IM es' (out++[(j:Int)]).length _
       rw[Zxw,Zx5];exact K1.out
      ·exact h6.perm ZxT
      ·rw[yN]
       simp[JR];omega
theorem Zwl (h:Own W m w)(hc:sI c d e)(hw:xY W m B o N k g c)(x0:Nat)(dw:x0<18446744073709551616) :
 Calls Tryz.prog 35 #[rV B o N k c d e,.int .u64 x0,.func (.func 37) #[] #[]] w (Zwt W m (chain yI (nI c g) c.S (c.S+1) [] x0)):=by
 obtain⟨n1,n2,n3,n4,n5,n6⟩:=hc.nums;have h1:=(h.new (.cells #[.slice (some ⟨B,o,none⟩) N k,.int .i64 c.C,.int .i64 c.S,.int .i64 c.O,.int .i64 d,.int .i64 e,.int .u64 c.key] 87)).new (.map #[] 0);obtain⟨b,hb⟩:=Zx9 (w.heap.size);simp only[World.size_alloc]at h1;rw[hb]at h1;have h1:Own W ((b+1,.map #[] 0)::(iQ b B o N k c d e::m)) _:=h1;obtain⟨R,hR⟩:=Zx9 (chain yI (nI c g) c.S (c.S+1) [] x0);have HR:=ZkQ hR;have HC:=ZkQ hc;have HW:=ZkQ hw;have HX0:=ZkQ dw;have Cu:IM #[] 0 (seen []):=by rw[Zvm];exact IM.nil
 have lI:=ZkQ Cu;rw[hR];clear hR hc dw Cu hw;have pO:=fun w:World=>run_makeMap (P:=Tryz.prog) 98 w;unfold rV
 go_enter Tryz.func35,Tryz.ntmps35
 go_wp2_with fail
 clear pO;obtain⟨wa,eQ⟩:=Zx9 ((w.alloc (.cells #[.slice (some ⟨B,o,none⟩) N k,.int .i64 c.C,.int .i64 c.S,.int .i64 c.O,.int .i64 d,.int .i64 e,.int .u64 c.key] 87)).alloc (.map #[] 0));rw[eQ]at h1 ⊢;have H1:=ZkQ h1;clear h1 eQ h hb
 go_loopw [1,6] (fun xv ov wr=>∃ (x:Nat) (out:List Int) (bs:List (Nat×Obj)) (es:Array MapEntry) (ck:Nat),xv = .int .u64 x∧Hid (x<18446744073709551616)∧Hid (out.Nodup∧∀ y∈out,0≤y∧y<c.S)∧Hid (chain yI (nI c g) c.S (c.S+1 - out.length) out x=R)∧Hid (lS true ov out bs)∧Hid (IM es out.length (seen out))∧Own W ((b+1,.map es ck)::(bs++(iQ b B o N k c d e::m))) wr) (fun _ ov _=>33 - JR ov)
 case atStart=>exact⟨x0,[],[],#[],0,rfl,HX0,⟨List.nodup_nil,fun x hx=>(by simp at hx)⟩,HR,gI.nil _ _ _,lI,H1.out⟩
 case round =>
  clear H1 HR HX0 lI;obtain⟨x,out,bs,es,ck,rfl,HX,oZ,xV,HO,lI,hr⟩:=hrel;obtain⟨A8,c8,hv,-,-⟩:=HO.out.slice;subst hv;have Af:=few oZ.out.1 oZ.out.2;obtain⟨z,hz⟩:=Zx9 (out.length);have HZ:=ZkQ hz;rw[hz]at Af;have hO2:lS true (.slice A8 z c8) out bs:=by have:=HO.out;rw[hz]at this;exact this
  have CS:=ZkQ hO2;have j3:=fun w=>Zwj x HX.out w;have hk:=xV.out;rw[hz,show c.S+1 - z=(c.S - z)+1 by omega]at hk;unfold chain at hk;rw[hz];have HRW:=ZkQ hr;have u6:=(hr.skip.perm ZxT);obtain⟨y0,y1,y2,y3,y4,y5,y6⟩:=iC u6;clear hO2 xV hz;cases hs:yI x with
  |none =>
   rw[hs]at j3 hk;have wL:=ZkQ j3;have ku:=ZkQ hk;clear j3 hk hs u6;go_wp2_with (go_at_call 37;refine(wL.out _).mono ?_;rintro e w5 ⟨⟨v5,rfl⟩,rfl⟩)
   go_ret2
   rw[← ku.out];exact⟨rfl,hr.skip.bD.skip⟩
  |some s =>
   rw[hs]at j3 hk;simp only at hk;have wL:=ZkQ j3;obtain⟨s0,s1⟩:=ZwL hs;clear j3 hs;by_cases hS:(c.S:Int)≤s
   ·rw[if_pos (.inl hS)]at hk
    have ku:=ZkQ hk;clear hk u6;go_wp2_with (go_at_call 37;refine(wL.out _).mono ?_;rintro e w5 ⟨rfl,rfl⟩)
    go_ret2
    rw[← ku.out];exact⟨rfl,hr.skip.bD.skip⟩
   ·have hSn:¬ (c.S:Int)≤s:=hS
    have lG:(Lit.int .i64 s).wf=true:=(by simp[Lit.wf,IntKind.min,IntKind.max,IntKind.signed,IntKind.bits];omega);have jh:=ZkQ lG;have kN:=hr.get ZnJ;clear lG;by_cases ja:s∈out
    ·rw[if_pos (.inr ja)]at hk
     have ku:=ZkQ hk;have oN:=Zvo ja;clear hk u6;go_wp2_with (first|(go_at_call 37;refine(wL.out _).mono ?_;rintro e w5 ⟨rfl,rfl⟩)|(at_lookup;refine JQ rfl _ _ rfl rfl rfl lI.out kN jh.out ?_;rw[oN]))
     go_ret2
     rw[← ku.out];exact⟨rfl,hr.skip.bD.skip⟩
    ·rw[if_neg (by intro hh;exact hh.elim hS ja)]at hk
     have oN:=ZvT ja;by_cases qO:s = -1
     ·rw[if_pos qO]at hk
      subst qO;have ku:=ZkQ hk;clear hk u6;go_wp2_with (first|(go_at_call 37;refine(wL.out _).mono ?_;rintro e w5 ⟨rfl,rfl⟩)|(at_lookup;refine JQ rfl _ _ rfl rfl rfl lI.out kN jh.out ?_;rw[oN]))
      go_ret2
      rw[← ku.out];exact⟨_,bs,rfl,CS,hr.skip.drop1⟩
     ·rw[if_neg qO]at hk
      have IG:(s == -1)=false:=beq_eq_false_iff_ne.2 qO;obtain⟨j,rfl⟩:∃ j:Nat,s=j:=⟨s.toNat,by omega⟩;have Wn:j<c.S:=(by omega);have uU:0≤(j:Int)∧(j:Int)<(c.S:Int):=(by omega);have HJ:=ZkQ uU;have hN:=HW.out.n;unfold Ch.words at hN;have D9:4 * c.C+4+4 * j+2<N:=(by omega);obtain⟨p,hp⟩:∃ p:Nat,4 * c.C+4+4 * j+2=p:=⟨_,rfl⟩;have rY:4 * (c.C:Int)+4+4 * (j:Int)+2=(p:Int):=(by omega);have oz:=ZkQ rY;rw[hp]at D9;have N9:(0:Int)≤(p:Int):=(by omega);have jE:(p:Int)<(N:Int):=(by omega);obtain⟨x',AU⟩:∃ x',g[p]?=some x':=⟨_,Zxp (by rw[HW.out.len];exact D9)⟩;have Ao:nI c g (j:Int)=x':=by
       unfold nI at_;rw[Zx2,hp,Zxx,AU];rfl
      rw[Ao]at hk;have Sc:Hid (x'<18446744073709551616):=HW.out.CP x' (Zxz AU);have KQ:=ZkQ AU;have aK:=Vq oZ.out.1 oZ.out.2 uU.1 uU.2 ja;rw[HZ.out]at aK;have ze:Hid ((out++[(j:Int)]).Nodup∧∀ y∈out++[(j:Int)],0≤y∧y<c.S):=by
       refine⟨List.nodup_append.2 ⟨oZ.out.1,by simp,fun a ha b hb he => ?_⟩,fun y hy => ?_⟩
       ·simp at hb
        subst hb;subst he;exact ja ha
       ·rcases List.mem_append.1 hy with hy|hy
        ·exact oZ.out.2 y hy
        ·simp at hy
         subst hy;exact uU
      have ku:Hid (chain yI (nI c g) c.S (c.S+1 - (out++[(j:Int)]).length) (out++[(j:Int)]) x'=R):=by
       show _=_;rw[Zxw,HZ.out,Zx5,show c.S+1 - (z+1)=c.S - z by omega];exact hk
      have HLEN:Hid (out.length+[(j:Int)].length≤60000):=by
       show _≤_;rw[HZ.out];simp;omega
      have RN:Hid (out.length<maxLen):=by
       show _<_;rw[HZ.out];unfold maxLen;omega
      clear hk hN hp rY AU Ao u6
      go_wp2_with (first|(go_at_call 37;refine(wL.out _).mono ?_;rintro e w5 ⟨rfl,rfl⟩)|(at_lookup;refine JQ rfl _ _ rfl rfl rfl lI.out kN jh.out ?_;rw[oN]) |
       (at_mapUpdate;refine Eu rfl _ _ _ rfl rfl rfl rfl lI.out HRW.out RN.out jh.out ?_;intro es' bO w' k1 k2;rw[Zvn]at k1;have K1:=ZkQ k1;have H2:=ZkQ ((k2.perm List.perm_middle.symm).alloc (.cells #[.int .i64 (j:Int)] 3));have ni:=ZkQ (QE w' (j:Int));clear k1 k2 y0 y1 y2 y3 y4 y5 y6 kN) |
       (at_builtin;refine LQ rfl _ _ rfl rfl rfl CS.out H2.out ni.out HLEN.out ?_;intro v' w' bs' q1 q2 q3;have Q1:=ZkQ q1;have Q2:=ZkQ q2;obtain⟨y0,y1,y2,y3,y4,y5,y6⟩:=iC q2.bD.skip;have cx:=HW.out.rd _ q2.bD.skip.skip p x' KQ.out;clear q1 q2 q3))
      go_region_held3 (fun w'=>w'.cell? ⟨b,0,none⟩=some (.slice (some ⟨B,o,none⟩) N k)∧w'.cell? ⟨b,1,none⟩=some (.int .i64 c.C)∧w'.cell? ⟨b,2,none⟩=some (.int .i64 c.S)∧w'.cell? ⟨b,3,none⟩=some (.int .i64 c.O)∧w'.cell? ⟨b,4,none⟩=some (.int .i64 d)∧w'.cell? ⟨b,5,none⟩=some (.int .i64 e)∧w'.cell? ⟨b,6,none⟩=some (.int .u64 c.key)∧w'.cell? ⟨B,o+p,none⟩=some (.int .u64 (x':Int))) (first|(refine⟨?_,?_,?_,?_,?_,?_,?_,?_⟩<;>assumption)|go_keep)
       (first|(go_at_call 55;refine(Apart.ZvJ HC.out.ok HJ.out Q2.out.drew).mono ?_;rintro r w6 ⟨rfl,h6⟩;rw[oz.out];obtain⟨y0,y1,y2,y3,y4,y5,y6⟩:=iC h6.bD.skip;have cx:=HW.out.rd _ h6.bD.skip.skip p x' KQ.out))
      go_wp2_with fail
      obtain⟨A9,c9,yN,-,-⟩:=Q1.out.slice;rw[Zxw,HZ.out,Zx5]at yN;refine⟨⟨x',_,bs',es',bO,rfl,Sc,ze,ku,Q1,?_,?_⟩,?_⟩
      ·show IM es' (out++[(j:Int)]).length _
       rw[Zxw,Zx5];exact K1.out
      ·exact h6.perm ZxT
      ·rw[yN]
       simp[JR];omega
end
end See
end Go.Proofs.YtfcpdlbkmkhhcaaGreatDoor
