/-
  Texts of this claim, joined. No condition.
-/
import Derived.Test.YtfcpdlbkmkhhcaaGreatDoorCh1
import Derived.Test.YtfcpdlbkmkhhcaaGreatDoorCh45
import Derived.Test.YtfcpdlbkmkhhcaaGreatDoorCh46
namespace Go.Proofs.YtfcpdlbkmkhhcaaGreatDoor
set_option maxRecDepth 100000
set_option maxHeartbeats 40000000
namespace Cw
open Go Mem See
open Go.RowKit
section
def Be (P:List Nat):List Value:=(List.range 32).map fun x=>.int .i64 ((P.count x:Nat):Int)
theorem Vx (P:List Nat):(Be P).length=32:=by simp[Be]
theorem Vw {P:List Nat}{x:Nat}(h:x<32):(Be P)[x]?=some (.int .i64 ((P.count x:Nat):Int)):=by simp[Be,h]
theorem Zxj {P:List Nat}{x:Nat}(h:x<32):(Be P).set x (.int .i64 ((P.count x+1:Nat):Int))=Be (P++[x]):=by
 apply List.ext_getElem?;intro i;rw[List.getElem?_set];by_cases hi:i<32
 ·rw[Vw hi,Vw hi,Vx,ZxO,List.count_singleton]
  by_cases e:x=i
  ·subst e
   simp[h]
  ·rw[if_neg e,if_neg (by simpa using e),Nat.add_zero]
 ·rw[if_neg (by omega),List.getElem?_eq_none (by rw[Vx];omega),List.getElem?_eq_none (by rw[Vx];omega)]
def xS (b:Nat)(P:List Nat):Nat×Obj:=(b,.cells (Be P).toArray 53)
theorem Zxl:(Tryz.prog.info? 53).map (fun i=>(i.zero,i.size,i.bytes))=some (some (.agg (Array.replicate 32 (.int .i64 0))),32,256):=by kernel_rfl
theorem Zxi:Array.replicate 32 (Value.int .i64 0)=(Be []).toArray:=by
 apply Array.ext
 ·simp[Be]
 ·intro i h1 h2
  simp[Be]
variable {W w:World}{m:List (Nat×Obj)}{b:Nat}{P:List Nat}
theorem QZ (h:Own W (xS b P::m) w):(∀ x,x<32→w.cell? ⟨b,x,Option.none⟩=some (.int .i64 ((P.count x:Nat):Int)))∧∀ i,w.frozen? ⟨b,i,Option.none⟩=false :=
 ⟨fun x hx=>by rw[h.cell (b:=b) ZnJ x,Zx3];exact Vw hx,fun i=>h.frozen ZnJ i⟩
theorem Vt (h:Own W (xS b P::m) w){x:Nat}(hx:x<32):Own W (xS b (P++[x])::m) (w.setCell ⟨b,x,Option.none⟩ (.int .i64 ((P.count x+1:Nat):Int))):=by
 have:=h.set x (.int .i64 ((P.count x+1:Nat):Int));rw[ZnK,Zxj hx]at this;exact this
variable {c:Ch}{mn cp:Nat}{st:Cv.St}{g:List Nat}
def yS (st:Cv.St)(k:Nat):List Nat:=st.sl (.head k)++st.sl (.part k)
def iw (st:Cv.St)(k j:Nat):List Nat:=(List.range k).flatMap (yS st)++(yS st k).take j
def qU (c:Ch)(st:Cv.St)(i:Nat):List Nat:=(List.range c.C).flatMap (yS st)++(st.sl .shelf).take i
theorem Q3 {k j s:Nat}(h:(yS st k)[j]?=some s):iw st k (j+1)=iw st k j++[s]:=by
 unfold iw;rw[List.take_add_one,ZxG,h];rfl
theorem Zw7 {k j:Nat}(h:(yS st k).length≤j):iw st k j=iw st (k+1) 0:=by
 unfold iw;rw[List.range_succ,List.flatMap_append,List.take_zero,ZxP,List.take_of_length_le h];simp
theorem Zxh:iw st c.C 0=qU c st 0:=by
 unfold iw qU;simp
theorem Zxk {i s:Nat}(h:(st.sl .shelf)[i]?=some s):qU c st (i+1)=qU c st i++[s]:=by
 unfold qU;rw[List.take_add_one,ZxG,h];rfl
theorem Vs:qU c st (st.sl .shelf).length=Cv.uG c st:=by
 unfold qU Cv.uG;rw[List.take_length];rfl
theorem Vv:(iw st c.C 0).length=Cv.MJ c st:=by
 unfold iw Cv.MJ;rw[List.take_zero,ZxP,Cv.Qk];exact Cv.yc fun j _=>Zxw
theorem Zw8 {i:Nat}:(qU c st i).Sublist (Cv.uG c st):=by
 unfold qU Cv.uG;exact List.Sublist.append_left (List.take_sublist _ _) _
theorem ML {k j:Nat}(hk:k<c.C):(iw st k j).Sublist (Cv.uG c st):=by
 have h1:(iw st k j).Sublist (iw st (k+1) 0):=by
  rw[← Zw7 (Zxt _)];unfold iw;rw[List.take_length];exact List.Sublist.append_left (List.take_sublist _ _) _
 have h2:(iw st (k+1) 0).Sublist (qU c st 0):=by
  obtain⟨d,hd⟩:∃ d,c.C=(k+1)+d:=⟨c.C - (k+1),by omega⟩;unfold iw qU;rw[List.take_zero,ZxP,List.take_zero,ZxP,hd,show List.range (k+1+d)=List.range (k+1)++(List.range d).map (k+1+·) from List.range_add,List.flatMap_append];exact List.sublist_append_left _ _
 exact(h1.trans h2).trans Zw8
theorem Zw2 (G:Cv.dH c mn cp st)(k:Nat):((Cv.mh st k).aA = -1∧st.sl (.head k)=[]∨∃ s:Nat,(Cv.mh st k).aA=(s:Int)∧st.sl (.head k)=[s])∧(Cv.mh st k).parts.length=(st.sl (.part k)).length∧(st.sl (.part k)).length≤cp∧∀ j s:Nat,(st.sl (.part k))[j]?=some s→(Cv.mh st k).parts[j]?=some (s:Int):=by
 refine⟨?_,by simp[Cv.mh,Cv.ints],G.cap k,fun j s h=>by simp[Cv.mh,Cv.ints,h]⟩;rcases Cv.Jw G k with h|⟨s,h⟩
 ·exact .inl ⟨by simp[Cv.mh,h,Cv.gq],h⟩
 ·exact .inr ⟨s,by simp[Cv.mh,h,Cv.gq],h⟩
def emp (c:Ch)(st:Cv.St)(s:Nat):Bool:=st.lv s&&(List.range c.O).all fun o=>decide (st.loc s o≠.out)
def zR (c:Ch)(st:Cv.St)(s:Nat):List Nat:=(List.range s).filter (emp c st)
theorem Zxd {s:Nat}:(zR c st (s+1)).length=(zR c st s).length+(if emp c st s=true then 1 else 0):=by
 unfold zR;rw[List.range_succ,List.filter_append,Zxw];cases h:emp c st s<;>simp[h]
theorem Zxg {s:Nat}:(zR c st s).length≤s:=by
 have:=List.length_filter_le (emp c st) (List.range s);rw[List.length_range]at this;exact this
theorem Zxc (Q:Cv.Quiet c mn cp st g):(zR c st c.S).length≤Cv.MJ c st+mn:=by
 refine Cv.Zw5 Q (List.nodup_range.filter _) fun s hs => ?_;have:=(List.mem_filter.1 hs).2;unfold emp at this;simp only[Zxu,List.all_eq_true,ZxW,decide_eq_true_eq]at this;exact this
theorem Zxe (Q:Cv.Quiet c mn cp st g){s:Nat}(h:s∈Cv.uG c st):s<c.S:=by
 obtain⟨h1,h2⟩:=Cv.JS Q s;have h3:=List.count_pos_iff.2 h;exact Q.Z.I.G.sb s (Q.live.1 (h2 (by omega)))
theorem MK (Q:Cv.Quiet c mn cp st g):(Cv.uG c st).length≤c.S :=
 Cv.zP (List.nodup_iff_count.2 fun s=>(Cv.JS Q s).1) fun _ h=>Zxe Q h
def Cm (out:Nat→Bool)(s i:Nat):Bool:=(List.range i).any fun o=>out (16 * s+o)
theorem Zxb {out:Nat→Bool}{s i:Nat}:Cm out s (i+1)=(Cm out s i||out (16 * s+i)):=by
 unfold Cm;rw[List.range_succ,List.any_append];simp
theorem Zxm {out:Nat→Bool}{s:Nat}(hO:c.O≤16)(h:∀ s o,o<16→(out (16 * s+o)=true↔st.loc s o = .out)):emp c st s=(st.lv s && !Cm out s c.O):=by
 unfold emp Cm
 congr 1
 rw[List.all_eq_not_any_not]
 congr 1
 have e:∀ o∈List.range c.O,(!decide (st.loc s o≠.out))=out (16 * s+o):=fun o ho=>by
  have:=h s o (by have:=List.mem_range.1 ho;omega);cases hx:out (16 * s+o) with
  |true=>simp[this.1 hx]
  |false =>
   have hn:st.loc s o≠.out:=fun e=>(by rw[this.2 e]at hx;cases hx);simp[hn]
 rw[Bool.eq_iff_iff,List.any_eq_true,List.any_eq_true];exact⟨fun ⟨o,ho,h⟩=>⟨o,ho,by rw[← e o ho];exact h⟩,fun ⟨o,ho,h⟩=>⟨o,ho,by rw[e o ho];exact h⟩⟩
end
end Cw
namespace Cw
open Go Mem See
open Go.RowKit
attribute [local go_sem ↓] Go.wp_at_zero Go.wp_at_succ
section
variable {W w:World}{m:List (Nat×Obj)}{a0 a1 a2 a3 a4:Int}{key:Nat}{jv qv:Value}{aj picks:List Int}
theorem ZwS:Ex.iA Tryz.prog 47=some 4:=by kernel_rfl
def Vz (b:Nat)(x y:Int)(f l:Bool):Nat×Obj:=(b,.cells #[.int .i64 x,.int .i64 y,.bool f,.bool l] 47)
theorem Zxf {b:Nat}{x y:Int}{f v:Bool}{l:List (Nat×Obj)}(h:Own W (Vz b x y f v::l) w):w.cell? ⟨b,3,Option.none⟩=some (.bool v):=h.cell (b:=b) ZnJ 3
theorem ZwW {g o:Nat}{x y:Int}{f l:Bool}(p0:w.cell? ⟨g,o,Option.none⟩=some (.int .i64 x))(p1:w.cell? ⟨g,o+1,Option.none⟩=some (.int .i64 y))(p2:w.cell? ⟨g,o+2,Option.none⟩=some (.bool f))(p3:w.cell? ⟨g,o+3,Option.none⟩=some (.bool l)) :
 (Instr.loadAt 47 (.pointer (some ⟨g,o,Option.none⟩))).run Tryz.prog w = .ok (.agg #[.int .i64 x,.int .i64 y,.bool f,.bool l]) w:=by
 refine run_loadAt_mid (P:=Tryz.prog) w g o 47 [.int .i64 x,.int .i64 y,.bool f,.bool l] _ (fun j z hz => ?_) Tryz.underlying47 rfl (by rw[Ex.K8 ZwS];rfl)
 match j,hz with
 |0,hz=>cases hz;exact p0
 |1,hz=>cases hz;exact p1
 |2,hz=>cases hz;exact p2
 |3,hz=>cases hz;exact p3
 |j+4,hz=>simp at hz
theorem ZwV (hT:Ex.jR aJ.gs W)(hj:jP W jv aj)(hq:jP W qv picks)(FO:∀ j∈aj,(Lit.int .i64 j).wf=true)(yP:∀ j∈picks,(Lit.int .i64 j).wf=true)(aV:key<18446744073709551616)
 (w0:(Lit.int .i64 a0).wf=true) (w1:(Lit.int .i64 a1).wf=true) (w2:(Lit.int .i64 a2).wf=true) (w3:(Lit.int .i64 a3).wf=true) (w4:(Lit.int .i64 a4).wf=true) :
 Calls Tryz.prog 5 #[QM a0 a1 a2 a3 a4 key jv qv] W fun e w'=>e = .returned (.bool true)∧Own W [] w':=by
 have h:=Own.self W;obtain⟨A1,K1,rfl⟩:=BG hj;obtain⟨A2,K2,rfl⟩:=BG hq;have h1:=h.new (lu 0 a0 a1 a2 a3 a4 key (.slice A1 aj.length K1) (.slice A2 picks.length K2)).2;obtain⟨B,hB⟩:=Zx9 (W.heap.size);rw[hB]at h1;have h1:Own W [lu B a0 a1 a2 a3 a4 key (.slice A1 aj.length K1) (.slice A2 picks.length K2)] _:=h1;obtain⟨wa,eQ⟩:=Zx9 (W.alloc (lu 0 a0 a1 a2 a3 a4 key (.slice A1 aj.length K1) (.slice A2 picks.length K2)).2);rw[eQ]at h1;unfold lu at eQ;have H1:=ZkQ h1;have yZ:=ZkQ (Yf h1 hT hj hq FO yP aV w0 w1 w2 w3 w4);have HT:=ZkQ hT;clear h h1 hj hq FO yP hT w0 w1 w2 w3 w4;have eF:=ZkQ (UT (a0:=a0) (a1:=a1) (a2:=a2) (key:=key));have KD:Hid ((tQ a0 a1 a2 key).key<18446744073709551616):=aV;clear aV;obtain⟨c,hc⟩:=Zx9 (tQ a0 a1 a2 key);rw[hc]at eF yZ KD;clear hc;unfold QM
 go_enter Tryz.func5,Tryz.ntmps5
 go_wp2_with (first
  |(refine qC (t:=27) (old:=#[.int .i64 a0,.int .i64 a1,.int .i64 a2,.int .i64 a3,.int .i64 a4,.int .u64 (key:Int),.slice A1 aj.length K1,.slice A2 picks.length K2]) rfl _ rfl rfl Tryz.underlying27 H1.out Znz ?_))
 refine yZ.out.mono ?_;rintro e w2 ⟨br,rfl,hv⟩;obtain⟨mn,bP⟩:=Zx9 (Cv.eZ a3 3);obtain⟨cp,bN⟩:=Zx9 (Cv.eZ a4 3);have KG:Hid (mn<3):=by rw[← bP];exact ZkQ (Cv.ul (by omega))
 rw[bP,bN]at hv;obtain⟨bc,b0,b1,bt,cnt,n,N,pv,pb,r,st,Hg,hNb,aI,hR⟩:=hv.ex;have Q:Cv.Quiet c mn cp st r.g:=Cv.quiet_of Hg.I fun k hk=>(aI k hk).1;have HQ:=ZkQ Q;have HI:=ZkQ Hg.I;obtain⟨⟨y0,-⟩,-,-⟩:=hR.box;obtain⟨es,ck,-,h2⟩:=hR.o;have h3:Own W (aY bc b0 bt c mn cp::mB b0 b1 r.g.length cnt::wB b1 r.g::gJ br bc c mn cp (.slice A1 aj.length K1) r.next r.out pv r.none true::((bt,.map es ck)::(pb++[lu B a0 a1 a2 a3 a4 key (.slice A1 aj.length K1) (.slice A2 picks.length K2)]))) w2:=h2.perm (fO fun _ q=>by simp only[Zxv,ZxO];omega);have HS:=ZkQ (ZvA h3 (MH Q.Z KD.out) (EO Q.Z).1 (EO Q.Z).2.2 Q.Z.W (Cv.ZwE Q.Z));clear h2 h3 hR Hg hNb aI hv eQ hB bP bN H1 yZ Q;go_wp2_with fail
 refine HS.out.mono ?_;rintro e w3 ⟨v,bs,rfl,Fp,h3⟩;obtain⟨A0,B1,B2,c0,c1,c2,Ls,Ll,rfl,P1⟩:=Zvs Fp.out;have HP:=ZkQ P1;have mW:(Cv.jl c st).slots.length=c.C:=by simp[Cv.jl]
 have jT:(Cv.jl c st).mQ.length=c.S:=by simp[Cv.jl]
 have qN:(Cv.jl c st).nE=false:=by
  show st.hold.isSome=false;rw[HQ.out.hold];rfl
 obtain⟨n1,mr⟩:∃ n,(Cv.jl c st).shelf.length=n:=⟨_,rfl⟩;rw[mW,mr,jT,qN];have Xt:=ZkQ mr;have h4:=h3.new (.cells #[.slice Option.none 0 0,.slice Option.none 0 0,.bool false,.slice Option.none 0 0] 41);obtain⟨B4,hB4⟩:∃ B,w3.heap.size=B:=⟨_,rfl⟩;rw[hB4]at h4;have H4:=ZkQ h4;have I9:Hid (∀ u∈(#[.slice A0 c.C c0,.slice B1 n1 c1,.bool false,.slice B2 c.S c2]:Array Value).toList,u.oneCell'=true):=by
  intro u hu;simp only[ZxF,List.not_mem_nil,or_false]at hu;rcases hu with rfl|rfl|rfl|rfl<;>rfl
 clear P1 Fp h3 h4 HS y0 mW mr jT qN;obtain⟨ia,xw,Xc,_,_⟩:=Gs Zxl
 go_wp2_with (first
  |(refine jm (t:=41) (new:=#[.slice A0 c.C c0,.slice B1 n1 c1,.bool false,.slice B2 c.S c2]) rfl _ _ rfl rfl rfl Zvz H4.out rfl I9.out ?_;intro w5 hS;have H5:Hid (Own W (lV B4 A0 B1 B2 c0 c1 c2 c.C n1 c.S false::(bs++(aY bc b0 bt c mn cp::mB b0 b1 r.g.length cnt::wB b1 r.g::gJ br bc c mn cp (.slice A1 aj.length K1) r.next r.out pv r.none true::((bt,.map es ck)::(pb++[lu B a0 a1 a2 a3 a4 key (.slice A1 aj.length K1) (.slice A2 picks.length K2)]))))) w5):=hS;clear hS hB4 H4;obtain⟨M,h7⟩:∃ M,Own W (lV B4 A0 B1 B2 c0 c1 c2 c.C n1 c.S false::gJ br bc c mn cp (.slice A1 aj.length K1) r.next r.out pv r.none true::(bs++M)) w5:=⟨_,H5.out.perm (m':=lV B4 A0 B1 B2 c0 c1 c2 c.C n1 c.S false::gJ br bc c mn cp (.slice A1 aj.length K1) r.next r.out pv r.none true::(bs++(aY bc b0 bt c mn cp::mB b0 b1 r.g.length cnt::wB b1 r.g::((bt,.map es ck)::(pb++[lu B a0 a1 a2 a3 a4 key (.slice A1 aj.length K1) (.slice A2 picks.length K2)]))))) (fO fun _ q=>by simp only[Zxv,ZxO];omega)⟩;have H7:=ZkQ h7;clear H5 h7;obtain⟨y0,y1,y2,y3⟩:=xh H7.out;obtain⟨⟨x0,x1,-⟩,-,-⟩:=BN H7.out.skip)
  |(refine Zvx (by rfl) 53 (by rfl) _ _ xw Xc ?_)
  |(go_quiet (fail);have H8:=ZkQ (H7.out.drewN nq);clear H7 y0 y1 y2 y3 x0 x1;generalize w5.drewN nq=w5 at H8 ⊢))
 have h9:=H8.out.new (.cells (Array.replicate 32 (.int .i64 0)) 53);obtain⟨bd,M4⟩:∃ b,w5.heap.size=b:=⟨_,rfl⟩;rw[M4]at h9 ⊢;rw[Zxi]at h9 ⊢;obtain⟨w6,OA⟩:=Zx9 (w5.alloc (.cells (Be []).toArray 53));rw[OA]at h9 ⊢;have h9:Own W (xS bd (iw st 0 0)::lV B4 A0 B1 B2 c0 c1 c2 c.C n1 c.S false::gJ br bc c mn cp (.slice A1 aj.length K1) r.next r.out pv r.none true::(bs++M)) w6:=h9;have H9:=ZkQ h9;clear h9 OA M4 H8
 go_loopw [8,9] (fun mv kv wr=>∃ k:Nat,mv = .int .i64 ((iw st k 0).length:Int)∧kv = .int .i64 (k:Int)∧k≤c.C∧Own W (xS bd (iw st k 0)::lV B4 A0 B1 B2 c0 c1 c2 c.C n1 c.S false::gJ br bc c mn cp (.slice A1 aj.length K1) r.next r.out pv r.none true::(bs++M)) wr) (fun _ kv _=>c.C - (intOf kv).toNat)
 case atStart=>exact⟨0,rfl,rfl,ZxV _,H9.out⟩
 case round =>
  obtain⟨k,rfl,rfl,hk,hO⟩:=hrel;have HO:=ZkQ hO;obtain⟨y0,-,-,-⟩:=xh hO.skip;by_cases aK:k<c.C
  ·have i0:(0:Int)≤(k:Int):=by omega
   have i1:(k:Int)<(c.C:Int):=(by omega);obtain⟨⟨x,lv,lb,pv1,pb1⟩,hx⟩:∃ x,Ls[k]?=some x:=⟨_,Zxp (by have:=congrArg List.length HP.out.es;rw[List.length_map]at this;rw[this];simpa [Cv.jl] using aK)⟩;have he:x=Cv.mh st k:=by
    have e1:=congrArg (fun l=>l[k]?) HP.out.es;simp only[List.getElem?_map,hx,Option.map_some,Cv.jl,List.getElem?_range aK,ZlP]at e1;exact e1
   subst he;obtain⟨⟨g1,rfl,p0,p1,p2,p3,gl⟩,-,aX⟩:=HP.out.slots hO.skip.skip.skip hx (by simpa [Cv.jl] using aK);simp only at p3 aX;obtain⟨E,ke,rfl⟩:=BG aX;obtain⟨hhd,pR,uP,hpg⟩:=Zw2 HQ.out.Z.I.G k;have HX:=ZkQ hx;have eH:=ZkQ aK;have HPG:=ZkQ hpg;obtain⟨len,hlen⟩:=Zx9 ((st.sl (.part k)).length);have F3:=ZkQ pR;have qX:=ZkQ hlen;rw[pR,hlen]at p3;rw[hlen]at uP;have bN:¬ (cp:Int)<(len:Int):=(by omega);obtain⟨⟨x0,-,-,-,-,x5,-⟩,-,-⟩:=BN hO.skip.skip;clear hO hx aX p0 p1 p2 aK hlen H9 hk gl hpg pR uP;go_wp2_with fail
   go_quiet (fail)
   have FY:=ZkQ (HO.out.drewN nq);clear y0 p3 x0 x5 HO;generalize wr.drewN nq=wq at FY ⊢;obtain⟨y0,-,-,-⟩:=xh FY.out.skip;obtain⟨⟨g2,e2,p0,-,-,p3,-⟩,-,-⟩:=HP.out.slots FY.out.skip.skip.skip HX.out (by simpa [Cv.jl] using eH.out);obtain rfl:g1=g2:=(by cases e2;rfl);simp only at p0 p3;rw[F3.out,qX.out]at p3;rcases hhd with⟨h1,h2⟩|⟨s,h1,h2⟩
   case' inl =>
    rw[h1]at p0;have j0:¬ (0:Int) ≤ -1:=(by omega);go_wp2_with fail
    have H2:Hid (Own W (xS bd (iw st k (st.sl (.head k)).length)::lV B4 (some ⟨g1,0,Option.none⟩) B1 B2 c0 c1 c2 c.C n1 c.S false::gJ br bc c mn cp (.slice A1 aj.length K1) r.next r.out pv r.none true::(bs++M)) wq):=by
     rw[h2];exact FY
    have e1:iw st k 0=iw st k (st.sl (.head k)).length:=(by rw[h2];rfl);rw[e1];clear e1 j0;obtain⟨wx,WZ⟩:=Zx9 (wq)
   case' inr =>
    have FI:s<8:=by
     have:=HQ.out.Z.I.G.sb s (fun e=>by have:=(HQ.out.Z.I.G.sm (.head k) rfl s).1 (by rw[h2];exact ZnJ);rw[e]at this;cases this);have:=eF.out;omega
    rw[h1]at p0;have j0:(0:Int)≤(s:Int):=(by omega);have j1:(s:Int)<32:=(by omega);obtain⟨hcell,bT⟩:=QZ FY.out;have d0:=hcell s (by omega);have d1:=bT s;have Ad:(iw st k 0).count s≤1:=ZxL ((ML eH.out).count_le _) (Cv.JS HQ.out s).1;have jJ:(iw st k 0).length≤8:=by
     have:=(ML (j:=0) (st:=st) eH.out).length_le;have:=MK HQ.out;have:=eF.out;omega
    have Eo:=ZkQ Ad;have I8:=ZkQ jJ;have CU:=ZkQ FI;have Oo:(yS st k)[0]?=some s:=(by unfold yS;rw[h2];rfl);have Es:=ZkQ Oo;clear hcell bT Ad jJ FI Oo;go_wp2_with fail
    refine(JN (s:Int) 32 (by omega) (by have:=CU.out;omega) (by omega) _).mono ?_;rintro e w7 ⟨rfl,rfl⟩;go_wp2_with fail
    rw[show wrap64 (((iw st k 0).count s:Int)+1)=(((iw st k 0).count s+1:Nat):Int) from ZxD _ (by have:=Eo.out;omega)];have H2:=ZkQ (Vt FY.out (x:=s) (by have:=CU.out;omega));rw[← Q3 Es.out]at H2;have e1:(st.sl (.head k)).length=0+1:=(by rw[h2];rfl);rw[show wrap64 (((iw st k 0).length:Int)+1)=((iw st k (st.sl (.head k)).length).length:Int) by
     rw[e1,Q3 Es.out,Zxw];exact ZxD _ (by have:=I8.out;omega)]
    rw[← e1]at H2;clear e1 j0 j1 d0 d1 Eo I8 CU Es;obtain⟨wx,WZ⟩:=Zx9 (wq.setCell ⟨bd,s,Option.none⟩ (.int .i64 (((iw st k 0).count s+1:Nat):Int)))
   all_goals
    rw[WZ]at H2 ⊢;clear WZ FY y0 p0 p3 h1 h2
    go_loopw [8,10] (fun mv IV wr=>∃ j:Nat,mv = .int .i64 ((iw st k ((st.sl (.head k)).length+j)).length:Int)∧IV = .int .i64 (j:Int)∧j≤len∧Own W (xS bd (iw st k ((st.sl (.head k)).length+j))::lV B4 (some ⟨g1,0,Option.none⟩) B1 B2 c0 c1 c2 c.C n1 c.S false::gJ br bc c mn cp (.slice A1 aj.length K1) r.next r.out pv r.none true::(bs++M)) wr) (fun _ IV _=>len - (intOf IV).toNat)
    case atStart=>exact⟨0,rfl,rfl,ZxV _,H2.out⟩
    case round =>
     obtain⟨j,rfl,rfl,hj,hO2⟩:=hrel;clear H2;have HO:=ZkQ hO2;obtain⟨y0,-,-,-⟩:=xh hO2.skip;obtain⟨⟨g2,e2,-,-,-,p3,-⟩,-,aX⟩:=HP.out.slots hO2.skip.skip.skip HX.out (by simpa [Cv.jl] using eH.out);obtain rfl:g1=g2:=(by cases e2;rfl);have aX:Src wr 1 (.slice E (Cv.mh st k).parts.length ke) (Cv.mh st k).parts.length (ints (Cv.mh st k).parts):=aX;rw[F3.out,qX.out]at aX;simp only[F3.out,qX.out]at p3;have Om:(yS st k).length=(st.sl (.head k)).length+len:=(by unfold yS;rw[Zxw,qX.out]);by_cases pK:j<len
     ·obtain⟨s,hs⟩:∃ s,(st.sl (.part k))[j]?=some s:=⟨_,Zxp (by have:=qX.out;omega)⟩
      rcases aX.2 with⟨_,h0⟩|⟨ad,k1,HY,mU⟩
      ·omega
      cases HY;have cx:=mU j (.int .i64 (s:Int)) (wX (HPG.out j s hs));have FI:s<8:=by
       have:=HQ.out.Z.I.G.sb s (fun e=>by have:=(HQ.out.Z.I.G.sm (.part k) rfl s).1 (Zxz hs);rw[e]at this;cases this);have:=eF.out;omega
      have j0:(0:Int)≤(j:Int):=(by omega);have j1:(j:Int)<(len:Int):=(by omega);have k0:(0:Int)≤(s:Int):=(by omega);have k1:(s:Int)<32:=(by omega);obtain⟨hcell,bT⟩:=QZ hO2;have d0:=hcell s (by omega);have d1:=bT s;have Ad:(iw st k ((st.sl (.head k)).length+j)).count s≤1:=ZxL ((ML eH.out).count_le _) (Cv.JS HQ.out s).1;have jJ:(iw st k ((st.sl (.head k)).length+j)).length≤8:=by
       have:=(ML (j:=(st.sl (.head k)).length+j) (st:=st) eH.out).length_le;have:=MK HQ.out;have:=eF.out;omega
      have Eo:=ZkQ Ad;have I8:=ZkQ jJ;have CU:=ZkQ FI;have Es:Hid ((yS st k)[(st.sl (.head k)).length+j]?=some s):=by
       unfold yS;rw[ZxY (by omega),Nat.add_sub_cancel_left];exact hs
      have kQ:=ZkQ pK;have hl8:len≤8:=by
       have h1:=(ML (j:=(st.sl (.head k)).length+len) (st:=st) eH.out).length_le;have h2:=MK HQ.out;have h3:(yS st k).length≤(iw st k ((st.sl (.head k)).length+len)).length:=by
        unfold iw;rw[Zxw,List.take_of_length_le (by omega)];omega
       have:=eF.out;omega
      have HJN:Hid (wrap64 ((j:Int)+1)=((j+1:Nat):Int)):=ZkQ (ZxD _ (by omega));clear hcell bT Ad jJ FI mU aX hO2 hj hs pK Om hl8;go_wp2_with fail
      refine(JN (s:Int) 32 (by omega) (by have:=CU.out;omega) (by omega) _).mono ?_;rintro e w7 ⟨rfl,rfl⟩;go_wp2_with fail
      rw[show wrap64 (((iw st k ((st.sl (.head k)).length+j)).count s:Int)+1)=(((iw st k ((st.sl (.head k)).length+j)).count s+1:Nat):Int) from ZxD _ (by have:=Eo.out;omega)];rw[HJN.out];have H3:=Vt HO.out (x:=s) (by have:=CU.out;omega);rw[← Q3 Es.out]at H3;rw[show wrap64 (((iw st k ((st.sl (.head k)).length+j)).length:Int)+1)=((iw st k ((st.sl (.head k)).length+(j+1))).length:Int) by
          rw[← Nat.add_assoc,Q3 Es.out,Zxw];exact ZxD _ (by have:=I8.out;omega)]
      first
       |exact⟨⟨j+1,rfl,rfl,kQ.out,H3⟩,by have:=kQ.out;simp[intOf];omega⟩
       |(refine⟨?_,by have:=kQ.out;simp[intOf];omega⟩
         (repeat apply Exists.intro)
         exact⟨⟨j+1,rfl,rfl,kQ.out,H3⟩,rfl⟩)
     ·have j1:¬ (j:Int)<(len:Int):=by omega
      have rW:iw st k ((st.sl (.head k)).length+j)=iw st (k+1) 0:=Zw7 (by omega);have Xv:=ZkQ rW;clear aX hO2 rW Om;go_wp2_with fail
      rw[show wrap64 ((k:Int)+1)=((k+1:Nat):Int) from ZxD _ (by have:=eH.out;have:=eF.out;omega),Xv.out];refine⟨⟨k+1,rfl,rfl,eH.out,?_⟩,by have:=eH.out;simp[intOf];omega⟩;rw[← Xv.out];exact HO.out
  ·obtain rfl:k=c.C:=by omega
   have i1:¬ (c.C:Int)<(c.C:Int):=(by omega);clear H9 aK hk;go_wp2_with fail
   clear y0 i1;have h8:Own W (xS bd (qU c st 0)::lV B4 A0 B1 B2 c0 c1 c2 c.C n1 c.S false::gJ br bc c mn cp (.slice A1 aj.length K1) r.next r.out pv r.none true::(bs++M)) wr:=by
    rw[← Zxh];exact HO.out
   have H8:=ZkQ h8;clear h8 HO hO
   go_loopw [11] (fun iv wr=>∃ i:Nat,iv = .int .i64 (i:Int)∧i≤n1∧Own W (xS bd (qU c st i)::lV B4 A0 B1 B2 c0 c1 c2 c.C n1 c.S false::gJ br bc c mn cp (.slice A1 aj.length K1) r.next r.out pv r.none true::(bs++M)) wr) (fun iv _=>n1 - (intOf iv).toNat)
   case atStart=>exact⟨0,rfl,ZxV _,H8.out⟩
   case round =>
    obtain⟨i,rfl,hi,hO⟩:=hrel;have HO:=ZkQ hO;obtain⟨-,y1,-,-⟩:=xh hO.skip;have mr:(st.sl .shelf).length=n1:=(by rw[← Xt.out];simp[Cv.jl,Cv.ints]);by_cases aK:i<n1
    ·have aX:Src wr 1 (.slice B1 (Cv.jl c st).shelf.length c1) (Cv.jl c st).shelf.length (ints (Cv.jl c st).shelf):=HP.out.shelf hO.skip.skip.skip
     rw[Xt.out]at aX;obtain⟨s,hs⟩:∃ s,(st.sl .shelf)[i]?=some s:=⟨_,Zxp (by omega)⟩;rcases aX.2 with⟨_,h0⟩|⟨ad,k1,HY,mU⟩
     ·omega
     cases HY;have cx:=mU i (.int .i64 (s:Int)) (wX (by simp[Cv.jl,Cv.ints,hs]));have FI:s<8:=by
      have:=HQ.out.Z.I.G.sb s (fun e=>by have:=(HQ.out.Z.I.G.sm .shelf rfl s).1 (Zxz hs);rw[e]at this;cases this);have:=eF.out;omega
     have j0:(0:Int)≤(i:Int):=(by omega);have j1:(i:Int)<(n1:Int):=(by omega);have k0:(0:Int)≤(s:Int):=(by omega);have k1:(s:Int)<32:=(by omega);obtain⟨hcell,bT⟩:=QZ hO;have d0:=hcell s (by omega);have d1:=bT s;have Ad:(qU c st i).count s≤1:=ZxL (Zw8.count_le _) (Cv.JS HQ.out s).1;have jJ:n1≤8:=by
      have h3:=MK HQ.out;rw[← Vs]at h3;unfold qU at h3;rw[Zxw,List.take_length]at h3;have:=eF.out;omega
     have Eo:=ZkQ Ad;have I8:=ZkQ jJ;have CU:=ZkQ FI;have Es:=ZkQ hs;have kQ:=ZkQ aK;clear hcell bT Ad jJ FI mU aX hO hi hs aK mr H8;go_wp2_with fail
     refine(JN (s:Int) 32 (by omega) (by have:=CU.out;omega) (by omega) _).mono ?_;rintro e w7 ⟨rfl,rfl⟩;go_wp2_with fail
     rw[show wrap64 (((qU c st i).count s:Int)+1)=(((qU c st i).count s+1:Nat):Int) from ZxD _ (by have:=Eo.out;omega),show wrap64 ((i:Int)+1)=((i+1:Nat):Int) from ZxD _ (by have:=kQ.out;have:=I8.out;omega)];have H3:=Vt HO.out (x:=s) (by have:=CU.out;omega);rw[← Zxk Es.out]at H3;exact⟨⟨i+1,rfl,kQ.out,H3⟩,by have:=kQ.out;simp[intOf];omega⟩
    ·have j1:¬ (i:Int)<(n1:Int):=by omega
     have h9:Own W (xS bd (Cv.uG c st)::lV B4 A0 B1 B2 c0 c1 c2 c.C n1 c.S false::gJ br bc c mn cp (.slice A1 aj.length K1) r.next r.out pv r.none true::(bs++M)) wr:=by
      rw[← Vs,show(st.sl .shelf).length=i by omega];exact HO.out
     have H9:=ZkQ h9;clear aK hi hO h9 mr H8 HO;go_wp2_with fail
     clear y1 j1
     go_loopw [12,13] (fun ev sv wr=>∃ s:Nat,ev = .int .i64 ((zR c st s).length:Int)∧sv = .int .i64 (s:Int)∧s≤c.S∧Own W (xS bd (Cv.uG c st)::lV B4 A0 B1 B2 c0 c1 c2 c.C n1 c.S false::gJ br bc c mn cp (.slice A1 aj.length K1) r.next r.out pv r.none true::(bs++M)) wr) (fun _ sv _=>c.S - (intOf sv).toNat)
     case atStart=>exact⟨0,rfl,rfl,ZxV _,H9.out⟩
     case round =>
      obtain⟨s,rfl,rfl,hs,hO⟩:=hrel;have HO:=ZkQ hO;obtain⟨-,-,-,y3⟩:=xh hO.skip;by_cases aK:s<c.S
      ·have i0:(0:Int)≤(s:Int):=by omega
       have i1:(s:Int)<(c.S:Int):=(by omega);have i2:(s:Int)<32:=(by have:=eF.out;omega);obtain⟨⟨x,v,b⟩,hx⟩:∃ x,Ll[s]?=some x:=⟨_,Zxp (by have:=congrArg List.length HP.out.el;rw[List.length_map]at this;rw[this];simpa [Cv.jl] using aK)⟩;have he:x=Cv.pu c st s:=by
        have e1:=congrArg (fun l=>l[s]?) HP.out.el;simp only[List.getElem?_map,hx,Option.map_some,Cv.jl,List.getElem?_range aK,ZlP]at e1;exact e1
       subst he;obtain⟨⟨g1,rfl,p0,p1,p2,p3,p4,gl⟩,-⟩:=HP.out.mQ hO.skip.skip.skip hx (by simpa [Cv.jl] using aK);have ic:(Cv.pu c st s).counts.live=st.lv s:=by
        unfold Cv.pu Cv.MI;cases st.lv s<;>rfl
       simp only[ic]at p0 p1 p2 p3;have RL:=ZkQ (ZwW p0 p1 p2 p3);have h4:=HO.out.new (.cells #[.int .i64 0,.int .i64 0,.bool false,.bool false] 47);obtain⟨B5,hB5⟩:∃ B,wr.heap.size=B:=⟨_,rfl⟩;rw[hB5]at h4;have H4:=ZkQ h4;obtain⟨z0,vk⟩:∃ z,(Cv.pu c st s).counts.ay=z:=⟨_,rfl⟩;obtain⟨z1,Ba⟩:∃ z,(Cv.pu c st s).counts.objects=z:=⟨_,rfl⟩;obtain⟨z2,Ee⟩:∃ z,(Cv.pu c st s).counts.frozen=z:=⟨_,rfl⟩;rw[vk,Ba,Ee]at RL;have I9:Hid (∀ u∈(#[.int .i64 z0,.int .i64 z1,.bool z2,.bool (st.lv s)]:Array Value).toList,u.oneCell'=true):=by
        intro u hu;simp only[ZxF,List.not_mem_nil,or_false]at hu;rcases hu with rfl|rfl|rfl|rfl<;>rfl
       have eH:=ZkQ aK;clear hx ic p0 p1 p2 p3 p4 gl h4 vk Ba Ee aK hs hO H9 HO
       go_wp2_with (first
        |(refine ZdC (t:=47) rfl _ rfl rfl RL.out ?_)
        |(refine jm (t:=47) (new:=#[.int .i64 z0,.int .i64 z1,.bool z2,.bool (st.lv s)]) rfl _ _ rfl rfl rfl ZwS H4.out rfl I9.out ?_;intro w5 hS;have H5:Hid (Own W (Vz B5 z0 z1 z2 (st.lv s)::xS bd (Cv.uG c st)::lV B4 A0 B1 (some ⟨g1,0,Option.none⟩) c0 c1 c2 c.C n1 c.S false::gJ br bc c mn cp (.slice A1 aj.length K1) r.next r.out pv r.none true::(bs++M)) w5):=hS;clear hS hB5 H4 RL I9))
       clear y3 i0 i1 i2
       go_loopw [15,16] (fun av iv wr2=>∃ i:Nat,av = .bool (Cm r.out s i)∧iv = .int .i64 (i:Int)∧i≤c.O∧Own W (Vz B5 z0 z1 z2 (st.lv s)::xS bd (Cv.uG c st)::lV B4 A0 B1 (some ⟨g1,0,Option.none⟩) c0 c1 c2 c.C n1 c.S false::gJ br bc c mn cp (.slice A1 aj.length K1) r.next r.out pv r.none true::(bs++M)) wr2) (fun _ iv _=>c.O - (intOf iv).toNat)
       case atStart=>exact⟨0,rfl,rfl,ZxV _,H5.out⟩
       case round =>
        obtain⟨i,rfl,rfl,hi,hO2⟩:=hrel;clear H5;have HO:=ZkQ hO2;obtain⟨⟨x0,-,-,x3,-⟩,xo,-⟩:=BN hO2.skip.skip.skip;by_cases pK:i<c.O
        ·have j0:(0:Int)≤(i:Int):=by omega
         have j1:(i:Int)<(c.O:Int):=(by omega);obtain⟨K,hK⟩:=Zx9 (16 * s+i);have vY:K<512:=(by have:=eF.out;have:=eH.out;omega);have d2:=xo K vY;have k0:(0:Int)≤(K:Int):=(by omega);have k1:(K:Int)<512:=(by omega);have vG:Hid (wrap64 ((i:Int)+1)=((i+1:Nat):Int)):=ZkQ (ZxD _ (by have:=eF.out;omega));have e1:wrap64 (16 * (s:Int))=16 * (s:Int):=ZxD _ (by have:=eF.out;have:=eH.out;omega);have e2:wrap64 (16 * (s:Int)+(i:Int))=(K:Int):=(ZxD _ (by have:=eF.out;have:=eH.out;omega)).trans (by omega);have kQ:=ZkQ pK;have OO:Hid (Cm r.out s (i+1)=(Cm r.out s i||r.out K)):=(by rw[← hK];exact ZkQ Zxb);clear xo hK vY hO2 hi pK;cases ha:Cm r.out s i with
         |true =>
          rw[ha]at OO;clear ha d2 e1 e2;go_wp2_with fail
          rw[vG.out];exact⟨⟨i+1,by rw[OO.out];rfl,rfl,kQ.out,HO.out⟩,by have:=kQ.out;simp[intOf];omega⟩
         |false =>
          rw[ha]at OO;clear ha;go_wp2_with fail
          rw[vG.out];exact⟨⟨i+1,by rw[OO.out];rfl,rfl,kQ.out,HO.out⟩,by have:=kQ.out;simp[intOf];omega⟩
        ·obtain rfl:i=c.O:=by omega
         have j1:¬ (c.O:Int)<(c.O:Int):=(by omega);have c3:=Zxf hO2;obtain⟨hcell,-⟩:=QZ hO2.skip;have d0:=hcell s (by have:=eF.out;have:=eH.out;omega);obtain⟨jE,mD⟩:=Cv.JS HQ.out s;have J3:=Zxd (c:=c) (st:=st) (s:=s);rw[Zxm (by have:=eF.out;omega) HI.out.out]at J3;have FX:=ZkQ J3;have HEL:Hid ((zR c st s).length≤8):=ZkQ (by have:=Zxg (c:=c) (st:=st) (s:=s);have:=eH.out;have:=eF.out;omega);have k0:(0:Int)≤(s:Int):=(by omega);have k1:(s:Int)<32:=(by have:=eF.out;have:=eH.out;omega);obtain⟨N,hN⟩:=Zx9 ((Cv.uG c st).count s);rw[hN]at d0 jE mD;have RS:=ZkQ hO2.skip;clear hcell hO2 xo J3 hN hi pK;cases hl:st.lv s with
         |false =>
          rw[hl]at c3 FX;obtain rfl:N=0:=by
           rcases Nat.eq_zero_or_pos N with h|h
           ·exact h
           ·rw[mD (by omega)]at hl;cases hl
          clear jE mD hl;go_wp2_with fail
          exact⟨⟨s+1,by rw[FX.out];rfl,rfl,eH.out,RS.out⟩,by have:=eH.out;simp[intOf];omega⟩
         |true =>
          rw[hl]at c3 FX;clear hl mD;cases ha:Cm r.out s c.O with
          |true =>
           rw[ha]at FX;rcases(show N=0∨N=1 by omega) with rfl|rfl
           all_goals
            clear ha jE;go_wp2_with fail
            exact⟨⟨s+1,by rw[FX.out];rfl,rfl,eH.out,RS.out⟩,by have:=eH.out;simp[intOf];omega⟩
          |false =>
           rw[ha]at FX;rcases(show N=0∨N=1 by omega) with rfl|rfl
           all_goals
            clear ha jE;go_wp2_with fail
            rw[show wrap64 (((zR c st s).length:Int)+1)=(((zR c st s).length+1:Nat):Int) from ZxD _ (by have:=HEL.out;omega)];exact⟨⟨s+1,by rw[FX.out];rfl,rfl,eH.out,RS.out⟩,by have:=eH.out;simp[intOf];omega⟩
      ·obtain rfl:s=c.S:=by omega
       have i1:¬ (c.S:Int)<(c.S:Int):=(by omega);have hfe:=Zxc HQ.out;rw[← Vv]at hfe;have jJ:(iw st c.C 0).length≤8:=by
        rw[Vv];have h3:=MK HQ.out;rw[← Vs]at h3;unfold qU at h3;rw[Zxw,List.take_length]at h3;have:=Vv (c:=c) (st:=st);unfold iw at this;rw[List.take_zero,ZxP]at this;have:=eF.out;omega
       obtain⟨⟨x0,-,-,-,x4,-⟩,-,-⟩:=BN hO.skip.skip;have bP:mn<3:=KG.out;have e1:wrap64 (((iw st c.C 0).length:Int)+(mn:Int))=(((iw st c.C 0).length+mn:Nat):Int):=ZxD _ (by omega);have g1:decide ((zR c st c.S).length≤(iw st c.C 0).length+mn)=true:=Zx8 (by omega);have g2:decide (((zR c st c.S).length:Int)≤((iw st c.C 0).length:Int)+(mn:Int))=true:=Zx8 (by omega);clear hfe jJ aK hs hO bP;go_wp2_with fail
       refine(Zh (HO.out.sub (List.nil_sublist _)) HT.out).mono ?_;rintro e w8 ⟨rfl,h8⟩;have H8:=ZkQ h8;clear h8;go_wp2_with fail
       go_ret;exact⟨rfl,H8.out⟩
end
end Cw
end Go.Proofs.YtfcpdlbkmkhhcaaGreatDoor
