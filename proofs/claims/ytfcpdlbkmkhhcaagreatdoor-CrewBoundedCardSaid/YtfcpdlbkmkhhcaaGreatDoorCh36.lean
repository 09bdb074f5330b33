/-
  Texts of this claim, joined. No condition.
-/
import Derived.Test.YtfcpdlbkmkhhcaaGreatDoorCh1
import Derived.Test.YtfcpdlbkmkhhcaaGreatDoorCh34
import Derived.Test.YtfcpdlbkmkhhcaaGreatDoorCh35
import Derived.Test.YtfcpdlbkmkhhcaaGreatDoorCh24
import Derived.Test.YtfcpdlbkmkhhcaaGreatDoorCh15
import Derived.Test.YtfcpdlbkmkhhcaaGreatDoorCh13
import Derived.Test.YtfcpdlbkmkhhcaaGreatDoorCh16
namespace Go.Proofs.YtfcpdlbkmkhhcaaGreatDoor
set_option maxRecDepth 100000
set_option maxHeartbeats 40000000
namespace Cw
open Go Ex Mem
open Go.RowKit
section
variable {es:Array MapEntry}{ck n C:Nat}{tk:Nat→Option Tk}{seen:Array Nat}{fm:Int→Option Int}{e:MapEntry}{t:Tk}
structure xW (es:Array MapEntry)(seen:Array Nat)(fm:Int→Option Int):Prop where
 one:∀ k v,fm k=some v→v=1
 is:∀ k,(fm k).isSome=true↔∃ x∈es.toList,seen.contains x.born=true∧∃ t,x.val=bH t∧Cv.makes t=true∧t.aA=k
theorem xW.nil:xW es #[] (fun _=>none):=⟨fun _ _ h=>(by cases h),fun k=>⟨fun h=>(by cases h),fun ⟨x,_,h,_⟩=>(by simp at h)⟩⟩
theorem Zz (hv:VM es ck n (oo tk C))(he:e∈es.toList):∃ j t,j<C∧tk j=some t∧e.key = .int .i64 (j:Int)∧e.val=bH t:=by
 obtain⟨k,hk,-⟩:=hv.ints e he;have h:=(hv.fits k e.val).2 ⟨e,he,hk,rfl⟩;unfold oo at h;split at h
 ·rename_i hb
  cases ht:tk k.toNat with
  |none=>rw[ht]at h;cases h
  |some t =>
   rw[ht]at h;exact⟨k.toNat,t,by omega,ht,by rw[hk];congr 1;omega,(ZxZ h).symm⟩
 ·cases h
theorem Lb (hv:VM es ck n (oo tk C))(he:e∈(leftOf es seen).toList){x:MapEntry}(hx:x∈es.toList):(seen.push e.born).contains x.born=true↔seen.contains x.born=true∨x=e:=by
 rw[contains_push,Bool.or_eq_true,beq_iff_eq];constructor
 ·rintro(h|h)
  ·exact .inl h
  ·exact .inr (born_inj hv.born hx (mem_left he).1 h)
 ·rintro(h|h)
  ·exact .inl h
  ·exact .inr (h ▸ rfl)
theorem xW.put (h:xW es seen fm)(hv:VM es ck n (oo tk C))(he:e∈(leftOf es seen).toList)(ht:e.val=bH t)(hm:Cv.makes t=true):xW es (seen.push e.born) (uE fm t.aA 1):=by
 refine⟨fun k v hk => ?_,fun k => ?_⟩
 ·unfold uE at hk
  split at hk
  ·cases hk
   rfl
  ·exact h.one k v hk
 ·unfold uE
  by_cases e1:k=t.aA
  ·rw[if_pos e1]
   exact⟨fun _=>⟨e,(mem_left he).1,(Lb hv he (mem_left he).1).2 (.inr rfl),t,ht,hm,e1.symm⟩,fun _=>rfl⟩
  ·rw[if_neg e1,h.is k]
   constructor
   ·rintro⟨x,hx,h1,h2⟩
    exact⟨x,hx,(Lb hv he hx).2 (.inl h1),h2⟩
   ·rintro⟨x,hx,h1,t2,h2,h3,h4⟩
    rcases(Lb hv he hx).1 h1 with h5|h5
    ·exact⟨x,hx,h5,t2,h2,h3,h4⟩
    ·subst h5
     have:=Um (h2.symm.trans ht);subst this;exact absurd h4.symm e1
theorem xW.skip (h:xW es seen fm)(hv:VM es ck n (oo tk C))(he:e∈(leftOf es seen).toList)(ht:e.val=bH t)(hm:Cv.makes t=false):xW es (seen.push e.born) fm:=by
 refine⟨h.one,fun k => ?_⟩;rw[h.is k];constructor
 ·rintro⟨x,hx,h1,h2⟩
  exact⟨x,hx,(Lb hv he hx).2 (.inl h1),h2⟩
 ·rintro⟨x,hx,h1,t2,h2,h3,h4⟩
  rcases(Lb hv he hx).1 h1 with h5|h5
  ·exact⟨x,hx,h5,t2,h2,h3,h4⟩
  ·subst h5
   have:=Um (h2.symm.trans ht);subst this;rw[hm]at h3;cases h3
theorem xW.all (h:xW es seen fm)(hv:VM es ck n (oo tk C))(h0:(leftOf es seen).size=0)(s:Nat):((fm (s:Int)).getD 0==0) = !Cv.zt tk C s:=by
 have hs:=all_seen es seen h0;by_cases hm:Cv.zt tk C s=true
 ·rw[hm]
  obtain⟨j,hj,t,ht,h1,h2⟩:=Cv.Pj.1 hm;have hf:oo tk C (j:Int)=some (bH t):=by rw[BI hj,ht];rfl
  obtain⟨x,hx,-,hxv⟩:=(hv.fits _ _).1 hf;have h3:=(h.is (s:Int)).2 ⟨x,hx,hs x hx,t,hxv,h1,h2⟩;obtain⟨v,xN⟩:=Option.isSome_iff_exists.1 h3;rw[xN,h.one _ _ xN];rfl
 ·have hm2:Cv.zt tk C s=false:=by simpa using hm
  rw[hm2];cases hf:fm (s:Int) with
  |none=>rfl
  |some v =>
   exfalso;obtain⟨x,hx,-,t,h2,h3,h4⟩:=(h.is (s:Int)).1 (by rw[hf];rfl);obtain⟨j,t2,hj,IP,-,h5⟩:=Zz hv hx;have:=Um (h5.symm.trans h2);subst this;exact hm (Cv.Pj.2 ⟨j,hj,t2,IP,h3,h4⟩)
end
end Cw
namespace Cw
open Go Mem See
open Go.RowKit
attribute [local go_sem ↓] Go.wp_at_zero Go.wp_at_succ
section
variable {W w:World}{m:List (Nat×Obj)}{bc b0 b1 bt b:Nat}{c:Ch}{mn cp cnt:Nat}{t t':Tk}{g g':List Nat}{es:Array MapEntry}{ck n:Nat}{f:Int→Option Value}{i:Nat}
def YH (bc b0 b1 bt:Nat)(c:Ch)(mn cp:Nat)(es:Array MapEntry)(ck:Nat)(g:List Nat)(cnt:Nat)(s:Int)(is:Bool):Prop :=
 ∀ (W w:World) (m:List (Nat×Obj)),Own W (aY bc b0 bt c mn cp::(bt,.map es ck)::mB b0 b1 g.length cnt::wB b1 g::m) w →
  Calls Tryz.prog 24 #[.pointer (some ⟨bc,0,Option.none⟩)] w fun e w'=>e = .returned (.tuple #[.int .i64 s,.bool is])∧Own W (aY bc b0 bt c mn cp::(bt,.map es ck)::mB b0 b1 g.length cnt::wB b1 g::m) w'
def Zl0 (t:Tk)(is:Bool)(s:Int)(t':Tk):Prop :=
 ∀ (W w:World) (m:List (Nat×Obj)),Own W m w→Calls Tryz.prog 32 #[bH t,.bool is,.int .i64 s] w fun e w'=>e = .returned (.tuple #[bH t',.int .i64 0])∧Own W m w'
theorem Zi3 (h:Own W (aY bc b0 bt c mn cp::(bt,.map es ck)::mB b0 b1 g.length cnt::wB b1 g::m) w)(hC:c.C≤8)(hv:VM es ck n f)(hi:i<c.C)(hf:f i=some (bH t))(hw:t.want=1)
 {s:Int} {is:Bool} (lZ:YH bc b0 b1 bt c mn cp es ck g cnt s is) (J4:Zl0 t is s t') (lh:t'.aB<9) :
 Calls Tryz.prog 15 #[.pointer (some ⟨bc,0,Option.none⟩),.int .i64 (i:Int),.bool is] w fun e w'=>∃ es' bO,e = .returned (.tuple #[bH t',.int .i64 0])∧VM es' bO (n+1) (GK f t')∧Own W (aY bc b0 bt c mn cp::(bt,.map es' bO)::mB b0 b1 g.length cnt::wB b1 g::m) w':=by
 have h1:Own W ((w.heap.size,z17)::aY bc b0 bt c mn cp::(bt,.map es ck)::mB b0 b1 g.length cnt::wB b1 g::m) (w.alloc z17):=h.new z17;obtain⟨B,hB⟩:=Zx9 (w.heap.size);rw[hB]at h1;have h1:Own W (aY bc b0 bt c mn cp::(bt,.map es ck)::(B,z17)::mB b0 b1 g.length cnt::wB b1 g::m) (w.alloc z17):=h1.perm (yU _ _ _ _).symm;obtain⟨wa,eQ⟩:=Zx9 (w.alloc z17);rw[eQ]at h1;have HV:=ZkQ hv;have hm:=SK h1 hC hv hi hf;rw[hw]at hm;have HM:=ZkQ hm;have HF:=ZkQ lZ;have HG:=ZkQ J4;have HI:=ZkQ lh;clear h h1 hv hf hi hw hm lZ J4 lh
 go_enter Tryz.func15,Tryz.ntmps15
 go_wp2_with fail
 refine HM.out.mono ?_;rintro e w2 ⟨rfl,h2⟩;have h3:Own W ((w2.heap.size,z17)::aY bc b0 bt c mn cp::(bt,.map es ck)::(B,z17)::mB b0 b1 g.length cnt::wB b1 g::m) (w2.alloc z17):=h2.new z17;obtain⟨B2,hB2⟩:∃ B,w2.heap.size=B:=⟨_,rfl⟩;rw[hB2]at h3;have H3:=ZkQ h3;have HT:=ZkQ (jU t);clear h2 h3 HM eQ hB
 go_wp2_with (first
  |(refine jm (t:=59) (new:=dm t) rfl _ _ rfl rfl rfl gQ H3.out rfl HT.out ?_;intro w3 hS;have HX:Hid (Own W (tB B2 t::aY bc b0 bt c mn cp::(bt,.map es ck)::(B,z17)::mB b0 b1 g.length cnt::wB b1 g::m) w3):=hS;clear hS hB2))
 have H4:Hid (Own W (aY bc b0 bt c mn cp::(bt,.map es ck)::mB b0 b1 g.length cnt::wB b1 g::tB B2 t::(B,z17)::m) w3):=HX.out.perm (fO fun _ q=>by simp only[Zxv];omega);refine(HF.out _ _ _ H4.out).mono ?_;rintro e w4 ⟨rfl,h5⟩;have O0:Hid (Own W (tB B2 t::aY bc b0 bt c mn cp::(bt,.map es ck)::mB b0 b1 g.length cnt::wB b1 g::(B,z17)::m) w4):=h5.perm (fO fun _ q=>by simp only[Zxv];omega);clear h5 H4 HX H3;have Cq:(is && !is)=false:=by cases is<;>rfl
 cases is
 all_goals
  go_wp2_with (first
   |(refine qC (t:=59) (old:=dm t) rfl _ rfl rfl Tryz.underlying59 O0.out gQ ?_))
  refine(HG.out _ _ _ O0.out).mono ?_;rintro e w5 ⟨rfl,h5⟩;have H5:Hid (Own W (aY bc b0 bt c mn cp::(bt,.map es ck)::mB b0 b1 g.length cnt::wB b1 g::tB B2 t::(B,z17)::m) w5):=h5.perm (fO fun _ q=>by simp only[Zxv];omega);clear h5 O0;go_wp2_with fail
  refine(Pb H5.out HV.out HI.out).mono ?_;rintro e w9 ⟨es',bO,rfl,k1,h9⟩;have K1:=ZkQ k1;have H9:Hid (Own W ((B,z17)::aY bc b0 bt c mn cp::(bt,.map es' bO)::mB b0 b1 g.length cnt::wB b1 g::tB B2 t::m) w9):=h9.perm (fO fun _ q=>by simp only[Zxv];omega);have zf:=ZkQ (jU t');clear k1 h9
  go_wp2_with (first
   |(refine jm (t:=59) (new:=dm t') rfl _ _ rfl rfl rfl gQ H9.out rfl zf.out ?_;intro Ej hT))
  obtain⟨⟨x0,x1,x2,x3,x4,x5,x6,x7,x8,x9,x10,gz,gB,gD,gG,gH,fT⟩,-⟩:=iV (t:=t') hT;have hT:Own W (tB B t'::aY bc b0 bt c mn cp::(bt,.map es' bO)::mB b0 b1 g.length cnt::wB b1 g::tB B2 t::m) Ej:=hT;have hT:Own W (tB B t'::tB B2 t::aY bc b0 bt c mn cp::(bt,.map es' bO)::mB b0 b1 g.length cnt::wB b1 g::m) Ej:=hT.perm (fO fun _ q=>by simp only[Zxv];omega);exact bodyPost_ret (v:=.tuple #[bH t',.int .i64 0]) (by simp[results,Tryz.f15,go_sem,x0,x1,x2,x3,x4,x5,x6,x7,x8,x9,x10,gz,gB,gD,gG,gH,fT,bH]) rfl ⟨es',bO,rfl,K1.out,hT.skip.skip⟩
end
end Cw
namespace Cw
open Go Mem See
open Go.RowKit
open Apart (tF)
attribute [local go_sem ↓] Go.wp_at_zero Go.wp_at_succ
section
variable {W w:World}{m:List (Nat×Obj)}{bc b0 b1 bt b:Nat}{c:Ch}{mn cp cnt:Nat}{g g':List Nat}{es:Array MapEntry}{ck n:Nat}{tk:Nat→Option Tk}
theorem Zo4 (t:Tk):(t.want≠0∧t.pc≠77∧t.pc≠78∧Cv.makes t=false)∨(t.want≠0∧t.pc=77∧Cv.makes t=true)∨(t.want≠0∧t.pc≠77∧t.pc=78∧Cv.makes t=true)∨(t.want=0∧t.pc=43∧Cv.makes t=true)∨(t.want=0∧t.pc≠43∧t.pc=44∧Cv.makes t=true) ∨
 (t.want=0∧t.pc≠43∧t.pc≠44∧t.pc=77∧Cv.makes t=true)∨(t.want=0∧t.pc≠43∧t.pc≠44∧t.pc≠77∧t.pc=78∧Cv.makes t=true)∨(t.want=0∧t.pc≠43∧t.pc≠44∧t.pc≠77∧t.pc≠78∧Cv.makes t=false):=by
 unfold Cv.makes;by_cases h0:t.want=0<;>by_cases h1:t.pc=43<;>by_cases h2:t.pc=44<;>by_cases h3:t.pc=77<;>by_cases h4:t.pc=78<;>simp[h0,h1,h2,h3,h4]<;>omega
theorem Gp {k:Int}(h:0≤k∧k<32):(Lit.int .i64 k).wf=true:=by
 simp[Lit.wf,IntKind.min,IntKind.max,IntKind.signed,IntKind.bits];omega
theorem CX {w:World}{bi:Nat}{m:List (Nat×Obj)}{a:Option Nat}{k l:Nat}{s:Array Nat}(h:Own W ((bi,.mapIter a k s l)::m) w):w.iterSeen bi=s:=by
 unfold World.iterSeen;rw[h.get ZnJ]
theorem YB (hc:sI c (mn:Int) (cp:Int))(hv:VM es ck n (oo tk c.C))(hn:n<1000000000)(bC:∀ j t,j<c.C→tk j=some t→Cv.makes t=true→0≤t.aA∧t.aA<32)(hg:g.length=c.words)(Nt:g.length≤4096) :
 YH bc b0 b1 bt c mn cp es ck g cnt (((Cv.oF c g tk).getD 0:Nat):Int) (Cv.oF c g tk).isSome:=by
 intro W w m h;have HV:=ZkQ hv;have Bn:=ZkQ bC;have HC:=ZkQ hc;have HN:=ZkQ hn;have HG:=ZkQ hg;have HG2:=ZkQ Nt;have HM:=ZkQ (PQ h);clear hv bC hc hn hg Nt h
 go_enter Tryz.func24,Tryz.ntmps24
 go_wp2_with fail
 refine HM.out.mono ?_;rintro e w2 ⟨rfl,h2⟩;obtain⟨y0,y1,y2,y3,y4,y5,y6,y7⟩:=mP h2;have pO:=fun w:World=>run_makeMap (P:=Tryz.prog) 98 w;have h3:Own W ((w2.heap.size,.map #[] 0)::aY bc b0 bt c mn cp::(bt,.map es ck)::mB b0 b1 g.length cnt::wB b1 g::m) (w2.alloc (.map #[] 0)):=h2.new (.map #[] 0);obtain⟨bm,z8⟩:∃ B,w2.heap.size=B:=⟨_,rfl⟩;rw[z8]at h3;obtain⟨z0,z1,z2,z3,z4,z5,z6,z7⟩:=mP h3.skip;have H3:=ZkQ h3;clear h2 h3 HM y0 y1 y2 y3 y4 y5 y6 y7
 go_wp2_with (first
  |(refine Zkg (es:=es) (ck:=ck) rfl _ _ rfl rfl Tryz.underlying69 H3.out (by simp) ?_;intro bi w4 h4;have H4:=ZkQ h4;clear h4 z8 z0 z1 z2 z3 z4 z5 z6 z7))
 clear pO H3;simp only[Act.put,ZnK,Zxo,Zqa]
 go_loopw [] (fun wr=>∃ (seen:Array Nat) (fm:Int→Option Int) (es2:Array MapEntry) (ck2 n2:Nat),Own W ((bi,.mapIter (some bt) ck seen ck)::(bm,.map es2 ck2)::aY bc b0 bt c mn cp::(bt,.map es ck)::mB b0 b1 g.length cnt::wB b1 g::m) wr∧IM es2 n2 fm∧n2+(leftOf es seen).size≤n∧xW es seen fm) (fun wr=>(leftOf es (wr.iterSeen bi)).size)
 case atStart =>
  refine⟨#[],fun _=>Option.none,#[],0,0,H4.out,IM.nil,?_,xW.nil⟩;have h1:=HV.out.size;have h2:(leftOf es #[]).size≤es.size:=Array.size_filter_le;omega
 case round =>
  obtain⟨seen,fm,es2,ck2,n2,hO,hIM,jT,hL⟩:=hrel;have HO:=ZkQ hO;have lI:=ZkQ hIM;have vF:=ZkQ jT;have HL:=ZkQ hL;have Et:=ZkQ (CX hO);clear hO hIM jT hL H4;by_cases h0:(leftOf es seen).size=0
  ·have H0:=ZkQ h0
   clear h0;obtain⟨y0,y1,y2,y3,y4,y5,y6,y7⟩:=mP HO.out.skip.skip
   go_wp2_with (first
    |(refine Zke (es:=es) (ck:=ck) rfl _ rfl rfl HO.out (by simp) HV.out.old (Zxt _) H0.out ?_))
   have KN:=ZkQ (HO.out.perm (m':=mB b0 b1 g.length cnt::wB b1 g::aY bc b0 bt c mn cp::(bi,.mapIter (some bt) ck seen ck)::(bm,.map es2 ck2)::(bt,.map es ck)::m) (fO fun _ q=>by simp only[Zxv];omega));refine(ZN KN.out rfl HG2.out).mono ?_;rintro e w6 ⟨v',bs',rfl,hs,h6⟩;have sF:0<g.length:=by
    rw[HG.out];unfold Ch.words;omega
   obtain⟨B,cap,cur,rfl,rfl,uP,Rv,hcs,dI⟩:=hs.form sF;have R8:=ZkQ hs;have h6:Own W ((B,.cells cur 22)::aY bc b0 bt c mn cp::(bm,.map es2 ck2)::(bt,.map es ck)::mB b0 b1 g.length cnt::wB b1 g::(bi,.mapIter (some bt) ck seen ck)::m) w6:=h6.perm (fO fun _ q=>by simp only[Zxv,List.cons_append,List.nil_append];omega);have H6:=ZkQ h6;have KI:=ZkQ HC.out.nums;have hcell:∀ (v:World) (M:List (Nat×Obj)),Own W ((B,.cells cur 22)::M) v→∀ (j x:Nat),g[j]?=some x→v.cell? ⟨B,j,Option.none⟩=some (.int .u64 (x:Int)):=fun v M hv j x hx=>R8.out.cell (m:=M) hv rfl (Uj hx);have En:=ZkQ hcell;clear hs h6 sF uP Rv hcs dI hcell y0 y1 y2 y3 y4 y5 y6 y7 KN HO;obtain⟨y0,y1,y2,y3,y4,y5,y6,y7⟩:=mP H6.out.skip;go_upto_region 12 with fail
   clear y0 y1 y2 y3 y4 y5 y6 y7
   go_loopw [59] (fun kv wr=>∃ k:Nat,kv = .int .i64 (k:Int)∧k≤c.S∧(∀ s,s<k→(See.at_ g (fq c s+1)==0 && !Cv.zt tk c.C s)=false)∧Own W ((B,.cells cur 22)::aY bc b0 bt c mn cp::(bm,.map es2 ck2)::(bt,.map es ck)::mB b0 b1 g.length cnt::wB b1 g::(bi,.mapIter (some bt) ck seen ck)::m) wr) (fun kv _=>c.S - (intOf kv).toNat)
   case atStart=>exact⟨0,rfl,ZxV _,(fun s hs=>by omega),H6.out⟩
   case round =>
    obtain⟨k,rfl,hk,fJ,hr⟩:=hrel;have OV:=ZkQ fJ;have HR:=ZkQ hr;obtain⟨y0,y1,y2,y3,y4,y5,y6,y7⟩:=mP hr.skip;clear fJ hr H6;by_cases aK:k<c.S
    ·have NN:(k:Int)<(c.S:Int):=by omega
     have eH:=ZkQ aK;clear aK hk;go_wp2_with fail
     refine(Apart.Mk (key:=c.key) (i:=(k:Int)) HC.out.ok ⟨by omega,NN⟩ HR.out).mono ?_;rintro e w7 ⟨rfl,h7⟩;have hlen:fq c k+1<g.length:=by
      have:=eH.out;rw[HG.out];unfold Ch.words;show 4 * c.C+4+4 * k+1<_;generalize c.S * c.O=q;omega
     obtain⟨x,hx⟩:∃ x,g[fq c k+1]?=some x:=⟨_,Zxp hlen⟩;have Ag:=HG2.out;obtain⟨P,hP⟩:∃ P:Int,4 * (c.C:Int)+4+4 * (k:Int)=P:=⟨_,rfl⟩;obtain⟨p1,jE⟩:∃ p1:Nat,fq c k+1=p1:=⟨_,rfl⟩;have gK:See.at_ g (fq c k+1)=x:=by
      unfold See.at_;rw[Zxx,hx];rfl
     rw[jE]at hx hlen;have mD:4 * c.C+4+4 * k+1=p1:=jE;have e1:P+1=(p1:Int):=(by omega);have e3:wrap64 (p1:Int)=(p1:Int):=ZxD _ (by omega);have e2:IntKind.i64.wrap (P+1)=(p1:Int):=(by rw[e1];exact Ex.wS (by omega) (by omega));have bb1:(0:Int)≤(p1:Int):=(by omega);have bb2:(p1:Int)<(g.length:Int):=(by omega);have mU:=En.out _ _ h7 p1 x hx;obtain⟨y0,y1,y2,y3,y4,y5,y6,y7⟩:=mP h7.skip;have H7:=ZkQ h7;have HB:=ZkQ (h7.skip.skip.get (b:=bm) (o:=.map es2 ck2) ZnJ);have jh:=ZkQ (Gp (k:=(k:Int)) (by have:=KI.out;have:=eH.out;omega));have xV:Hid (wrap64 ((k:Int)+1)=((k+1:Nat):Int)):=ZkQ (ZxD _ (by have:=KI.out;have:=eH.out;omega));have hall:=HL.out.all HV.out H0.out k;obtain⟨z,hz⟩:∃ z:Int,(fm (k:Int)).getD 0=z:=⟨_,rfl⟩;rw[hz]at hall;have HZ:=ZkQ hz;have HAT:=ZkQ gK;have Kz:=ZkQ hall;rw[hP];clear hx hlen Ag jE mD gK h7 hz hall hP En;by_cases dw:x=0
     ·subst dw
      by_cases hm:Cv.zt tk c.C k=true
      ·have vk:(z==0)=false:=by rw[Kz.out,hm];rfl
       have HM:=ZkQ hm;clear hm;go_wp2_with (first|(at_lookup;refine XG (by kernel_rfl) _ _ rfl rfl rfl lI.out HB.out jh.out ?_;rw[HZ.out]))
       rw[show wrap64 ((k:Int)+1)=((k+1:Nat):Int) from xV.out];refine⟨⟨k+1,rfl,by have:=eH.out;omega,fun s hs => ?_,H7.out⟩,by have:=eH.out;simp[intOf];omega⟩;by_cases e:s=k
       ·subst e
        rw[HM.out,Bool.not_true,Bool.and_false]
       ·exact OV.out s (by omega)
      ·have hm:Cv.zt tk c.C k=false:=by simpa using hm
       have vk:(z==0)=true:=(by rw[Kz.out,hm];rfl);have HM:=ZkQ hm;clear hm;go_wp2_with (first|(at_lookup;refine XG (by kernel_rfl) _ _ rfl rfl rfl lI.out HB.out jh.out ?_;rw[HZ.out]))
       have lZ:Cv.oF c g tk=some k:=by
        unfold Cv.oF;rw[List.find?_range_eq_some];refine⟨by rw[HAT.out,HM.out];rfl,List.mem_range.2 eH.out,fun j hj=>by rw[OV.out j hj];rfl⟩
       rw[lZ]
       go_ret2
       exact⟨rfl,(H7.out.skip.perm (m':=(bm,.map es2 ck2)::(bi,.mapIter (some bt) ck seen ck)::aY bc b0 bt c mn cp::(bt,.map es ck)::mB b0 b1 g.length cnt::wB b1 g::m) (fO fun _ q=>by simp only[Zxv];omega)).skip.skip⟩
     ·have vk:((x:Int)==0)=false:=by simpa using dw
      have HX0:=ZkQ dw;clear dw;go_wp2_with fail
      rw[show wrap64 ((k:Int)+1)=((k+1:Nat):Int) from xV.out];refine⟨⟨k+1,rfl,by have:=eH.out;omega,fun s hs => ?_,H7.out⟩,by have:=eH.out;simp[intOf];omega⟩;by_cases e:s=k
      ·subst e
       rw[HAT.out];have:(x==0)=false:=(by simpa using HX0.out);rw[this,Bool.false_and]
      ·exact OV.out s (by omega)
    ·obtain rfl:k=c.S:=by omega
     have NN:¬ (c.S:Int)<(c.S:Int):=(by omega);go_wp2_with fail
     have lZ:Cv.oF c g tk=Option.none:=by
      unfold Cv.oF;rw[List.find?_range_eq_none];exact fun j hj=>by rw[OV.out j hj];rfl
     rw[lZ]
     go_ret2
     exact⟨rfl,(HR.out.skip.perm (m':=(bm,.map es2 ck2)::(bi,.mapIter (some bt) ck seen ck)::aY bc b0 bt c mn cp::(bt,.map es ck)::mB b0 b1 g.length cnt::wB b1 g::m) (fO fun _ q=>by simp only[Zxv];omega)).skip.skip⟩
  ·have H0:=ZkQ h0
   clear h0
   go_upto_region 7 with(first
    |(refine Zkf (es:=es) (ck:=ck) rfl _ rfl rfl HO.out (by simp) HV.out.old (Zxt _) H0.out ?_;intro e w5 he jN;obtain⟨j,t,hj,htj,Nk,Fu⟩:=Zz HV.out (mem_left he).1;have HE:=ZkQ he;have HJ:=ZkQ hj;have HTJ:=ZkQ htj;have H5:=ZkQ jN;have CQ:=ZkQ Fu;have h6:=jN.new z17;obtain⟨B,hB⟩:=Zx9 (w5.heap.size);rw[hB]at h6;have H6:=ZkQ h6;have HT:=ZkQ (jU t);clear he jN hj htj Fu Nk h6)
    |(refine Zkd rfl _ rfl rfl H5.out (by simp) (mem_left HE.out).1 HV.out.born ?_;rw[CQ.out])
    |(refine jm (t:=59) (new:=dm t) rfl _ _ rfl rfl rfl gQ H6.out rfl HT.out ?_;intro w7 hS;have H7:=ZkQ hS;clear hS hB))
   have HT2:=ZkQ (mem_left HE.out).1;have wM:Hid (Cv.makes t=true→0≤t.aA∧t.aA<32):=Bn.out j t HJ.out HTJ.out;obtain⟨⟨x0,x1,x2,x3,x4,x5,x6,x7,x8,x9,x10,gz,gB,gD,gG,gH,fT⟩,-⟩:=iV (t:=t) H7.out;clear x0 x1 x3 x6 x7 x8 x9 x10 gz gB gD gG gH fT Bn;rcases Zo4 t with⟨q1,q2,q3,hm⟩|⟨q1,q2,hm⟩|⟨q1,q2,q3,hm⟩|⟨q1,q2,hm⟩|⟨q1,q2,q3,hm⟩|⟨q1,q2,q3,q4,hm⟩|⟨q1,q2,q3,q4,q5,hm⟩|⟨q1,q2,q3,q4,q5,hm⟩;all_goals have vE:=ZkQ hm
   all_goals clear hm
   ·have d1:(t.want==0)=false:=by simpa using q1
    have d2:(t.pc==77)=false:=(by simpa using q2);have d3:(t.pc==78)=false:=(by simpa using q3);clear q1 q2 q3;go_wp2_with fail
    refine⟨⟨seen.push e.born,fm,es2,ck2,n2,H7.out.skip,lI.out,?_,HL.out.skip HV.out HE.out CQ.out vE.out⟩,?_⟩
    ·have:=left_shrinks es seen e HE.out
     have:=vF.out;omega
    ·rw[CX H7.out.skip,Et.out]
     exact left_shrinks _ _ _ HE.out
   ·have d1:(t.want==0)=false:=by simpa using q1
    have d2:(t.pc==77)=true:=(by simpa using q2);clear q1 q2;have HS2:=ZkQ (wM.out vE.out);have HW:=ZkQ (Gp HS2.out);have H8:Hid (Own W ((bm,.map es2 ck2)::tB B t::(bi,.mapIter (some bt) ck (seen.push e.born) ck)::aY bc b0 bt c mn cp::(bt,.map es ck)::mB b0 b1 g.length cnt::wB b1 g::m) w7):=H7.out.perm (fO fun _ q=>by simp only[Zxv,tB];omega);have pW:Hid (n2<maxLen):=by have:=vF.out;have:=HN.out;unfold maxLen;exact ZkQ (by omega)
    go_wp2_with (first
     |(at_mapUpdate;refine Eu rfl _ _ _ rfl rfl rfl rfl lI.out H8.out pW.out HW.out ?_;intro rG rF w9 k1 k2;have K1:=ZkQ k1;have K2:=ZkQ k2;clear k1 k2;dsimp only[Act.put]))
    have K3:Own W ((bi,.mapIter (some bt) ck (seen.push e.born) ck)::(bm,.map rG rF)::aY bc b0 bt c mn cp::(bt,.map es ck)::mB b0 b1 g.length cnt::wB b1 g::tB B t::m) w9:=K2.out.perm (fO fun _ q=>by simp only[Zxv];omega)
    go_roundw
    case rel=>refine⟨seen.push e.born,uE fm t.aA 1,rG,rF,n2+1,K3.sub (((((((ZxC _ _).cons_cons _).cons_cons _).cons_cons _).cons_cons _).cons_cons _).cons_cons _),K1.out,?_,HL.out.put HV.out HE.out CQ.out vE.out⟩;have:=left_shrinks es seen e HE.out;have:=vF.out;omega
    case measure=>rw[CX K3,Et.out];exact left_shrinks _ _ _ HE.out
   ·have d1:(t.want==0)=false:=by simpa using q1
    have d2:(t.pc==77)=false:=(by simpa using q2);have d3:(t.pc==78)=true:=(by simpa using q3);clear q1 q2 q3;have HS2:=ZkQ (wM.out vE.out);have HW:=ZkQ (Gp HS2.out);have H8:Hid (Own W ((bm,.map es2 ck2)::tB B t::(bi,.mapIter (some bt) ck (seen.push e.born) ck)::aY bc b0 bt c mn cp::(bt,.map es ck)::mB b0 b1 g.length cnt::wB b1 g::m) w7):=H7.out.perm (fO fun _ q=>by simp only[Zxv,tB];omega);have pW:Hid (n2<maxLen):=by have:=vF.out;have:=HN.out;unfold maxLen;exact ZkQ (by omega)
    go_wp2_with (first
     |(at_mapUpdate;refine Eu rfl _ _ _ rfl rfl rfl rfl lI.out H8.out pW.out HW.out ?_;intro rG rF w9 k1 k2;have K1:=ZkQ k1;have K2:=ZkQ k2;clear k1 k2;dsimp only[Act.put]))
    have K3:Own W ((bi,.mapIter (some bt) ck (seen.push e.born) ck)::(bm,.map rG rF)::aY bc b0 bt c mn cp::(bt,.map es ck)::mB b0 b1 g.length cnt::wB b1 g::tB B t::m) w9:=K2.out.perm (fO fun _ q=>by simp only[Zxv];omega)
    go_roundw
    case rel=>refine⟨seen.push e.born,uE fm t.aA 1,rG,rF,n2+1,K3.sub (((((((ZxC _ _).cons_cons _).cons_cons _).cons_cons _).cons_cons _).cons_cons _).cons_cons _),K1.out,?_,HL.out.put HV.out HE.out CQ.out vE.out⟩;have:=left_shrinks es seen e HE.out;have:=vF.out;omega
    case measure=>rw[CX K3,Et.out];exact left_shrinks _ _ _ HE.out
   ·have d1:(t.want==0)=true:=by simpa using q1
    have d2:(t.pc==43)=true:=(by simpa using q2);clear q1 q2;have HS2:=ZkQ (wM.out vE.out);have HW:=ZkQ (Gp HS2.out);have H8:Hid (Own W ((bm,.map es2 ck2)::tB B t::(bi,.mapIter (some bt) ck (seen.push e.born) ck)::aY bc b0 bt c mn cp::(bt,.map es ck)::mB b0 b1 g.length cnt::wB b1 g::m) w7):=H7.out.perm (fO fun _ q=>by simp only[Zxv,tB];omega);have pW:Hid (n2<maxLen):=by have:=vF.out;have:=HN.out;unfold maxLen;exact ZkQ (by omega)
    go_wp2_with (first
     |(at_mapUpdate;refine Eu rfl _ _ _ rfl rfl rfl rfl lI.out H8.out pW.out HW.out ?_;intro rG rF w9 k1 k2;have K1:=ZkQ k1;have K2:=ZkQ k2;clear k1 k2;dsimp only[Act.put]))
    have K3:Own W ((bi,.mapIter (some bt) ck (seen.push e.born) ck)::(bm,.map rG rF)::aY bc b0 bt c mn cp::(bt,.map es ck)::mB b0 b1 g.length cnt::wB b1 g::tB B t::m) w9:=K2.out.perm (fO fun _ q=>by simp only[Zxv];omega)
    go_roundw
    case rel=>refine⟨seen.push e.born,uE fm t.aA 1,rG,rF,n2+1,K3.sub (((((((ZxC _ _).cons_cons _).cons_cons _).cons_cons _).cons_cons _).cons_cons _).cons_cons _),K1.out,?_,HL.out.put HV.out HE.out CQ.out vE.out⟩;have:=left_shrinks es seen e HE.out;have:=vF.out;omega
    case measure=>rw[CX K3,Et.out];exact left_shrinks _ _ _ HE.out
   ·have d1:(t.want==0)=true:=by simpa using q1
    have d2:(t.pc==43)=false:=(by simpa using q2);have d3:(t.pc==44)=true:=(by simpa using q3);clear q1 q2 q3;have HS2:=ZkQ (wM.out vE.out);have HW:=ZkQ (Gp HS2.out);have H8:Hid (Own W ((bm,.map es2 ck2)::tB B t::(bi,.mapIter (some bt) ck (seen.push e.born) ck)::aY bc b0 bt c mn cp::(bt,.map es ck)::mB b0 b1 g.length cnt::wB b1 g::m) w7):=H7.out.perm (fO fun _ q=>by simp only[Zxv,tB];omega);have pW:Hid (n2<maxLen):=by have:=vF.out;have:=HN.out;unfold maxLen;exact ZkQ (by omega)
    go_wp2_with (first
     |(at_mapUpdate;refine Eu rfl _ _ _ rfl rfl rfl rfl lI.out H8.out pW.out HW.out ?_;intro rG rF w9 k1 k2;have K1:=ZkQ k1;have K2:=ZkQ k2;clear k1 k2;dsimp only[Act.put]))
    have K3:Own W ((bi,.mapIter (some bt) ck (seen.push e.born) ck)::(bm,.map rG rF)::aY bc b0 bt c mn cp::(bt,.map es ck)::mB b0 b1 g.length cnt::wB b1 g::tB B t::m) w9:=K2.out.perm (fO fun _ q=>by simp only[Zxv];omega)
    go_roundw
    case rel=>refine⟨seen.push e.born,uE fm t.aA 1,rG,rF,n2+1,K3.sub (((((((ZxC _ _).cons_cons _).cons_cons _).cons_cons _).cons_cons _).cons_cons _).cons_cons _),K1.out,?_,HL.out.put HV.out HE.out CQ.out vE.out⟩;have:=left_shrinks es seen e HE.out;have:=vF.out;omega
    case measure=>rw[CX K3,Et.out];exact left_shrinks _ _ _ HE.out
   ·have d1:(t.want==0)=true:=by simpa using q1
    have d2:(t.pc==43)=false:=(by simpa using q2);have d3:(t.pc==44)=false:=(by simpa using q3);have d4:(t.pc==77)=true:=(by simpa using q4);clear q1 q2 q3 q4;have HS2:=ZkQ (wM.out vE.out);have HW:=ZkQ (Gp HS2.out);have H8:Hid (Own W ((bm,.map es2 ck2)::tB B t::(bi,.mapIter (some bt) ck (seen.push e.born) ck)::aY bc b0 bt c mn cp::(bt,.map es ck)::mB b0 b1 g.length cnt::wB b1 g::m) w7):=H7.out.perm (fO fun _ q=>by simp only[Zxv,tB];omega);have pW:Hid (n2<maxLen):=by have:=vF.out;have:=HN.out;unfold maxLen;exact ZkQ (by omega)
    go_wp2_with (first
     |(at_mapUpdate;refine Eu rfl _ _ _ rfl rfl rfl rfl lI.out H8.out pW.out HW.out ?_;intro rG rF w9 k1 k2;have K1:=ZkQ k1;have K2:=ZkQ k2;clear k1 k2;dsimp only[Act.put]))
    have K3:Own W ((bi,.mapIter (some bt) ck (seen.push e.born) ck)::(bm,.map rG rF)::aY bc b0 bt c mn cp::(bt,.map es ck)::mB b0 b1 g.length cnt::wB b1 g::tB B t::m) w9:=K2.out.perm (fO fun _ q=>by simp only[Zxv];omega)
    go_roundw
    case rel=>refine⟨seen.push e.born,uE fm t.aA 1,rG,rF,n2+1,K3.sub (((((((ZxC _ _).cons_cons _).cons_cons _).cons_cons _).cons_cons _).cons_cons _).cons_cons _),K1.out,?_,HL.out.put HV.out HE.out CQ.out vE.out⟩;have:=left_shrinks es seen e HE.out;have:=vF.out;omega
    case measure=>rw[CX K3,Et.out];exact left_shrinks _ _ _ HE.out
   ·have d1:(t.want==0)=true:=by simpa using q1
    have d2:(t.pc==43)=false:=(by simpa using q2);have d3:(t.pc==44)=false:=(by simpa using q3);have d4:(t.pc==77)=false:=(by simpa using q4);have d5:(t.pc==78)=true:=(by simpa using q5);clear q1 q2 q3 q4 q5;have HS2:=ZkQ (wM.out vE.out);have HW:=ZkQ (Gp HS2.out);have H8:Hid (Own W ((bm,.map es2 ck2)::tB B t::(bi,.mapIter (some bt) ck (seen.push e.born) ck)::aY bc b0 bt c mn cp::(bt,.map es ck)::mB b0 b1 g.length cnt::wB b1 g::m) w7):=H7.out.perm (fO fun _ q=>by simp only[Zxv,tB];omega);have pW:Hid (n2<maxLen):=by have:=vF.out;have:=HN.out;unfold maxLen;exact ZkQ (by omega)
    go_wp2_with (first
     |(at_mapUpdate;refine Eu rfl _ _ _ rfl rfl rfl rfl lI.out H8.out pW.out HW.out ?_;intro rG rF w9 k1 k2;have K1:=ZkQ k1;have K2:=ZkQ k2;clear k1 k2;dsimp only[Act.put]))
    have K3:Own W ((bi,.mapIter (some bt) ck (seen.push e.born) ck)::(bm,.map rG rF)::aY bc b0 bt c mn cp::(bt,.map es ck)::mB b0 b1 g.length cnt::wB b1 g::tB B t::m) w9:=K2.out.perm (fO fun _ q=>by simp only[Zxv];omega)
    go_roundw
    case rel=>refine⟨seen.push e.born,uE fm t.aA 1,rG,rF,n2+1,K3.sub (((((((ZxC _ _).cons_cons _).cons_cons _).cons_cons _).cons_cons _).cons_cons _).cons_cons _),K1.out,?_,HL.out.put HV.out HE.out CQ.out vE.out⟩;have:=left_shrinks es seen e HE.out;have:=vF.out;omega
    case measure=>rw[CX K3,Et.out];exact left_shrinks _ _ _ HE.out
   ·have d1:(t.want==0)=true:=by simpa using q1
    have d2:(t.pc==43)=false:=(by simpa using q2);have d3:(t.pc==44)=false:=(by simpa using q3);have d4:(t.pc==77)=false:=(by simpa using q4);have d5:(t.pc==78)=false:=(by simpa using q5);clear q1 q2 q3 q4 q5;go_wp2_with fail
    refine⟨⟨seen.push e.born,fm,es2,ck2,n2,H7.out.skip,lI.out,?_,HL.out.skip HV.out HE.out CQ.out vE.out⟩,?_⟩
    ·have:=left_shrinks es seen e HE.out
     have:=vF.out;omega
    ·rw[CX H7.out.skip,Et.out]
     exact left_shrinks _ _ _ HE.out
end
end Cw
end Go.Proofs.YtfcpdlbkmkhhcaaGreatDoor
