/-
  Texts of this claim, joined. No condition.
-/
import Derived.Test.YtfcpdlbkmkhhcaaGreatDoorCn36
import Derived.Test.YtfcpdlbkmkhhcaaGreatDoorCn24
import Derived.Test.YtfcpdlbkmkhhcaaGreatDoorCn17
import Derived.Test.YtfcpdlbkmkhhcaaGreatDoorCn15
namespace Go.Proofs.YtfcpdlbkmkhhcaaGreatDoor.Cw
open Go Ex Mem
open Go.RowKit
section
variable {es:Array MapEntry}{ck n C:Nat}{tk:Nat→Option Tk}{seen:Array Nat}{fm:Int→Option Int}{e:MapEntry}{t:Tk}
structure LpA (es:Array MapEntry)(seen:Array Nat)(fm:Int→Option Int):Prop where
 one:∀ k v,fm k=some v→v=1
 is:∀ k,(fm k).isSome=true↔∃ x∈es.toList,seen.contains x.born=true∧∃ t,x.val=tkV t∧Cv.makes t=true∧t.slab=k
theorem LpA.nil:LpA es #[] (fun _=>none):=⟨fun _ _ h=>(by cases h),fun k=>⟨fun h=>(by cases h),fun ⟨x,_,h,_⟩=>(by simp at h)⟩⟩
theorem Zll (hv:VM es ck n (fOf tk C))(he:e∈es.toList):∃ j t,j<C∧tk j=some t∧e.key = .int .i64 (j:Int)∧e.val=tkV t:=by
 obtain ⟨k,hk,-⟩:=hv.ints e he
 have h:=(hv.fits k e.val).2 ⟨e,he,hk,rfl⟩
 unfold fOf at h
 split at h
 ·rename_i hb
  cases ht:tk k.toNat with
  | none=>rw [ht] at h; cases h
  | some t =>
    rw [ht] at h
    exact ⟨k.toNat,t,by omega,ht,by rw [hk]; congr 1; omega,(Option.some.inj h).symm⟩
 ·cases h
theorem ZdU (hv:VM es ck n (fOf tk C))(he:e∈(leftOf es seen).toList){x:MapEntry}(hx:x∈es.toList):(seen.push e.born).contains x.born=true↔seen.contains x.born=true∨x=e:=by
 rw [contains_push,Bool.or_eq_true,beq_iff_eq]
 constructor
 ·rintro (h | h)
  ·exact .inl h
  ·exact .inr (born_inj hv.born hx (mem_left he).1 h)
 ·rintro (h | h)
  ·exact .inl h
  ·exact .inr (h ▸ rfl)
theorem LpA.put (h:LpA es seen fm)(hv:VM es ck n (fOf tk C))(he:e∈(leftOf es seen).toList)(ht:e.val=tkV t)(hm:Cv.makes t=true):LpA es (seen.push e.born) (Zmg fm t.slab 1):=by
 refine ⟨fun k v hk => ?_,fun k => ?_⟩
 ·unfold Zmg at hk
  split at hk
  ·cases hk
   rfl
  ·exact h.one k v hk
 ·unfold Zmg
  by_cases e1:k=t.slab
  ·rw [if_pos e1]
   exact ⟨fun _=>⟨e,(mem_left he).1,(ZdU hv he (mem_left he).1).2 (.inr rfl),t,ht,hm,e1.symm⟩,fun _=>rfl⟩
  ·rw [if_neg e1,h.is k]
   constructor
   ·rintro ⟨x,hx,h1,h2⟩
    exact ⟨x,hx,(ZdU hv he hx).2 (.inl h1),h2⟩
   ·rintro ⟨x,hx,h1,t2,h2,h3,h4⟩
    rcases (ZdU hv he hx).1 h1 with h5 | h5
    ·exact ⟨x,hx,h5,t2,h2,h3,h4⟩
    ·subst h5
     have:=Zla (h2.symm.trans ht)
     subst this
     exact absurd h4.symm e1
theorem LpA.skip (h:LpA es seen fm)(hv:VM es ck n (fOf tk C))(he:e∈(leftOf es seen).toList)(ht:e.val=tkV t)(hm:Cv.makes t=false):LpA es (seen.push e.born) fm:=by
 refine ⟨h.one,fun k => ?_⟩
 rw [h.is k]
 constructor
 ·rintro ⟨x,hx,h1,h2⟩
  exact ⟨x,hx,(ZdU hv he hx).2 (.inl h1),h2⟩
 ·rintro ⟨x,hx,h1,t2,h2,h3,h4⟩
  rcases (ZdU hv he hx).1 h1 with h5 | h5
  ·exact ⟨x,hx,h5,t2,h2,h3,h4⟩
  ·subst h5
   have:=Zla (h2.symm.trans ht)
   subst this
   rw [hm] at h3
   cases h3
theorem LpA.all (h:LpA es seen fm)(hv:VM es ck n (fOf tk C))(h0:(leftOf es seen).size=0)(s:Nat):((fm (s:Int)).getD 0==0) = !Cv.ZcC tk C s:=by
 have hs:=all_seen es seen h0
 by_cases hm:Cv.ZcC tk C s=true
 ·rw [hm]
  obtain ⟨j,hj,t,ht,h1,h2⟩:=Cv.Zds.1 hm
  have hf:fOf tk C (j:Int)=some (tkV t):=by rw [Zei hj,ht]; rfl
  obtain ⟨x,hx,-,hxv⟩:=(hv.fits _ _).1 hf
  have h3:=(h.is (s:Int)).2 ⟨x,hx,hs x hx,t,hxv,h1,h2⟩
  obtain ⟨v,hv2⟩:=Option.isSome_iff_exists.1 h3
  rw [hv2,h.one _ _ hv2]
  rfl
 ·have hm2:Cv.ZcC tk C s=false:=by simpa using hm
  rw [hm2]
  cases hf:fm (s:Int) with
  | none=>rfl
  | some v =>
    exfalso
    obtain ⟨x,hx,-,t,h2,h3,h4⟩:=(h.is (s:Int)).1 (by rw [hf]; rfl)
    obtain ⟨j,t2,hj,ht2,-,h5⟩:=Zll hv hx
    have:=Zla (h5.symm.trans h2)
    subst this
    exact hm (Cv.Zds.2 ⟨j,hj,t2,ht2,h3,h4⟩)
end
end Go.Proofs.YtfcpdlbkmkhhcaaGreatDoor.Cw

namespace Go.Proofs.YtfcpdlbkmkhhcaaGreatDoor.Cw
open Go Mem See
open Go.RowKit
attribute [local go_sem ↓] Go.wp_at_zero Go.wp_at_succ
section
variable {W w:World}{m:List (Nat×Obj)}{bc b0 b1 bt b:Nat}{c:Ch}{mn cp cnt:Nat}{t t':Tk}{g g':List Nat}{es:Array MapEntry}{ck n:Nat}{f:Int→Option Value}{i:Nat}
def ZiR (bc b0 b1 bt:Nat)(c:Ch)(mn cp:Nat)(es:Array MapEntry)(ck:Nat)(g:List Nat)(cnt:Nat)(s:Int)(is:Bool):Prop :=
 ∀ (W w:World) (m:List (Nat×Obj)),Own W (crB bc b0 bt c mn cp::(bt,.map es ck)::mB b0 b1 g.length cnt::wB b1 g::m) w →
  Calls Tryz.prog 24 #[.pointer (some ⟨bc,0,Option.none⟩)] w fun e w'=>e = .returned (.tuple #[.int .i64 s,.bool is])∧Own W (crB bc b0 bt c mn cp::(bt,.map es ck)::mB b0 b1 g.length cnt::wB b1 g::m) w'
def Zl0 (t:Tk)(is:Bool)(s:Int)(t':Tk):Prop :=
 ∀ (W w:World) (m:List (Nat×Obj)),Own W m w→Calls Tryz.prog 32 #[tkV t,.bool is,.int .i64 s] w fun e w'=>e = .returned (.tuple #[tkV t',.int .i64 0])∧Own W m w'
set_option maxRecDepth 100000 in
set_option maxHeartbeats 8000000 in
theorem Zi3 (h:Own W (crB bc b0 bt c mn cp::(bt,.map es ck)::mB b0 b1 g.length cnt::wB b1 g::m) w)(hC:c.C≤8)(hv:VM es ck n f)(hi:i<c.C)(hf:f i=some (tkV t))(hw:t.want=1)
 {s:Int} {is:Bool} (hfr:ZiR bc b0 b1 bt c mn cp es ck g cnt s is) (hfa:Zl0 t is s t') (hi':t'.cpu<9) :
 Calls Tryz.prog 15 #[.pointer (some ⟨bc,0,Option.none⟩),.int .i64 (i:Int),.bool is] w fun e w'=>∃ es' ck',e = .returned (.tuple #[tkV t',.int .i64 0])∧VM es' ck' (n+1) (Zlb f t')∧Own W (crB bc b0 bt c mn cp::(bt,.map es' ck')::mB b0 b1 g.length cnt::wB b1 g::m) w':=by
 have h1:Own W ((w.heap.size,z17)::crB bc b0 bt c mn cp::(bt,.map es ck)::mB b0 b1 g.length cnt::wB b1 g::m) (w.alloc z17):=h.new z17
 obtain ⟨B,hB⟩:∃ B,w.heap.size=B:=⟨_,rfl⟩
 rw [hB] at h1
 have h1:Own W (crB bc b0 bt c mn cp::(bt,.map es ck)::(B,z17)::mB b0 b1 g.length cnt::wB b1 g::m) (w.alloc z17):=h1.perm (up2 _ _ _ _).symm
 obtain ⟨wa,hwa⟩:∃ wa,w.alloc z17=wa:=⟨_,rfl⟩
 rw [hwa] at h1
 have HV:=Lib.hid hv
 have hm:=ZfF h1 hC hv hi hf
 rw [hw] at hm
 have HM:=Lib.hid hm
 have HF:=Lib.hid hfr
 have HG:=Lib.hid hfa
 have HI:=Lib.hid hi'
 clear h h1 hv hf hi hw hm hfr hfa hi'
 go_enter Tryz.func15,Tryz.ntmps15
 go_wp2_with fail
 refine HM.out.mono ?_
 rintro e w2 ⟨rfl,h2⟩
 have h3:Own W ((w2.heap.size,z17)::crB bc b0 bt c mn cp::(bt,.map es ck)::(B,z17)::mB b0 b1 g.length cnt::wB b1 g::m) (w2.alloc z17):=h2.new z17
 obtain ⟨B2,hB2⟩:∃ B,w2.heap.size=B:=⟨_,rfl⟩
 rw [hB2] at h3
 have H3:=Lib.hid h3
 have HT:=Lib.hid (ZaE t)
 clear h2 h3 HM hwa hB
 go_wp2_with (first
  | (refine Zab (t:=59) (new:=tkA t) rfl _ _ rfl rfl rfl Zap H3.out rfl HT.out ?_; intro w3 hS; have HX:Hid (Own W (tB B2 t::crB bc b0 bt c mn cp::(bt,.map es ck)::(B,z17)::mB b0 b1 g.length cnt::wB b1 g::m) w3):=hS; clear hS hB2))
 have H4:Hid (Own W (crB bc b0 bt c mn cp::(bt,.map es ck)::mB b0 b1 g.length cnt::wB b1 g::tB B2 t::(B,z17)::m) w3):=HX.out.perm (Zao fun _ q=>by simp only [List.count_cons]; omega)
 refine (HF.out _ _ _ H4.out).mono ?_
 rintro e w4 ⟨rfl,h5⟩
 have HX5:Hid (Own W (tB B2 t::crB bc b0 bt c mn cp::(bt,.map es ck)::mB b0 b1 g.length cnt::wB b1 g::(B,z17)::m) w4):=h5.perm (Zao fun _ q=>by simp only [List.count_cons]; omega)
 clear h5 H4 HX H3
 have hbb:(is && !is)=false:=by cases is <;> rfl
 cases is
 all_goals
  go_wp2_with (first
   | (refine Zaq (t:=59) (old:=tkA t) rfl _ rfl rfl Tryz.underlying59 HX5.out Zap ?_))
  refine (HG.out _ _ _ HX5.out).mono ?_
  rintro e w5 ⟨rfl,h5⟩
  have H5:Hid (Own W (crB bc b0 bt c mn cp::(bt,.map es ck)::mB b0 b1 g.length cnt::wB b1 g::tB B2 t::(B,z17)::m) w5):=h5.perm (Zao fun _ q=>by simp only [List.count_cons]; omega)
  clear h5 HX5
  go_wp2_with fail
  refine (Zdj H5.out HV.out HI.out).mono ?_
  rintro e w9 ⟨es',ck',rfl,k1,h9⟩
  have K1:=Lib.hid k1
  have H9:Hid (Own W ((B,z17)::crB bc b0 bt c mn cp::(bt,.map es' ck')::mB b0 b1 g.length cnt::wB b1 g::tB B2 t::m) w9):=h9.perm (Zao fun _ q=>by simp only [List.count_cons]; omega)
  have HT':=Lib.hid (ZaE t')
  clear k1 h9
  go_wp2_with (first
   | (refine Zab (t:=59) (new:=tkA t') rfl _ _ rfl rfl rfl Zap H9.out rfl HT'.out ?_; intro w10 hT))
  obtain ⟨⟨x0,x1,x2,x3,x4,x5,x6,x7,x8,x9,x10,x11,x12,x13,x14,x15,x16⟩,-⟩:=Za8 (t:=t') hT
  have hT:Own W (tB B t'::crB bc b0 bt c mn cp::(bt,.map es' ck')::mB b0 b1 g.length cnt::wB b1 g::tB B2 t::m) w10:=hT
  have hT:Own W (tB B t'::tB B2 t::crB bc b0 bt c mn cp::(bt,.map es' ck')::mB b0 b1 g.length cnt::wB b1 g::m) w10:=hT.perm (Zao fun _ q=>by simp only [List.count_cons]; omega)
  exact bodyPost_ret (v:=.tuple #[tkV t',.int .i64 0]) (by simp [results,Tryz.f15,go_sem,x0,x1,x2,x3,x4,x5,x6,x7,x8,x9,x10,x11,x12,x13,x14,x15,x16,tkV]) rfl ⟨es',ck',rfl,K1.out,hT.skip.skip⟩
end
end Go.Proofs.YtfcpdlbkmkhhcaaGreatDoor.Cw

namespace Go.Proofs.YtfcpdlbkmkhhcaaGreatDoor.Cw
open Go Mem See
open Go.RowKit
open Apart (chV)
attribute [local go_sem ↓] Go.wp_at_zero Go.wp_at_succ
section
variable {W w:World}{m:List (Nat×Obj)}{bc b0 b1 bt b:Nat}{c:Ch}{mn cp cnt:Nat}{g g':List Nat}{es:Array MapEntry}{ck n:Nat}{tk:Nat→Option Tk}
theorem Zo4 (t:Tk):(t.want≠0∧t.pc≠77∧t.pc≠78∧Cv.makes t=false)∨(t.want≠0∧t.pc=77∧Cv.makes t=true)∨(t.want≠0∧t.pc≠77∧t.pc=78∧Cv.makes t=true)∨(t.want=0∧t.pc=43∧Cv.makes t=true)∨(t.want=0∧t.pc≠43∧t.pc=44∧Cv.makes t=true) ∨
 (t.want=0∧t.pc≠43∧t.pc≠44∧t.pc=77∧Cv.makes t=true)∨(t.want=0∧t.pc≠43∧t.pc≠44∧t.pc≠77∧t.pc=78∧Cv.makes t=true)∨(t.want=0∧t.pc≠43∧t.pc≠44∧t.pc≠77∧t.pc≠78∧Cv.makes t=false):=by
 unfold Cv.makes
 by_cases h0:t.want=0 <;> by_cases h1:t.pc=43 <;> by_cases h2:t.pc=44 <;> by_cases h3:t.pc=77 <;> by_cases h4:t.pc=78 <;> simp [h0,h1,h2,h3,h4] <;> omega
theorem ZeM {k:Int}(h:0≤k∧k<32):(Lit.int .i64 k).wf=true:=by
 simp [Lit.wf,IntKind.min,IntKind.max,IntKind.signed,IntKind.bits]
 omega
theorem Zb1 {w:World}{bi:Nat}{m:List (Nat×Obj)}{a:Option Nat}{k l:Nat}{s:Array Nat}(h:Own W ((bi,.mapIter a k s l)::m) w):w.iterSeen bi=s:=by
 unfold World.iterSeen
 rw [h.get List.mem_cons_self]
set_option maxRecDepth 100000 in
set_option maxHeartbeats 40000000 in
theorem Zhx (hc:COk c (mn:Int) (cp:Int))(hv:VM es ck n (fOf tk c.C))(hn:n<1000000000)(hsl:∀ j t,j<c.C→tk j=some t→Cv.makes t=true→0≤t.slab∧t.slab<32)(hg:g.length=c.words)(hg2:g.length≤4096) :
 ZiR bc b0 b1 bt c mn cp es ck g cnt (((Cv.ZbI c g tk).getD 0:Nat):Int) (Cv.ZbI c g tk).isSome:=by
 intro W w m h
 have HV:=Lib.hid hv
 have HSL:=Lib.hid hsl
 have HC:=Lib.hid hc
 have HN:=Lib.hid hn
 have HG:=Lib.hid hg
 have HG2:=Lib.hid hg2
 have HM:=Lib.hid (ZgU h)
 clear hv hsl hc hn hg hg2 h
 go_enter Tryz.func24,Tryz.ntmps24
 go_wp2_with fail
 refine HM.out.mono ?_
 rintro e w2 ⟨rfl,h2⟩
 obtain ⟨y0,y1,y2,y3,y4,y5,y6,y7⟩:=Zgn h2
 have hmm:=fun w:World=>run_makeMap (P:=Tryz.prog) 98 w
 have h3:Own W ((w2.heap.size,.map #[] 0)::crB bc b0 bt c mn cp::(bt,.map es ck)::mB b0 b1 g.length cnt::wB b1 g::m) (w2.alloc (.map #[] 0)):=h2.new (.map #[] 0)
 obtain ⟨bm,hbm⟩:∃ B,w2.heap.size=B:=⟨_,rfl⟩
 rw [hbm] at h3
 obtain ⟨z0,z1,z2,z3,z4,z5,z6,z7⟩:=Zgn h3.skip
 have H3:=Lib.hid h3
 clear h2 h3 HM y0 y1 y2 y3 y4 y5 y6 y7
 go_wp2_with (first
  | (refine Zkg (es:=es) (ck:=ck) rfl _ _ rfl rfl Tryz.underlying69 H3.out (by simp) ?_; intro bi w4 h4; have H4:=Lib.hid h4; clear h4 hbm z0 z1 z2 z3 z4 z5 z6 z7))
 clear hmm H3
 simp only [Act.put,List.setIfInBounds_toArray,List.set_cons_succ,List.set_cons_zero]
 go_loopw [] (fun wr=>∃ (seen:Array Nat) (fm:Int→Option Int) (es2:Array MapEntry) (ck2 n2:Nat),Own W ((bi,.mapIter (some bt) ck seen ck)::(bm,.map es2 ck2)::crB bc b0 bt c mn cp::(bt,.map es ck)::mB b0 b1 g.length cnt::wB b1 g::m) wr∧IM es2 n2 fm∧n2+(leftOf es seen).size≤n∧LpA es seen fm) (fun wr=>(leftOf es (wr.iterSeen bi)).size)
 case atStart =>
  refine ⟨#[],fun _=>Option.none,#[],0,0,H4.out,IM.nil,?_,LpA.nil⟩
  have h1:=HV.out.size
  have h2:(leftOf es #[]).size≤es.size:=Array.size_filter_le
  omega
 case round =>
  obtain ⟨seen,fm,es2,ck2,n2,hO,hIM,hn2,hL⟩:=hrel
  have HO:=Lib.hid hO
  have HIM:=Lib.hid hIM
  have HN2:=Lib.hid hn2
  have HL:=Lib.hid hL
  have HSZ:=Lib.hid (Zb1 hO)
  clear hO hIM hn2 hL H4
  by_cases h0:(leftOf es seen).size=0
  ·have H0:=Lib.hid h0
   clear h0
   obtain ⟨y0,y1,y2,y3,y4,y5,y6,y7⟩:=Zgn HO.out.skip.skip
   go_wp2_with (first
    | (refine Zke (es:=es) (ck:=ck) rfl _ rfl rfl HO.out (by simp) HV.out.old (Nat.le_refl _) H0.out ?_))
   have HWS:=Lib.hid (HO.out.perm (m':=mB b0 b1 g.length cnt::wB b1 g::crB bc b0 bt c mn cp::(bi,.mapIter (some bt) ck seen ck)::(bm,.map es2 ck2)::(bt,.map es ck)::m) (Zao fun _ q=>by simp only [List.count_cons]; omega))
   refine (ZmD HWS.out rfl HG2.out).mono ?_
   rintro e w6 ⟨v',bs',rfl,hs,h6⟩
   have hwpos:0<g.length:=by
    rw [HG.out]
    unfold Ch.words
    omega
   obtain ⟨B,cap,cur,rfl,rfl,hcap,hmx,hcs,htk⟩:=hs.form hwpos
   have HSW:=Lib.hid hs
   have h6:Own W ((B,.cells cur 22)::crB bc b0 bt c mn cp::(bm,.map es2 ck2)::(bt,.map es ck)::mB b0 b1 g.length cnt::wB b1 g::(bi,.mapIter (some bt) ck seen ck)::m) w6:=h6.perm (Zao fun _ q=>by simp only [List.count_cons,List.cons_append,List.nil_append]; omega)
   have H6:=Lib.hid h6
   have HNUM:=Lib.hid HC.out.nums
   have hcell:∀ (v:World) (M:List (Nat×Obj)),Own W ((B,.cells cur 22)::M) v→∀ (j x:Nat),g[j]?=some x→v.cell? ⟨B,j,Option.none⟩=some (.int .u64 (x:Int)):=fun v M hv j x hx=>HSW.out.cell (m:=M) hv rfl (Zka hx)
   have HCELL:=Lib.hid hcell
   clear hs h6 hwpos hcap hmx hcs htk hcell y0 y1 y2 y3 y4 y5 y6 y7 HWS HO
   obtain ⟨y0,y1,y2,y3,y4,y5,y6,y7⟩:=Zgn H6.out.skip
   go_upto_region 12 with fail
   clear y0 y1 y2 y3 y4 y5 y6 y7
   go_loopw [59] (fun kv wr=>∃ k:Nat,kv = .int .i64 (k:Int)∧k≤c.S∧(∀ s,s<k→(See.at_ g (ZbU c s+1)==0 && !Cv.ZcC tk c.C s)=false)∧Own W ((B,.cells cur 22)::crB bc b0 bt c mn cp::(bm,.map es2 ck2)::(bt,.map es ck)::mB b0 b1 g.length cnt::wB b1 g::(bi,.mapIter (some bt) ck seen ck)::m) wr) (fun kv _=>c.S - (intOf kv).toNat)
   case atStart=>exact ⟨0,rfl,Nat.zero_le _,(fun s hs=>by omega),H6.out⟩
   case round =>
    obtain ⟨k,rfl,hk,hno,hr⟩:=hrel
    have HNO:=Lib.hid hno
    have HR:=Lib.hid hr
    obtain ⟨y0,y1,y2,y3,y4,y5,y6,y7⟩:=Zgn hr.skip
    clear hno hr H6
    by_cases hlt:k<c.S
    ·have hlt1:(k:Int)<(c.S:Int):=by omega
     have HLT:=Lib.hid hlt
     clear hlt hk
     go_wp2_with fail
     refine (Apart.ZoG (key:=c.key) (i:=(k:Int)) HC.out.ok ⟨by omega,hlt1⟩ HR.out).mono ?_
     rintro e w7 ⟨rfl,h7⟩
     have hlen:ZbU c k+1<g.length:=by
      have:=HLT.out
      rw [HG.out]
      unfold Ch.words
      show 4 * c.C+4+4 * k+1<_
      generalize c.S * c.O=q
      omega
     obtain ⟨x,hx⟩:∃ x,g[ZbU c k+1]?=some x:=⟨_,List.getElem?_eq_getElem hlen⟩
     have hgl:=HG2.out
     obtain ⟨P,hP⟩:∃ P:Int,4 * (c.C:Int)+4+4 * (k:Int)=P:=⟨_,rfl⟩
     obtain ⟨p1,hp1⟩:∃ p1:Nat,ZbU c k+1=p1:=⟨_,rfl⟩
     have hat:See.at_ g (ZbU c k+1)=x:=by
      unfold See.at_
      rw [List.getD_eq_getElem?_getD,hx]
      rfl
     rw [hp1] at hx hlen
     have hp2:4 * c.C+4+4 * k+1=p1:=hp1
     have e1:P+1=(p1:Int):=by omega
     have e3:wrap64 (p1:Int)=(p1:Int):=IntWalk.wrap64_in _ (by omega)
     have e2:IntKind.i64.wrap (P+1)=(p1:Int):=by rw [e1]; exact Ex.Zbe (by omega) (by omega)
     have bb1:(0:Int)≤(p1:Int):=by omega
     have bb2:(p1:Int)<(g.length:Int):=by omega
     have hc1:=HCELL.out _ _ h7 p1 x hx
     obtain ⟨y0,y1,y2,y3,y4,y5,y6,y7⟩:=Zgn h7.skip
     have H7:=Lib.hid h7
     have HB:=Lib.hid (h7.skip.skip.get (b:=bm) (o:=.map es2 ck2) List.mem_cons_self)
     have HWF:=Lib.hid (ZeM (k:=(k:Int)) (by have:=HNUM.out; have:=HLT.out; omega))
     have HWK:Hid (wrap64 ((k:Int)+1)=((k+1:Nat):Int)):=Lib.hid (IntWalk.wrap64_in _ (by have:=HNUM.out; have:=HLT.out; omega))
     have hall:=HL.out.all HV.out H0.out k
     obtain ⟨z,hz⟩:∃ z:Int,(fm (k:Int)).getD 0=z:=⟨_,rfl⟩
     rw [hz] at hall
     have HZ:=Lib.hid hz
     have HAT:=Lib.hid hat
     have HALL:=Lib.hid hall
     rw [hP]
     clear hx hlen hgl hp1 hp2 hat h7 hz hall hP HCELL
     by_cases hx0:x=0
     ·subst hx0
      by_cases hm:Cv.ZcC tk c.C k=true
      ·have hz0:(z==0)=false:=by rw [HALL.out,hm]; rfl
       have HM:=Lib.hid hm
       clear hm
       go_wp2_with (first | (at_lookup; refine Zer (by kernel_rfl) _ _ rfl rfl rfl HIM.out HB.out HWF.out ?_; rw [HZ.out]))
       rw [show wrap64 ((k:Int)+1)=((k+1:Nat):Int) from HWK.out]
       refine ⟨⟨k+1,rfl,by have:=HLT.out; omega,fun s hs => ?_,H7.out⟩,by have:=HLT.out; simp [intOf]; omega⟩
       by_cases e:s=k
       ·subst e
        rw [HM.out,Bool.not_true,Bool.and_false]
       ·exact HNO.out s (by omega)
      ·have hm:Cv.ZcC tk c.C k=false:=by simpa using hm
       have hz0:(z==0)=true:=by rw [HALL.out,hm]; rfl
       have HM:=Lib.hid hm
       clear hm
       go_wp2_with (first | (at_lookup; refine Zer (by kernel_rfl) _ _ rfl rfl rfl HIM.out HB.out HWF.out ?_; rw [HZ.out]))
       have hfr:Cv.ZbI c g tk=some k:=by
              unfold Cv.ZbI
              rw [List.find?_range_eq_some]
              refine ⟨by rw [HAT.out,HM.out]; rfl,List.mem_range.2 HLT.out,fun j hj=>by rw [HNO.out j hj]; rfl⟩
       rw [hfr]
       go_ret2
       exact ⟨rfl,(H7.out.skip.perm (m':=(bm,.map es2 ck2)::(bi,.mapIter (some bt) ck seen ck)::crB bc b0 bt c mn cp::(bt,.map es ck)::mB b0 b1 g.length cnt::wB b1 g::m) (Zao fun _ q=>by simp only [List.count_cons]; omega)).skip.skip⟩
     ·have hz0:((x:Int)==0)=false:=by simpa using hx0
      have HX0:=Lib.hid hx0
      clear hx0
      go_wp2_with fail
      rw [show wrap64 ((k:Int)+1)=((k+1:Nat):Int) from HWK.out]
      refine ⟨⟨k+1,rfl,by have:=HLT.out; omega,fun s hs => ?_,H7.out⟩,by have:=HLT.out; simp [intOf]; omega⟩
      by_cases e:s=k
      ·subst e
       rw [HAT.out]
       have:(x==0)=false:=by simpa using HX0.out
       rw [this,Bool.false_and]
      ·exact HNO.out s (by omega)
    ·obtain rfl:k=c.S:=by omega
     have hlt1:¬ (c.S:Int)<(c.S:Int):=by omega
     go_wp2_with fail
     have hfr:Cv.ZbI c g tk=Option.none:=by
      unfold Cv.ZbI
      rw [List.find?_range_eq_none]
      exact fun j hj=>by rw [HNO.out j hj]; rfl
     rw [hfr]
     go_ret2
     exact ⟨rfl,(HR.out.skip.perm (m':=(bm,.map es2 ck2)::(bi,.mapIter (some bt) ck seen ck)::crB bc b0 bt c mn cp::(bt,.map es ck)::mB b0 b1 g.length cnt::wB b1 g::m) (Zao fun _ q=>by simp only [List.count_cons]; omega)).skip.skip⟩
  ·have H0:=Lib.hid h0
   clear h0
   go_upto_region 7 with (first
    | (refine Zkf (es:=es) (ck:=ck) rfl _ rfl rfl HO.out (by simp) HV.out.old (Nat.le_refl _) H0.out ?_; intro e w5 he hw5; obtain ⟨j,t,hj,htj,hek,hev⟩:=Zll HV.out (mem_left he).1; have HE:=Lib.hid he; have HJ:=Lib.hid hj; have HTJ:=Lib.hid htj; have H5:=Lib.hid hw5; have HEV:=Lib.hid hev; have h6:=hw5.new z17; obtain ⟨B,hB⟩:∃ B,w5.heap.size=B:=⟨_,rfl⟩; rw [hB] at h6; have H6:=Lib.hid h6; have HT:=Lib.hid (ZaE t); clear he hw5 hj htj hev hek h6)
    | (refine Zkd rfl _ rfl rfl H5.out (by simp) (mem_left HE.out).1 HV.out.born ?_; rw [HEV.out])
    | (refine Zab (t:=59) (new:=tkA t) rfl _ _ rfl rfl rfl Zap H6.out rfl HT.out ?_; intro w7 hS; have H7:=Lib.hid hS; clear hS hB))
   have HT2:=Lib.hid (mem_left HE.out).1
   have HSL2:Hid (Cv.makes t=true→0≤t.slab∧t.slab<32):=HSL.out j t HJ.out HTJ.out
   obtain ⟨⟨x0,x1,x2,x3,x4,x5,x6,x7,x8,x9,x10,x11,x12,x13,x14,x15,x16⟩,-⟩:=Za8 (t:=t) H7.out
   clear x0 x1 x3 x6 x7 x8 x9 x10 x11 x12 x13 x14 x15 x16 HSL
   rcases Zo4 t with ⟨q1,q2,q3,hm⟩ | ⟨q1,q2,hm⟩ | ⟨q1,q2,q3,hm⟩ | ⟨q1,q2,hm⟩ | ⟨q1,q2,q3,hm⟩ | ⟨q1,q2,q3,q4,hm⟩ | ⟨q1,q2,q3,q4,q5,hm⟩ | ⟨q1,q2,q3,q4,q5,hm⟩
   all_goals have HMK:=Lib.hid hm
   all_goals clear hm
   ·have d1:(t.want==0)=false:=by simpa using q1
    have d2:(t.pc==77)=false:=by simpa using q2
    have d3:(t.pc==78)=false:=by simpa using q3
    clear q1 q2 q3
    go_wp2_with fail
    refine ⟨⟨seen.push e.born,fm,es2,ck2,n2,H7.out.skip,HIM.out,?_,HL.out.skip HV.out HE.out HEV.out HMK.out⟩,?_⟩
    ·have:=left_shrinks es seen e HE.out
     have:=HN2.out
     omega
    ·rw [Zb1 H7.out.skip,HSZ.out]
     exact left_shrinks _ _ _ HE.out
   ·have d1:(t.want==0)=false:=by simpa using q1
    have d2:(t.pc==77)=true:=by simpa using q2
    clear q1 q2
    have HS2:=Lib.hid (HSL2.out HMK.out)
    have HW:=Lib.hid (ZeM HS2.out)
    have H8:Hid (Own W ((bm,.map es2 ck2)::tB B t::(bi,.mapIter (some bt) ck (seen.push e.born) ck)::crB bc b0 bt c mn cp::(bt,.map es ck)::mB b0 b1 g.length cnt::wB b1 g::m) w7):=H7.out.perm (Zao fun _ q=>by simp only [List.count_cons,tB]; omega)
    have HNN:Hid (n2<maxLen):=by have:=HN2.out; have:=HN.out; unfold maxLen; exact Lib.hid (by omega)
    go_wp2_with (first
     | (at_mapUpdate; refine ZbD rfl _ _ _ rfl rfl rfl rfl HIM.out H8.out HNN.out HW.out ?_; intro es3 ck3 w9 k1 k2; have K1:=Lib.hid k1; have K2:=Lib.hid k2; clear k1 k2; dsimp only [Act.put]))
    have K3:Own W ((bi,.mapIter (some bt) ck (seen.push e.born) ck)::(bm,.map es3 ck3)::crB bc b0 bt c mn cp::(bt,.map es ck)::mB b0 b1 g.length cnt::wB b1 g::tB B t::m) w9:=K2.out.perm (Zao fun _ q=>by simp only [List.count_cons]; omega)
    go_roundw
    case rel=>refine ⟨seen.push e.born,Zmg fm t.slab 1,es3,ck3,n2+1,K3.sub (((((((List.sublist_cons_self _ _).cons_cons _).cons_cons _).cons_cons _).cons_cons _).cons_cons _).cons_cons _),K1.out,?_,HL.out.put HV.out HE.out HEV.out HMK.out⟩; have:=left_shrinks es seen e HE.out; have:=HN2.out; omega
    case measure=>rw [Zb1 K3,HSZ.out]; exact left_shrinks _ _ _ HE.out
   ·have d1:(t.want==0)=false:=by simpa using q1
    have d2:(t.pc==77)=false:=by simpa using q2
    have d3:(t.pc==78)=true:=by simpa using q3
    clear q1 q2 q3
    have HS2:=Lib.hid (HSL2.out HMK.out)
    have HW:=Lib.hid (ZeM HS2.out)
    have H8:Hid (Own W ((bm,.map es2 ck2)::tB B t::(bi,.mapIter (some bt) ck (seen.push e.born) ck)::crB bc b0 bt c mn cp::(bt,.map es ck)::mB b0 b1 g.length cnt::wB b1 g::m) w7):=H7.out.perm (Zao fun _ q=>by simp only [List.count_cons,tB]; omega)
    have HNN:Hid (n2<maxLen):=by have:=HN2.out; have:=HN.out; unfold maxLen; exact Lib.hid (by omega)
    go_wp2_with (first
     | (at_mapUpdate; refine ZbD rfl _ _ _ rfl rfl rfl rfl HIM.out H8.out HNN.out HW.out ?_; intro es3 ck3 w9 k1 k2; have K1:=Lib.hid k1; have K2:=Lib.hid k2; clear k1 k2; dsimp only [Act.put]))
    have K3:Own W ((bi,.mapIter (some bt) ck (seen.push e.born) ck)::(bm,.map es3 ck3)::crB bc b0 bt c mn cp::(bt,.map es ck)::mB b0 b1 g.length cnt::wB b1 g::tB B t::m) w9:=K2.out.perm (Zao fun _ q=>by simp only [List.count_cons]; omega)
    go_roundw
    case rel=>refine ⟨seen.push e.born,Zmg fm t.slab 1,es3,ck3,n2+1,K3.sub (((((((List.sublist_cons_self _ _).cons_cons _).cons_cons _).cons_cons _).cons_cons _).cons_cons _).cons_cons _),K1.out,?_,HL.out.put HV.out HE.out HEV.out HMK.out⟩; have:=left_shrinks es seen e HE.out; have:=HN2.out; omega
    case measure=>rw [Zb1 K3,HSZ.out]; exact left_shrinks _ _ _ HE.out
   ·have d1:(t.want==0)=true:=by simpa using q1
    have d2:(t.pc==43)=true:=by simpa using q2
    clear q1 q2
    have HS2:=Lib.hid (HSL2.out HMK.out)
    have HW:=Lib.hid (ZeM HS2.out)
    have H8:Hid (Own W ((bm,.map es2 ck2)::tB B t::(bi,.mapIter (some bt) ck (seen.push e.born) ck)::crB bc b0 bt c mn cp::(bt,.map es ck)::mB b0 b1 g.length cnt::wB b1 g::m) w7):=H7.out.perm (Zao fun _ q=>by simp only [List.count_cons,tB]; omega)
    have HNN:Hid (n2<maxLen):=by have:=HN2.out; have:=HN.out; unfold maxLen; exact Lib.hid (by omega)
    go_wp2_with (first
     | (at_mapUpdate; refine ZbD rfl _ _ _ rfl rfl rfl rfl HIM.out H8.out HNN.out HW.out ?_; intro es3 ck3 w9 k1 k2; have K1:=Lib.hid k1; have K2:=Lib.hid k2; clear k1 k2; dsimp only [Act.put]))
    have K3:Own W ((bi,.mapIter (some bt) ck (seen.push e.born) ck)::(bm,.map es3 ck3)::crB bc b0 bt c mn cp::(bt,.map es ck)::mB b0 b1 g.length cnt::wB b1 g::tB B t::m) w9:=K2.out.perm (Zao fun _ q=>by simp only [List.count_cons]; omega)
    go_roundw
    case rel=>refine ⟨seen.push e.born,Zmg fm t.slab 1,es3,ck3,n2+1,K3.sub (((((((List.sublist_cons_self _ _).cons_cons _).cons_cons _).cons_cons _).cons_cons _).cons_cons _).cons_cons _),K1.out,?_,HL.out.put HV.out HE.out HEV.out HMK.out⟩; have:=left_shrinks es seen e HE.out; have:=HN2.out; omega
    case measure=>rw [Zb1 K3,HSZ.out]; exact left_shrinks _ _ _ HE.out
   ·have d1:(t.want==0)=true:=by simpa using q1
    have d2:(t.pc==43)=false:=by simpa using q2
    have d3:(t.pc==44)=true:=by simpa using q3
    clear q1 q2 q3
    have HS2:=Lib.hid (HSL2.out HMK.out)
    have HW:=Lib.hid (ZeM HS2.out)
    have H8:Hid (Own W ((bm,.map es2 ck2)::tB B t::(bi,.mapIter (some bt) ck (seen.push e.born) ck)::crB bc b0 bt c mn cp::(bt,.map es ck)::mB b0 b1 g.length cnt::wB b1 g::m) w7):=H7.out.perm (Zao fun _ q=>by simp only [List.count_cons,tB]; omega)
    have HNN:Hid (n2<maxLen):=by have:=HN2.out; have:=HN.out; unfold maxLen; exact Lib.hid (by omega)
    go_wp2_with (first
     | (at_mapUpdate; refine ZbD rfl _ _ _ rfl rfl rfl rfl HIM.out H8.out HNN.out HW.out ?_; intro es3 ck3 w9 k1 k2; have K1:=Lib.hid k1; have K2:=Lib.hid k2; clear k1 k2; dsimp only [Act.put]))
    have K3:Own W ((bi,.mapIter (some bt) ck (seen.push e.born) ck)::(bm,.map es3 ck3)::crB bc b0 bt c mn cp::(bt,.map es ck)::mB b0 b1 g.length cnt::wB b1 g::tB B t::m) w9:=K2.out.perm (Zao fun _ q=>by simp only [List.count_cons]; omega)
    go_roundw
    case rel=>refine ⟨seen.push e.born,Zmg fm t.slab 1,es3,ck3,n2+1,K3.sub (((((((List.sublist_cons_self _ _).cons_cons _).cons_cons _).cons_cons _).cons_cons _).cons_cons _).cons_cons _),K1.out,?_,HL.out.put HV.out HE.out HEV.out HMK.out⟩; have:=left_shrinks es seen e HE.out; have:=HN2.out; omega
    case measure=>rw [Zb1 K3,HSZ.out]; exact left_shrinks _ _ _ HE.out
   ·have d1:(t.want==0)=true:=by simpa using q1
    have d2:(t.pc==43)=false:=by simpa using q2
    have d3:(t.pc==44)=false:=by simpa using q3
    have d4:(t.pc==77)=true:=by simpa using q4
    clear q1 q2 q3 q4
    have HS2:=Lib.hid (HSL2.out HMK.out)
    have HW:=Lib.hid (ZeM HS2.out)
    have H8:Hid (Own W ((bm,.map es2 ck2)::tB B t::(bi,.mapIter (some bt) ck (seen.push e.born) ck)::crB bc b0 bt c mn cp::(bt,.map es ck)::mB b0 b1 g.length cnt::wB b1 g::m) w7):=H7.out.perm (Zao fun _ q=>by simp only [List.count_cons,tB]; omega)
    have HNN:Hid (n2<maxLen):=by have:=HN2.out; have:=HN.out; unfold maxLen; exact Lib.hid (by omega)
    go_wp2_with (first
     | (at_mapUpdate; refine ZbD rfl _ _ _ rfl rfl rfl rfl HIM.out H8.out HNN.out HW.out ?_; intro es3 ck3 w9 k1 k2; have K1:=Lib.hid k1; have K2:=Lib.hid k2; clear k1 k2; dsimp only [Act.put]))
    have K3:Own W ((bi,.mapIter (some bt) ck (seen.push e.born) ck)::(bm,.map es3 ck3)::crB bc b0 bt c mn cp::(bt,.map es ck)::mB b0 b1 g.length cnt::wB b1 g::tB B t::m) w9:=K2.out.perm (Zao fun _ q=>by simp only [List.count_cons]; omega)
    go_roundw
    case rel=>refine ⟨seen.push e.born,Zmg fm t.slab 1,es3,ck3,n2+1,K3.sub (((((((List.sublist_cons_self _ _).cons_cons _).cons_cons _).cons_cons _).cons_cons _).cons_cons _).cons_cons _),K1.out,?_,HL.out.put HV.out HE.out HEV.out HMK.out⟩; have:=left_shrinks es seen e HE.out; have:=HN2.out; omega
    case measure=>rw [Zb1 K3,HSZ.out]; exact left_shrinks _ _ _ HE.out
   ·have d1:(t.want==0)=true:=by simpa using q1
    have d2:(t.pc==43)=false:=by simpa using q2
    have d3:(t.pc==44)=false:=by simpa using q3
    have d4:(t.pc==77)=false:=by simpa using q4
    have d5:(t.pc==78)=true:=by simpa using q5
    clear q1 q2 q3 q4 q5
    have HS2:=Lib.hid (HSL2.out HMK.out)
    have HW:=Lib.hid (ZeM HS2.out)
    have H8:Hid (Own W ((bm,.map es2 ck2)::tB B t::(bi,.mapIter (some bt) ck (seen.push e.born) ck)::crB bc b0 bt c mn cp::(bt,.map es ck)::mB b0 b1 g.length cnt::wB b1 g::m) w7):=H7.out.perm (Zao fun _ q=>by simp only [List.count_cons,tB]; omega)
    have HNN:Hid (n2<maxLen):=by have:=HN2.out; have:=HN.out; unfold maxLen; exact Lib.hid (by omega)
    go_wp2_with (first
     | (at_mapUpdate; refine ZbD rfl _ _ _ rfl rfl rfl rfl HIM.out H8.out HNN.out HW.out ?_; intro es3 ck3 w9 k1 k2; have K1:=Lib.hid k1; have K2:=Lib.hid k2; clear k1 k2; dsimp only [Act.put]))
    have K3:Own W ((bi,.mapIter (some bt) ck (seen.push e.born) ck)::(bm,.map es3 ck3)::crB bc b0 bt c mn cp::(bt,.map es ck)::mB b0 b1 g.length cnt::wB b1 g::tB B t::m) w9:=K2.out.perm (Zao fun _ q=>by simp only [List.count_cons]; omega)
    go_roundw
    case rel=>refine ⟨seen.push e.born,Zmg fm t.slab 1,es3,ck3,n2+1,K3.sub (((((((List.sublist_cons_self _ _).cons_cons _).cons_cons _).cons_cons _).cons_cons _).cons_cons _).cons_cons _),K1.out,?_,HL.out.put HV.out HE.out HEV.out HMK.out⟩; have:=left_shrinks es seen e HE.out; have:=HN2.out; omega
    case measure=>rw [Zb1 K3,HSZ.out]; exact left_shrinks _ _ _ HE.out
   ·have d1:(t.want==0)=true:=by simpa using q1
    have d2:(t.pc==43)=false:=by simpa using q2
    have d3:(t.pc==44)=false:=by simpa using q3
    have d4:(t.pc==77)=false:=by simpa using q4
    have d5:(t.pc==78)=false:=by simpa using q5
    clear q1 q2 q3 q4 q5
    go_wp2_with fail
    refine ⟨⟨seen.push e.born,fm,es2,ck2,n2,H7.out.skip,HIM.out,?_,HL.out.skip HV.out HE.out HEV.out HMK.out⟩,?_⟩
    ·have:=left_shrinks es seen e HE.out
     have:=HN2.out
     omega
    ·rw [Zb1 H7.out.skip,HSZ.out]
     exact left_shrinks _ _ _ HE.out
end
end Go.Proofs.YtfcpdlbkmkhhcaaGreatDoor.Cw
