/-
  Texts of this claim, joined. No condition.
-/
import Derived.Test.YtfcpdlbkmkhhcaaGreatDoorCh1
import Derived.Test.YtfcpdlbkmkhhcaaGreatDoorCh23
import Derived.Test.YtfcpdlbkmkhhcaaGreatDoorCh18
import Derived.Test.YtfcpdlbkmkhhcaaGreatDoorCh38
import Derived.Deep.RegionHeld3
import Derived.Test.YtfcpdlbkmkhhcaaGreatDoorCh24
import Derived.Test.YtfcpdlbkmkhhcaaGreatDoorCh15
import Derived.Test.YtfcpdlbkmkhhcaaGreatDoorCh16
import Derived.Test.YtfcpdlbkmkhhcaaGreatDoorCh35
namespace Go.Proofs.YtfcpdlbkmkhhcaaGreatDoor
set_option maxRecDepth 100000
set_option maxHeartbeats 40000000
namespace Cw
open Go Mem See
open Go.RowKit
attribute [local go_sem ↓] Go.wp_at_zero Go.wp_at_succ
section
variable {W w:World}{m:List (Nat×Obj)}{bc b0 b1 bt b:Nat}{c:Ch}{mn cp cnt:Nat}{g g':List Nat}{K:Fh}
structure SC (bc b0:Nat)(c:Ch)(mn cp:Nat)(v:World):Prop where
 p:(Instr.loadAt 68 (.pointer (some ⟨bc,6,Option.none⟩))).run Tryz.prog v = .ok (.pointer (some ⟨b0,0,Option.none⟩)) v
 c:(Instr.loadAt 24 (.pointer (some ⟨bc,0,Option.none⟩))).run Tryz.prog v = .ok (qd c mn cp) v
theorem QY {l:List (Nat×Obj)}{v:World}(h:Own W (aY bc b0 bt c mn cp::l) v):SC bc b0 c mn cp v:=by
 refine⟨?_,?_⟩
 ·obtain⟨y0,y1,y2,y3,y4,y5,y6,y7⟩:=mP h
  simp[Instr.loadAt,Instr.sureAddr,loadVar,Ex.EK (show Ex.vP Tryz.prog 68=some false by kernel_rfl) v,y6]
 ·have h2:Own W ((bc,.cells (([]:List Value)++([.int .i64 (c.C:Int),.int .i64 (c.S:Int),.int .i64 (c.O:Int),.int .i64 (mn:Int),.int .i64 (cp:Int),.int .u64 (c.key:Int)]:List Value)++([.pointer (some ⟨b0,0,Option.none⟩),.map (some bt)]:List Value)).toArray 71)::l) v:=h
  exact XF (P:=Tryz.prog) (t:=24) (pre:=[]) h2 Tryz.underlying24 rfl (by kernel_rfl)
abbrev Ci:Obj:=.cells #[.slice Option.none 0 0,.slice Option.none 0 0,.bool false,.slice Option.none 0 0] 41
theorem ZvA (h:Own W (aY bc b0 bt c mn cp::mB b0 b1 g.length cnt::wB b1 g::m) w)(hc:sI c (mn:Int) (cp:Int))(hg:g.length=c.words)(Nt:g.length≤4096)(hw:∀ x∈g,x<18446744073709551616)(hs:G8 c g=some K) :
 Calls Tryz.prog 9 #[.pointer (some ⟨bc,0,Option.none⟩)] w fun e w'=>∃ v bs,e = .returned (.tuple #[v,.int .i64 0])∧Hid (Vy v K bs)∧Own W (bs++(aY bc b0 bt c mn cp::mB b0 b1 g.length cnt::wB b1 g::m)) w':=by
 have h1:=h.new Ci;obtain⟨B,hB⟩:=Zx9 (w.heap.size);rw[hB]at h1;have h1:Own W (aY bc b0 bt c mn cp::(B,Ci)::mB b0 b1 g.length cnt::wB b1 g::m) (w.alloc Ci):=h1.perm (sw _ _ _);obtain⟨wa,eQ⟩:=Zx9 (w.alloc Ci);rw[eQ]at h1;have HC:=ZkQ hc;have HG:=ZkQ hg;have HG2:=ZkQ Nt;have HW:=ZkQ hw;have HS:=ZkQ hs;have HM:=ZkQ (PQ h1);clear h h1 hc hg Nt hw hs
 go_enter Tryz.func9,Tryz.ntmps9
 go_wp2_with fail
 refine HM.out.mono ?_;rintro e w2 ⟨rfl,h2⟩;have HO:=ZkQ h2;clear h2 HM eQ hB;go_wp2_with fail
 refine wp_region_held_drew (S:=SC bc b0 c mn cp) (by kernel_rfl) (QY HO.out.drew) (fun hHeld => ?_);refine wpAnyH_take (i:=0) (oi:=⟨some 7,_,_,_,_,_⟩) (v := ?v0) rfl (by kernel_rfl) (by kernel_rfl) (by kernel_rfl) (fun _ _ _ h=>h) (Or.inl ⟨by rfl,?y0⟩) (by assumption) ?r0
 case y0=>(intro w hSw;go_simp;try with_reducible rfl)
 try simp only[Act.put,ZnK,Zqa,Zxo]
 refine wpAnyH_take (i:=1) (oi:=⟨some 8,_,_,_,_,_⟩) (v := ?v1) rfl (by kernel_rfl) (by kernel_rfl) (by kernel_rfl) (fun _ _ _ h=>h) (Or.inl ⟨by rfl,?y1⟩) (by assumption) ?r1
 case y1=>(intro w hSw;go_simp;try with_reducible rfl)
 try simp only[Act.put,ZnK,Zqa,Zxo]
 refine wpAnyH_take (i:=2) (oi:=⟨some 9,_,_,_,_,_⟩) (v := ?v2) rfl (by kernel_rfl) (by kernel_rfl) (by kernel_rfl) (fun _ _ _ h=>h) (Or.inl ⟨by rfl,?y2⟩) (by assumption) ?r2
 case y2=>(intro w hSw;go_simp;try with_reducible rfl)
 try simp only[Act.put,ZnK,Zqa,Zxo]
 refine wpAnyH_take (i:=3) (oi:=⟨some 10,_,_,_,_,_⟩) (v:=.pointer (some ⟨b0,0,Option.none⟩)) rfl (by kernel_rfl) (by kernel_rfl) (by kernel_rfl) (fun _ _ _ h=>h) (Or.inl ⟨by rfl,?y3⟩) (by assumption) ?r3
 case y3=>exact Lj (ad:=.pointer (some ⟨bc,6,Option.none⟩)) rfl rfl (fun w h=>h.p)
 try simp only[Act.put,ZnK,Zqa,Zxo]
 refine wpAnyH_take (i:=5) (oi:=⟨some 12,_,_,_,_,_⟩) (v := ?v5) rfl (by kernel_rfl) (by kernel_rfl) (by kernel_rfl) (fun _ _ _ h=>h) (Or.inl ⟨by rfl,?y5⟩) (by assumption) ?r5
 case y5=>(intro w hSw;go_simp;try with_reducible rfl)
 try simp only[Act.put,ZnK,Zqa,Zxo]
 refine wpAnyH_take (i:=6) (oi:=⟨some 13,_,_,_,_,_⟩) (v := ?v6) rfl (by kernel_rfl) (by kernel_rfl) (by kernel_rfl) (fun _ _ _ h=>h) (Or.inl ⟨by rfl,?y6⟩) (by assumption) ?r6
 case y6=>(intro w hSw;go_simp;try with_reducible rfl)
 try simp only[Act.put,ZnK,Zqa,Zxo]
 refine wpAnyH_take (i:=7) (oi:=⟨some 14,_,_,_,_,_⟩) (v := ?v7) rfl (by kernel_rfl) (by kernel_rfl) (by kernel_rfl) (fun _ _ _ h=>h) (Or.inl ⟨by rfl,?y7⟩) (by assumption) ?r7
 case y7=>(intro w hSw;go_simp;try with_reducible rfl)
 try simp only[Act.put,ZnK,Zqa,Zxo]
 refine wpAnyH_take (i:=8) (oi:=⟨some 15,_,_,_,_,_⟩) (v:=qd c mn cp) rfl (by kernel_rfl) (by kernel_rfl) (by kernel_rfl) (fun _ _ _ h=>h) (Or.inl ⟨by rfl,?y8⟩) (by assumption) ?r8
 case y8=>exact Lj (ad:=.pointer (some ⟨bc,0,Option.none⟩)) rfl rfl (fun w h=>h.c)
 try simp only[Act.put,ZnK,Zqa,Zxo]
 refine wpAnyH_ready (rs:=[4]) (by kernel_rfl) (by simp) ?_;refine AllReadyH.cons (o:=⟨some 11,_,_,_,_,_⟩) rfl (fun K1 hK => ?_) AllReadyH.nil;have KN:=ZkQ (HO.out.drew.perm (m':=mB b0 b1 g.length cnt::wB b1 g::aY bc b0 bt c mn cp::(B,Ci)::m) (fO fun _ q=>by simp only[Zxv];omega));go_simp;refine(ZN KN.out rfl HG2.out).mono ?_;rintro r w6 ⟨v',bs',rfl,hs,h6⟩;have sF:0<g.length:=by
  rw[HG.out];unfold Ch.words;omega
 obtain⟨B3,cap,cur,rfl,rfl,uP,Rv,hcs,dI⟩:=hs.form sF;have R8:=ZkQ hs;have h6:Own W ((B3,.cells cur 22)::aY bc b0 bt c mn cp::(B,Ci)::mB b0 b1 g.length cnt::wB b1 g::m) w6:=h6.perm (fO fun _ q=>by simp only[Zxv,List.cons_append,List.nil_append];omega);have Ry:Rd W ((B3,.cells cur 22)::aY bc b0 bt c mn cp::(B,Ci)::mB b0 b1 g.length cnt::wB b1 g::m) B3 0 g:=fun ws kX j x hj=>by
  rw[Nat.zero_add];exact R8.out.cell (bs:=[(B3,.cells cur 22)]) (m:=aY bc b0 bt c mn cp::(B,Ci)::mB b0 b1 g.length cnt::wB b1 g::m) kX rfl (Uj hj)
 have HWO:Hid (xY W ((B3,.cells cur 22)::aY bc b0 bt c mn cp::(B,Ci)::mB b0 b1 g.length cnt::wB b1 g::m) B3 0 g.length cap g c):=⟨Ry,rfl,HG.out,HW.out,uP,Rv⟩;have H6:=ZkQ h6;clear hs h6 Ry sF uP Rv hcs dI;refine hK.out _ _ (QY H6.out.skip) (fun nK => ?_);clear hK K1 hHeld KN HO;try simp only[Act.put,ZnK,Zqa,Zxo]
 refine wpAnyH_ready (rs:=[9]) (by kernel_rfl) (by simp) ?_;refine AllReadyH.cons (o:=⟨some 16,_,_,_,_,_⟩) rfl (fun K1 hK => ?_) AllReadyH.nil;have RZ:=ZkQ (Zwn H6.out HC.out HWO.out);rw[HS.out]at RZ;unfold qd;go_simp;refine RZ.out.mono ?_;rintro r w7 ⟨vv,bs,rfl,Fp,h7⟩;have H7:Hid (Own W (aY bc b0 bt c mn cp::(B,Ci)::(bs++(mB b0 b1 g.length cnt::wB b1 g::(B3,.cells cur 22)::m))) w7):=h7.perm (fO fun _ q=>by simp only[Zxv,ZxO];omega);clear h7 RZ;refine hK.out _ _ (QY H7.out) (fun nL => ?_);clear hK K1 nK;try simp only[Act.put,ZnK,Zqa,Zxo]
 refine wpAnyH_take (i:=10) (oi:=⟨some 17,_,_,_,_,_⟩) (v := ?v10) rfl (by kernel_rfl) (by kernel_rfl) (by kernel_rfl) (fun _ _ _ h=>h) (Or.inl ⟨by rfl,?dL⟩) (by assumption) ?r10
 case dL=>(intro w hSw;go_simp;try with_reducible rfl)
 try simp only[Act.put,ZnK,Zqa,Zxo]
 refine wpAnyH_take (i:=11) (oi:=⟨some 18,_,_,_,_,_⟩) (v := ?v11) rfl (by kernel_rfl) (by kernel_rfl) (by kernel_rfl) (fun _ _ _ h=>h) (Or.inl ⟨by rfl,?bQ⟩) (by assumption) ?r11
 case bQ=>(intro w hSw;go_simp;try with_reducible rfl)
 try simp only[Act.put,ZnK,Zqa,Zxo]
 obtain⟨Ls,sv,bb0,hv,bb1,Ll,lv,bb2,rfl,ig⟩:=Fp.out;have iB:∀ u∈(#[sv,hv,.bool K.nE,lv]:Array Value).toList,u.oneCell'=true:=by
  obtain⟨h1,h2,h3,h4,h5,h6,h7,h8⟩:=ig;obtain⟨A1,k1,rfl,-⟩:=gI.slice h3;obtain⟨A2,k2,rfl,-⟩:=gI.slice h4;obtain⟨A3,k3,rfl,-⟩:=gI.slice h7;intro u hu;simp only[ZxF,List.not_mem_nil,or_false]at hu;rcases hu with rfl|rfl|rfl|rfl<;>rfl
 refine wpAnyH_ready (rs:=[12]) (by kernel_rfl) (by simp) ?_;refine AllReadyH.cons (o:=⟨none,_,_,_,_,_⟩) rfl (fun K1 hK => ?_) AllReadyH.nil;refine Pk (t:=41) (new:=#[sv,hv,.bool K.nE,lv]) rfl _ _ rfl rfl rfl (H7.out.perm (sw _ _ _)) (by kernel_rfl) rfl iB (fun w9 h9 => ?_);refine hK.out _ _ (QY h9.skip) (fun qh => ?_);clear hK K1 nL;try simp only[Act.put]
 refine wpAnyH_take (i:=13) (oi:=⟨some 3,_,_,_,_,_⟩) (v := ?v13) rfl (by kernel_rfl) (by kernel_rfl) (by kernel_rfl) (fun _ _ _ h=>h) (Or.inl ⟨by rfl,?y13⟩) (by assumption) ?r13
 case y13=>(intro w hSw;go_simp;try with_reducible rfl)
 try simp only[Act.put,ZnK,Zqa,Zxo]
 refine wpAnyH_done (by kernel_rfl) ?_ _;have x0:=h9.cell ZnJ 0;have x1:=h9.cell ZnJ 1;have x2:=h9.cell ZnJ 2;have x3:=h9.cell ZnJ 3;have H9:=ZkQ h9;have I7:=ZkQ Fp;clear h9 ig iB;go_wp2_with fail
 exact bodyPost_ret (v:=.tuple #[.agg #[sv,hv,.bool K.nE,lv],.int .i64 0]) (by simp[results,Tryz.f9,go_sem,x0,x1,x2,x3]) rfl ⟨_,bs,rfl,I7.out,(H9.out.skip.perm (m':=(B3,.cells cur 22)::(bs++(aY bc b0 bt c mn cp::mB b0 b1 g.length cnt::wB b1 g::m))) (fO fun _ q=>by simp only[Zxv,ZxO];omega)).skip⟩
end
end Cw
namespace Cw
open Go Mem See
open Go.RowKit
attribute [local go_sem ↓] Go.wp_at_zero Go.wp_at_succ
section
variable {W w:World}{m:List (Nat×Obj)}{bc b0 bt b:Nat}{c:Ch}{mn cp:Nat}{t:Tk}{es:Array MapEntry}{ck n:Nat}{f:Int→Option Value}{i:Nat}
theorem Zoh (h:Own W (aY bc b0 bt c mn cp::(bt,.map es ck)::m) w)(hv:VM es ck n f)(hi:i<9)(hf:(f i).getD (bH mZ)=bH t){is:Bool}(hs:(f i).isSome=is) :
 Calls Tryz.prog 16 #[.pointer (some ⟨bc,0,Option.none⟩),.int .i64 (i:Int)] w fun e w'=>e = .returned (.tuple #[bH t,.bool is])∧Own W (aY bc b0 bt c mn cp::(bt,.map es ck)::m) w':=by
 have h1:Own W ((w.heap.size,z17)::aY bc b0 bt c mn cp::(bt,.map es ck)::m) (w.alloc z17):=h.new z17;obtain⟨B,hB⟩:=Zx9 (w.heap.size);rw[hB]at h1;have h1:=h1.perm (sw _ _ _);obtain⟨wa,eQ⟩:=Zx9 (w.alloc z17);rw[eQ]at h1;have jh:=ZkQ (ES hi);have HV:=ZkQ hv;have HF:=ZkQ hf;have HS:=ZkQ hs;have HM:=ZkQ (PQ h1);clear h h1 hv hi hf hs
 go_enter Tryz.func16,Tryz.ntmps16
 go_wp2_with fail
 refine HM.out.mono ?_;rintro e w2 ⟨rfl,h2⟩;obtain⟨y0,y1,y2,y3,y4,y5,y6,y7⟩:=mP h2;have HB:=ZkQ (h2.get (b:=bt) (o:=.map es ck) (by simp));have H2:=ZkQ (h2.perm (sw _ _ _));have HT:=ZkQ (jU t);clear h2 HM eQ hB
 go_wp2_with (first
  |(at_lookup;refine Ja rfl _ _ rfl rfl rfl HV.out HB.out jh.out ?_;rw[HF.out,HS.out])
  |(refine jm (t:=59) (new:=dm t) rfl _ _ rfl rfl rfl gQ H2.out rfl HT.out ?_;intro w3 hS;have HX:=ZkQ hS;clear hS y0 y1 y2 y3 y4 y5 y6 y7)
  |(refine qC (t:=59) (old:=dm t) rfl _ rfl rfl Tryz.underlying59 HX.out gQ ?_)
  |(refine jm (t:=59) (new:=dm t) rfl _ _ rfl rfl rfl gQ HX.out rfl HT.out ?_;intro w4 hT))
 obtain⟨⟨x0,x1,x2,x3,x4,x5,x6,x7,x8,x9,x10,gz,gB,gD,gG,gH,fT⟩,-⟩:=iV (t:=t) hT;exact bodyPost_ret (v:=.tuple #[bH t,.bool is]) (by simp[results,Tryz.f16,go_sem,x0,x1,x2,x3,x4,x5,x6,x7,x8,x9,x10,gz,gB,gD,gG,gH,fT,bH]) rfl ⟨rfl,hT.skip⟩
end
end Cw
namespace Cw
open Go Mem See
open Go.RowKit
attribute [local go_sem ↓] Go.wp_at_zero Go.wp_at_succ
section
variable {W w:World}{m:List (Nat×Obj)}{bc b0 bt b:Nat}{c:Ch}{mn cp:Nat}{t:Tk}{es:Array MapEntry}{ck n:Nat}{f:Int→Option Value}{i:Nat}
theorem Zkt (h:Own W (aY bc b0 bt c mn cp::(bt,.map es ck)::m) w)(hC:c.C≤8)(hv:VM es ck n f)(hi:i<c.C)(hf:f i=Option.none) :
 Calls Tryz.prog 13 #[.pointer (some ⟨bc,0,Option.none⟩),.int .i64 (i:Int),.int .i64 1,.int .i64 0,.int .i64 0] w fun e w'=>∃ es' bO,e = .returned (.int .i64 0)∧VM es' bO (n+1) (vS f i (bH { job:=1,aB:=i,pc:=0 }))∧Own W (aY bc b0 bt c mn cp::(bt,.map es' bO)::m) w':=by
 have jh:=ZkQ (ES (show i<9 by omega));have HV:=ZkQ hv;have HF:=ZkQ hf;have HM:=ZkQ (CZ h hi);clear h hv hf hi
 go_enter Tryz.func13,Tryz.ntmps13
 go_wp2_with fail
 refine HM.out.mono ?_;rintro e w2 ⟨rfl,h2⟩;obtain⟨y0,y1,y2,y3,y4,y5,y6,y7⟩:=mP h2;have HB:=ZkQ (h2.get (b:=bt) (o:=.map es ck) (by simp));have h3:Own W ((w2.heap.size,z17)::aY bc b0 bt c mn cp::(bt,.map es ck)::m) (w2.alloc z17):=h2.new z17;obtain⟨B2,hB2⟩:∃ B,w2.heap.size=B:=⟨_,rfl⟩;rw[hB2]at h3;have H2:=ZkQ h3;have HT:=ZkQ (jU mZ);have HT2:=ZkQ (jU { job:=1,aB:=i,pc:=0 });clear h2 h3 HM
 go_wp2_with (first
  |(at_lookup;refine Ja rfl _ _ rfl rfl rfl HV.out HB.out jh.out ?_;rw[HF.out])
  |(refine jm (t:=59) (new:=dm { job:=1,aB:=i,pc:=0 }) rfl _ _ rfl rfl rfl gQ H3.out rfl HT2.out ?_;intro w4 hS;obtain⟨y0,y1,y2,y3,y4,y5,y6,y7⟩:=mP hS.skip;obtain⟨⟨x0,x1,x2,x3,x4,x5,x6,x7,x8,x9,x10,gz,gB,gD,gG,gH,fT⟩,-⟩:=iV (t:={ job:=1,aB:=i,pc:=0 }) hS;have H5:=ZkQ hS;clear hS hB3)
  |(refine jm (t:=59) (new:=dm mZ) rfl _ _ rfl rfl rfl gQ H2.out rfl HT.out ?_;intro w3 hS;have h4:Own W ((w3.heap.size,z17)::aY bc b0 bt c mn cp::(bt,.map es ck)::m) (w3.alloc z17):=hS.skip.new z17;obtain⟨B3,hB3⟩:∃ B,w3.heap.size=B:=⟨_,rfl⟩;rw[hB3]at h4;have H3:=ZkQ h4;clear hS h4 y0 y1 y2 y3 y4 y5 y6 y7 hB2))
 go_still_tail 6,(by kernel_rfl)
 change wpList _ _ _ _ _ w4.drew;refine Jb (c:=bH { job:=1,aB:=i,pc:=0 }) rfl _ _ _ rfl rfl rfl rfl HV.out (H5.out.drew.perm (yU _ _ _ _)) jh.out ?_;intro es' bO w5 k1 k2;have KV:=ZkQ k1;have KO:=ZkQ ((k2.perm (yU _ _ _ _).symm).skip);clear k1 k2 y0 y1 y2 y3 y4 y5 y6 y7 x0 x1 x2 x3 x4 x5 x6 x7 x8 x9 x10 gz gB gD gG gH fT;go_wp2_with fail
 go_ret;exact⟨es',bO,rfl,KV.out,KO.out⟩
end
end Cw
namespace Cw
open Go Mem See
open Go.RowKit
attribute [local go_sem ↓] Go.wp_at_zero Go.wp_at_succ
section
variable {W w:World}{m:List (Nat×Obj)}{bc b0 bt b:Nat}{c:Ch}{mn cp:Nat}{t:Tk}{es:Array MapEntry}{ck n:Nat}{f:Int→Option Value}{i:Nat}
theorem Zku (h:Own W (aY bc b0 bt c mn cp::(bt,.map es ck)::m) w)(hC:c.C≤8)(hv:VM es ck n f)(hi:i<c.C){j:Nat}(hj:j<c.C)(hf:f i=Option.none) :
 Calls Tryz.prog 13 #[.pointer (some ⟨bc,0,Option.none⟩),.int .i64 (i:Int),.int .i64 3,.int .i64 (j:Int),.int .i64 0] w fun e w'=>∃ es' bO,e = .returned (.int .i64 0)∧VM es' bO (n+1) (vS f i (bH { job:=3,aB:=i,pc:=70,for_:=(j:Int) }))∧Own W (aY bc b0 bt c mn cp::(bt,.map es' bO)::m) w':=by
 have jh:=ZkQ (ES (show i<9 by omega));have HV:=ZkQ hv;have HF:=ZkQ hf;have HM:=ZkQ (CZ h hi);have HJ:=ZkQ hj;clear h hv hf hi hj
 go_enter Tryz.func13,Tryz.ntmps13
 go_wp2_with fail
 refine HM.out.mono ?_;rintro e w2 ⟨rfl,h2⟩;obtain⟨y0,y1,y2,y3,y4,y5,y6,y7⟩:=mP h2;have HB:=ZkQ (h2.get (b:=bt) (o:=.map es ck) (by simp));have h3:Own W ((w2.heap.size,z17)::aY bc b0 bt c mn cp::(bt,.map es ck)::m) (w2.alloc z17):=h2.new z17;obtain⟨B2,hB2⟩:∃ B,w2.heap.size=B:=⟨_,rfl⟩;rw[hB2]at h3;have H2:=ZkQ h3;have HT:=ZkQ (jU mZ);have HT2:=ZkQ (jU { job:=3,aB:=i,pc:=0 });clear h2 h3 HM
 go_wp2_with (first
  |(at_lookup;refine Ja rfl _ _ rfl rfl rfl HV.out HB.out jh.out ?_;rw[HF.out])
  |(refine jm (t:=59) (new:=dm { job:=3,aB:=i,pc:=0 }) rfl _ _ rfl rfl rfl gQ H3.out rfl HT2.out ?_;intro w4 hS;have H4:=ZkQ hS;clear hS hB3)
  |(refine jm (t:=59) (new:=dm mZ) rfl _ _ rfl rfl rfl gQ H2.out rfl HT.out ?_;intro w3 hS;have h4:Own W ((w3.heap.size,z17)::aY bc b0 bt c mn cp::(bt,.map es ck)::m) (w3.alloc z17):=hS.skip.new z17;obtain⟨B3,hB3⟩:∃ B,w3.heap.size=B:=⟨_,rfl⟩;rw[hB3]at h4;have H3:=ZkQ h4;clear hS h4 y0 y1 y2 y3 y4 y5 y6 y7 hB2))
 refine(CZ (H4.out.perm (sw _ _ _)) HJ.out).mono ?_;rintro e w6 ⟨rfl,h6⟩;have h7:Own W (tB B3 { job:=3,aB:=i,pc:=0 }::aY bc b0 bt c mn cp::(bt,.map es ck)::m) w6:=h6.perm (sw _ _ _);obtain⟨⟨-,-,x2,-,-,-,-,-,-,-,-,-,-,-,-,-,fT⟩,fz⟩:=iV (t:={ job:=3,aB:=i,pc:=0 }) h7;have f2:=fz 2;have f16:=fz 16;have H7:=ZkQ h7;clear h6 h7 fz;go_wp2_with fail
 have hS:Own W (tB B3 { job:=3,aB:=i,pc:=70,for_:=(j:Int) }::aY bc b0 bt c mn cp::(bt,.map es ck)::m) ((w6.setCell ⟨B3,2,Option.none⟩ (.int .i64 70)).setCell ⟨B3,16,Option.none⟩ (.int .i64 (j:Int))):=(H7.out.set 2 (.int .i64 70)).set 16 (.int .i64 (j:Int));generalize (w6.setCell ⟨B3,2,Option.none⟩ (.int .i64 70)).setCell ⟨B3,16,Option.none⟩ (.int .i64 (j:Int))=w4 at hS ⊢;obtain⟨y0,y1,y2,y3,y4,y5,y6,y7⟩:=mP hS.skip;clear x2 fT;obtain⟨⟨x0,x1,x2,x3,x4,x5,x6,x7,x8,x9,x10,gz,gB,gD,gG,gH,fT⟩,-⟩:=iV (t:={ job:=3,aB:=i,pc:=70,for_:=(j:Int) }) hS;have H5:=ZkQ hS;clear hS
 go_still_tail 6,(by kernel_rfl)
 change wpList _ _ _ _ _ w4.drew;refine Jb (c:=bH { job:=3,aB:=i,pc:=70,for_:=(j:Int) }) rfl _ _ _ rfl rfl rfl rfl HV.out (H5.out.drew.perm (yU _ _ _ _)) jh.out ?_;intro es' bO w5 k1 k2;have KV:=ZkQ k1;have KO:=ZkQ ((k2.perm (yU _ _ _ _).symm).skip);clear k1 k2 y0 y1 y2 y3 y4 y5 y6 y7 x0 x1 x2 x3 x4 x5 x6 x7 x8 x9 x10 gz gB gD gG gH fT;go_wp2_with fail
 go_ret;exact⟨es',bO,rfl,KV.out,KO.out⟩
end
end Cw
namespace Cw
open Go Mem See
open Go.RowKit
attribute [local go_sem ↓] Go.wp_at_zero Go.wp_at_succ
section
variable {W w:World}{m:List (Nat×Obj)}{bc b0 bt b:Nat}{c:Ch}{mn cp:Nat}{t:Tk}{es:Array MapEntry}{ck n:Nat}{f:Int→Option Value}{i:Nat}
theorem Zl6 (h:Own W (aY bc b0 bt c mn cp::(bt,.map es ck)::m) w)(hC:c.C≤8)(hv:VM es ck n f)(hi:i<c.C)(hf:f i=Option.none) :
 Calls Tryz.prog 13 #[.pointer (some ⟨bc,0,Option.none⟩),.int .i64 (i:Int),.int .i64 4,.int .i64 0,.int .i64 0] w fun e w'=>∃ es' bO,e = .returned (.int .i64 0)∧VM es' bO (n+1) (vS f i (bH { job:=4,aB:=i,pc:=95 }))∧Own W (aY bc b0 bt c mn cp::(bt,.map es' bO)::m) w':=by
 have jh:=ZkQ (ES (show i<9 by omega));have HV:=ZkQ hv;have HF:=ZkQ hf;have HM:=ZkQ (CZ h hi);clear h hv hf hi
 go_enter Tryz.func13,Tryz.ntmps13
 go_wp2_with fail
 refine HM.out.mono ?_;rintro e w2 ⟨rfl,h2⟩;obtain⟨y0,y1,y2,y3,y4,y5,y6,y7⟩:=mP h2;have HB:=ZkQ (h2.get (b:=bt) (o:=.map es ck) (by simp));have h3:Own W ((w2.heap.size,z17)::aY bc b0 bt c mn cp::(bt,.map es ck)::m) (w2.alloc z17):=h2.new z17;obtain⟨B2,hB2⟩:∃ B,w2.heap.size=B:=⟨_,rfl⟩;rw[hB2]at h3;have H2:=ZkQ h3;have HT:=ZkQ (jU mZ);have HT2:=ZkQ (jU { job:=4,aB:=i,pc:=0 });clear h2 h3 HM
 go_wp2_with (first
  |(at_lookup;refine Ja rfl _ _ rfl rfl rfl HV.out HB.out jh.out ?_;rw[HF.out])
  |(refine jm (t:=59) (new:=dm { job:=4,aB:=i,pc:=0 }) rfl _ _ rfl rfl rfl gQ H3.out rfl HT2.out ?_;intro w4 hS;obtain⟨⟨-,-,x2,-⟩,fz⟩:=iV (t:={ job:=4,aB:=i,pc:=0 }) hS;have f2:=fz 2;have H4:=ZkQ hS;clear hS hB3 fz)
  |(refine jm (t:=59) (new:=dm mZ) rfl _ _ rfl rfl rfl gQ H2.out rfl HT.out ?_;intro w3 hS;have h4:Own W ((w3.heap.size,z17)::aY bc b0 bt c mn cp::(bt,.map es ck)::m) (w3.alloc z17):=hS.skip.new z17;obtain⟨B3,hB3⟩:∃ B,w3.heap.size=B:=⟨_,rfl⟩;rw[hB3]at h4;have H3:=ZkQ h4;clear hS h4 y0 y1 y2 y3 y4 y5 y6 y7 hB2))
 have hS:Own W (tB B3 { job:=4,aB:=i,pc:=95 }::aY bc b0 bt c mn cp::(bt,.map es ck)::m) (w4.setCell ⟨B3,2,Option.none⟩ (.int .i64 95)):=H4.out.set 2 (.int .i64 95);generalize w4.setCell ⟨B3,2,Option.none⟩ (.int .i64 95)=w4 at hS ⊢;obtain⟨y0,y1,y2,y3,y4,y5,y6,y7⟩:=mP hS.skip;clear x2;obtain⟨⟨x0,x1,x2,x3,x4,x5,x6,x7,x8,x9,x10,gz,gB,gD,gG,gH,fT⟩,-⟩:=iV (t:={ job:=4,aB:=i,pc:=95 }) hS;have H5:=ZkQ hS;clear hS
 go_still_tail 6,(by kernel_rfl)
 change wpList _ _ _ _ _ w4.drew;refine Jb (c:=bH { job:=4,aB:=i,pc:=95 }) rfl _ _ _ rfl rfl rfl rfl HV.out (H5.out.drew.perm (yU _ _ _ _)) jh.out ?_;intro es' bO w5 k1 k2;have KV:=ZkQ k1;have KO:=ZkQ ((k2.perm (yU _ _ _ _).symm).skip);clear k1 k2 y0 y1 y2 y3 y4 y5 y6 y7 x0 x1 x2 x3 x4 x5 x6 x7 x8 x9 x10 gz gB gD gG gH fT;go_wp2_with fail
 go_ret;exact⟨es',bO,rfl,KV.out,KO.out⟩
end
end Cw
namespace Cw
open Go Mem See
open Go.RowKit
open Apart (tF)
attribute [local go_sem ↓] Go.wp_at_zero Go.wp_at_succ
section
variable {W w:World}{m:List (Nat×Obj)}{bc b0 bt b:Nat}{c:Ch}{mn cp:Nat}{t:Tk}{es:Array MapEntry}{ck n:Nat}{f:Int→Option Value}{i:Nat}
theorem Zo8 {B:Nat}{w:World}{m:List (Nat×Obj)}{s o:Int}(h:Own W (tB B { job:=2,aB:=i,pc:=0 }::m) w):Own W (tB B { job:=2,aB:=i,pc:=10,aA:=s,obj:=o }::m) (((w.setCell ⟨B,2,Option.none⟩ (.int .i64 10)).setCell ⟨B,5,Option.none⟩ (.int .i64 s)).setCell ⟨B,6,Option.none⟩ (.int .i64 o)):=((h.set 2 (.int .i64 10)).set 5 (.int .i64 s)).set 6 (.int .i64 o)
theorem SN (h:Own W (aY bc b0 bt c mn cp::(bt,.map es ck)::m) w)(hc:sI c (mn:Int) (cp:Int))(hv:VM es ck n f)(hi:i<c.C){s o:Nat}(hs:s<c.S)(ho:o<c.O)(hf:f i=Option.none) :
 Calls Tryz.prog 13 #[.pointer (some ⟨bc,0,Option.none⟩),.int .i64 (i:Int),.int .i64 2,.int .i64 (s:Int),.int .i64 (o:Int)] w fun e w'=>∃ es' bO,e = .returned (.int .i64 0)∧VM es' bO (n+1) (vS f i (bH { job:=2,aB:=i,pc:=10,aA:=(s:Int),obj:=(o:Int) }))∧Own W (aY bc b0 bt c mn cp::(bt,.map es' bO)::m) w':=by
 have hC:=hc.nums;have jh:=ZkQ (ES (show i<9 by omega));have HV:=ZkQ hv;have HF:=ZkQ hf;have HM:=ZkQ (CZ h hi);have HC:=ZkQ hc;have HS:=ZkQ hs;have HOo:=ZkQ ho;clear h hv hf hi hs ho hc hC
 go_enter Tryz.func13,Tryz.ntmps13
 go_wp2_with fail
 refine HM.out.mono ?_;rintro e w2 ⟨rfl,h2⟩;obtain⟨y0,y1,y2,y3,y4,y5,y6,y7⟩:=mP h2;have HB:=ZkQ (h2.get (b:=bt) (o:=.map es ck) (by simp));have h3:Own W ((w2.heap.size,z17)::aY bc b0 bt c mn cp::(bt,.map es ck)::m) (w2.alloc z17):=h2.new z17;obtain⟨B2,hB2⟩:∃ B,w2.heap.size=B:=⟨_,rfl⟩;rw[hB2]at h3;have H2:=ZkQ h3;have HT:=ZkQ (jU mZ);have HT2:=ZkQ (jU { job:=2,aB:=i,pc:=0 });clear h2 h3 HM
 go_wp2_with (first
  |(at_lookup;refine Ja rfl _ _ rfl rfl rfl HV.out HB.out jh.out ?_;rw[HF.out])
  |(refine jm (t:=59) (new:=dm { job:=2,aB:=i,pc:=0 }) rfl _ _ rfl rfl rfl gQ H3.out rfl HT2.out ?_;intro w4 hS;obtain⟨y0,y1,y2,y3,y4,y5,y6,y7⟩:=mP hS.skip;have H4:=ZkQ hS;clear hS hB3)
  |(refine jm (t:=59) (new:=dm mZ) rfl _ _ rfl rfl rfl gQ H2.out rfl HT.out ?_;intro w3 hS;have h4:Own W ((w3.heap.size,z17)::aY bc b0 bt c mn cp::(bt,.map es ck)::m) (w3.alloc z17):=hS.skip.new z17;obtain⟨B3,hB3⟩:∃ B,w3.heap.size=B:=⟨_,rfl⟩;rw[hB3]at h4;have H3:=ZkQ h4;clear hS h4 y0 y1 y2 y3 y4 y5 y6 y7 hB2))
 refine(Apart.UZ (key:=c.key) (i:=(s:Int)) (k:=(o:Int)) HC.out.ok (by have:=HS.out;omega) (by have:=HOo.out;omega) H4.out).mono ?_;rintro e w6 ⟨rfl,h6⟩;have hL0:(0:Int)≤4 * (c.C:Int)+4+4 * (c.S:Int)+(s:Int) * (c.O:Int)+(o:Int):=by
  have:=Int.mul_nonneg (show(0:Int)≤(s:Int) by omega) (show(0:Int)≤(c.O:Int) by omega);omega
 obtain⟨L,hL⟩:∃ L:Int,4 * (c.C:Int)+4+4 * (c.S:Int)+(s:Int) * (c.O:Int)+(o:Int)=L:=⟨_,rfl⟩;rw[hL]at hL0 ⊢;have d1:decide (L<0)=false:=Zx7 (by omega);have d2:¬ L<0:=by omega
 have h7:Own W (tB B3 { job:=2,aB:=i,pc:=0 }::aY bc b0 bt c mn cp::(bt,.map es ck)::m) w6:=h6;obtain⟨⟨-,-,x2,-,-,x5,x6,-⟩,fz⟩:=iV (t:={ job:=2,aB:=i,pc:=0 }) h7;have f2:=fz 2;have f5:=fz 5;have f6:=fz 6;have H7:=ZkQ h7;clear h6 h7 fz hL hL0 y0 y1 y2 y3 y4 y5 y6 y7;go_wp2_with fail
 have hS:=Zo8 (s:=(s:Int)) (o:=(o:Int)) H7.out;generalize ((w6.setCell ⟨B3,2,Option.none⟩ (.int .i64 10)).setCell ⟨B3,5,Option.none⟩ (.int .i64 (s:Int))).setCell ⟨B3,6,Option.none⟩ (.int .i64 (o:Int))=w4 at hS ⊢;obtain⟨y0,y1,y2,y3,y4,y5,y6,y7⟩:=mP hS.skip;clear x2 x5 x6;obtain⟨⟨x0,x1,x2,x3,x4,x5,x6,x7,x8,x9,x10,gz,gB,gD,gG,gH,fT⟩,-⟩:=iV (t:={ job:=2,aB:=i,pc:=10,aA:=(s:Int),obj:=(o:Int) }) hS;have H5:=ZkQ hS;clear hS
 go_still_tail 6,(by kernel_rfl)
 change wpList _ _ _ _ _ w4.drew;refine Jb (c:=bH { job:=2,aB:=i,pc:=10,aA:=(s:Int),obj:=(o:Int) }) rfl _ _ _ rfl rfl rfl rfl HV.out (H5.out.drew.perm (yU _ _ _ _)) jh.out ?_;intro es' bO w5 k1 k2;have KV:=ZkQ k1;have KO:=ZkQ ((k2.perm (yU _ _ _ _).symm).skip);clear k1 k2 y0 y1 y2 y3 y4 y5 y6 y7 x0 x1 x2 x3 x4 x5 x6 x7 x8 x9 x10 gz gB gD gG gH fT;go_wp2_with fail
 go_ret;exact⟨es',bO,rfl,KV.out,KO.out⟩
end
end Cw
namespace Cv
open See Cw
section
variable {c:Ch}{mn cp:Nat}{st st1 st':St}{g g':List Nat}{k:Nat}{t t':Tk}{aj:List Int}{r r':Rn}
def st0:St where
 ol:=fun _ _=>[]
 loc:=fun _ _=>.none
 sl:=fun _=>[]
 own:=fun _=>.dead
 lv:=fun _=>false
 dh:=fun _=>false
 cut:=none
 hold:=none
 held:=0
 ht:=fun _=>0
 pt:=fun _=>0
 nx:=fun _=>0
 lk:=fun _ _=>0
 n:=0
 tk:=fun _=>none
theorem Ztv:dH c mn cp st0 where
 om:=fun s x hx o=>by
  constructor
  ·intro h
   cases h
  ·intro h
   have:Ct.none=x:=h;rw[← this]at hx;cases hx
 od:=fun _ _ _=>List.nodup_nil
 ob:=fun _ _ h=>absurd rfl h
 oh:=fun _ _ _ h=>by cases h
 sm:=fun x hx s=>by
  constructor
  ·intro h
   cases h
  ·intro h
   have:Own.dead=x:=h;rw[← this]at hx;cases hx
 sd:=fun _ _=>List.nodup_nil
 sb:=fun _ h=>absurd rfl h
 s1:=fun _=>⟨ZxV _,ZxV _⟩
 sk:=fun _ _ h=>by rcases h with h|h|h|h<;>cases h
 live:=fun _ _ _ _=>⟨fun _=>rfl,fun _=>rfl⟩
 dead:=fun _ _=>rfl
 making:=fun _ _ h=>by cases h
 full:=fun _ h=>by cases h
 shelf:=fun _ h=>by cases h
 cuts:=fun _ h=>by cases h
 hpc:=fun _ _ h=>by rcases h with h|h|h<;>cases h
 l1:=fun _=>trivial
 l2:=fun _ _=>trivial
 cP:=fun _=>⟨trivial,trivial⟩
 cS:=trivial
 cap:=fun _=>ZxV _
 rest:=fun _=>⟨rfl,rfl,ZxV _⟩
 turn:=fun _=>⟨Zxt _,Zxt _⟩
 Ko:=fun _=>(show(0:Nat)<18446744073709551616 by decide)
 hn:=fun _ h=>by cases h
theorem inv0:Inv c mn cp st0 where
 G:=Ztv
 loc:=fun _ _ h=>by cases h
 idle:=fun _ _=>⟨rfl,fun _=>by show []=if _ then [] else [];split<;>rfl,rfl⟩
 gL:=fun _ h=>by cases h
theorem Zui (i:Ix):val c st0 i=0:=by
 cases i<;>rfl
def r0 (c:Ch):Rn:=⟨List.replicate c.words 0,fun _=>none,0,fun _=>false,[],0⟩
theorem ri0 (hC:1≤c.C∧c.C≤5)(hS:1≤c.S∧c.S≤32)(hO:1≤c.O∧c.O≤16)(bN:cp≤32)(bP:mn≤32):RI c mn cp (r0 c) st0 where
 Z:=⟨inv0,⟨List.length_replicate,fun i hi=>by
  rw[Zui];show(List.replicate c.words 0)[i.at_ c]?=some 0;rw[List.getElem?_replicate,if_pos (Ix.lt hi)]⟩,fun x hx=>by rw[(List.mem_replicate.1 hx).2];decide,hC,hS,hO,bN,bP⟩
 tk:=rfl
 out:=fun _ _ _=>⟨(fun h=>by cases h),fun h=>by cases h⟩
 nd:=List.nodup_nil
 mem:=fun _=>⟨(fun h=>by cases h),fun h=>by cases h⟩
theorem Gj {f:Nat→Nat}:∀ {n:Nat},(∀ j,j<n→f j=0)→gY f n=0
 |0,_=>rfl
 |n+1,h=>by
  unfold gY;rw[Gj (fun j hj=>h j (by omega)),h n (by omega)]
theorem ZtD:gW c st0=0:=by
 unfold gW;rw[Gj (f:=sZ c st0) (fun _ _=>rfl),Gj (f:=tV st0) (fun _ _=>rfl),Gj (f:=iq st0) (fun _ _=>rfl)];rfl
theorem ZtF:sV c aj (r0 c) st0≤PJ c * 120:=by
 unfold sV;rw[ZtD,Nat.zero_add];refine Nat.mul_le_mul_left _ ?_;show min aj.length 120 - 0≤120;omega
theorem Di.le {b:Bool}(h:Di c aj r st k r' st' b):sV c aj r' st'≤sV c aj r st:=by
 cases h with
 |on h=>omega
 |idle=>exact Zxt _
 |spin=>exact Zxt _
inductive Still (aj:List Int)(r:Rn)(st:St)(k:Nat):Bool→Prop where
 |idle (h:r.tk k=none) (h2:¬(r.next<aj.length∧r.next<120)):Still aj r st k false
 |spin (h:st.hold≠none) (t:Tk) (ht:r.tk k=some t) (hl:nE t.pc=false):Still aj r st k true
theorem YI (I:RI c mn cp r st)(h:∀ k,k<c.C→∃ b,Still aj r st k b):∀ k,k<c.C→Still aj r st k false:=by
 intro k hk;obtain⟨b,hb⟩:=h k hk;cases hb with
 |idle h1 h2=>exact .idle h1 h2
 |spin h1 t ht hl =>
  exfalso;cases hh:st.hold with
  |none=>exact h1 hh
  |some j =>
   obtain⟨t,e1,e2,-⟩:=I.Z.I.gL j hh;rw[I.tk]at e1;obtain⟨b,hb⟩:=h j (I.Z.I.G.hn j hh);cases hb with
   |idle h3 _ =>
    rw[h3]at e1;cases e1
   |spin _ t2 h4 h5 =>
    rw[h4]at e1;cases e1;rw[h5]at e2;cases e2
structure LP (c:Ch)(aj:List Int)(P0:Nat)(r:Rn)(st:St)(i idle u:Nat):Prop where
 m:i+c.C * sV c aj r st≤c.C * P0+u
 ui:u≤i
 iu:idle≤u
 s:∀ d,d<u→∃ b,Still aj r st ((i - 1 - d) % c.C) b
 f:∀ d,d<idle→Still aj r st ((i - 1 - d) % c.C) false
 e:idle<u→Still aj r st ((i - 1 - idle) % c.C) true
 uC:idle<c.C→u<c.C
theorem lp0 (_hC:1≤c.C):LP c aj (sV c aj r st) r st 0 0 0:=⟨by omega,Zxt _,Zxt _,fun d h=>by omega,fun d h=>by omega,fun h=>by omega,fun _=>by omega⟩
theorem Uh {C i k:Nat}(hC:1≤C)(hi:C≤i)(hk:k<C):∃ d,d<C∧(i - 1 - d) % C=k:=by
 have h1:=Nat.mod_lt (i - 1) (show 0<C by omega);have h2:=Nat.div_add_mod (i - 1) C;by_cases h:k≤(i - 1) % C
 ·refine⟨(i - 1) % C - k,by omega,?_⟩
  have e:i - 1 - ((i - 1) % C - k)=C * ((i - 1) / C)+k:=by omega
  rw[e,Nat.mul_add_mod];exact Nat.mod_eq_of_lt hk
 ·have hq:1≤(i - 1) / C:=by
   refine Nat.one_le_iff_ne_zero.2 fun e => ?_;rw[e]at h2;omega
  obtain⟨q,Ke⟩:∃ q,(i - 1) / C=q+1:=⟨(i - 1) / C - 1,by omega⟩;rw[Ke,Nat.mul_add]at h2;refine⟨(i - 1) % C+C - k,by omega,?_⟩;have e:i - 1 - ((i - 1) % C+C - k)=C * q+k:=by omega
  rw[e,Nat.mul_add_mod];exact Nat.mod_eq_of_lt hk
theorem LP.step {P0 i idle u:Nat}{b:Bool}(I:RI c mn cp r st)(I':RI c mn cp r' st')(L:LP c aj P0 r st i idle u)(aK:idle<c.C)(hp:Di c aj r st (i % c.C) r' st' b):∃ u',LP c aj P0 r' st' (i+1) (if b=true then 0 else idle+1) u':=by
 have hu:=L.uC aK;have hm:=L.m;have fE:∀ d,i+1 - 1 - (d+1)=i - 1 - d:=fun d=>by omega
 cases hp with
 |on h =>
  have h2:c.C * (sV c aj r' st'+1)≤c.C * sV c aj r st:=Nat.mul_le_mul_left _ h;rw[Nat.mul_add]at h2;exact⟨0,by omega,ZxV _,Zxt _,(fun d h=>by omega),(fun d h=>by simp at h),(fun h=>by simp at h),fun _=>by omega⟩
 |idle h1 h2 =>
  refine⟨u+1,by omega,Nat.succ_le_succ L.ui,Nat.succ_le_succ L.iu,fun d hd => ?_,fun d hd => ?_,fun he => ?_,fun he => ?_⟩
  ·cases d with
   |zero=>exact⟨false,.idle h1 h2⟩
   |succ d =>
    rw[fE];exact L.s d (by omega)
  ·cases d with
   |zero=>exact .idle h1 h2
   |succ d =>
    rw[fE];exact L.f d (by simp at hd;omega)
  ·show Still aj r st ((i+1 - 1 - (idle+1)) % c.C) true
   rw[fE];exact L.e (by simp at he;omega)
  ·simp at he
   by_cases Ou:u+1=c.C
   ·exfalso
    have hall:=YI (aj:=aj) I fun k hk=>by
     obtain⟨d,hd,e⟩:=Uh (i:=i+1) (by omega) (by have:=L.ui;omega) hk;rw[← e];cases d with
     |zero=>exact⟨false,.idle h1 h2⟩
     |succ d =>
      rw[fE];exact L.s d (by omega)
    have h5:=L.e (by omega);have h6:=hall _ (Nat.mod_lt (i - 1 - idle) (show 0<c.C by omega));cases h5 with
    |spin _ t ht _ =>
     cases h6 with
     |idle h7 _ =>
      rw[h7]at ht;cases ht
   ·omega
 |spin h1 t ht hl hw =>
  refine⟨u+1,by omega,Nat.succ_le_succ L.ui,ZxV _,fun d hd => ?_,(fun d hd=>by simp at hd),fun he => ?_,fun he => ?_⟩
  ·cases d with
   |zero=>exact⟨true,.spin h1 t ht hl⟩
   |succ d =>
    rw[fE];exact L.s d (by omega)
  ·exact .spin h1 t ht hl
  ·by_cases Ou:u+1=c.C
   ·exfalso
    have hall:=YI (aj:=aj) I fun k hk=>by
     obtain⟨d,hd,e⟩:=Uh (i:=i+1) (by omega) (by have:=L.ui;omega) hk;rw[← e];cases d with
     |zero=>exact⟨true,.spin h1 t ht hl⟩
     |succ d =>
      rw[fE];exact L.s d (by omega)
    have h6:=hall _ (Nat.mod_lt i (show 0<c.C by omega));cases h6 with
    |idle h7 _ =>
     rw[h7]at ht;cases ht
   ·omega
theorem LP.done {P0 i idle u:Nat}(L:LP c aj P0 r st i idle u)(hC:1≤c.C)(h:c.C≤idle):∀ k,k<c.C→r.tk k=none∧¬(r.next<aj.length∧r.next<120):=by
 intro k hk;obtain⟨d,hd,e⟩:=Uh (i:=i) hC (by have:=L.ui;have:=L.iu;omega) hk;have:=L.f d (by omega);rw[e]at this;cases this with
 |idle h1 h2=>exact⟨h1,h2⟩
theorem LP.ends {P0 i idle u:Nat}(L:LP c aj P0 r st i idle u)(hC:c.C≤5)(hS:c.S≤8)(hO:c.O≤8)(hP:P0≤PJ c * 120)(h:idle<c.C):i<100000:=by
 have hu:=L.uC h;have hm:=L.m;have h1:P0≤18600:=by
  unfold PJ at hP;omega
 have h2:c.C * P0≤5 * 18600:=Nat.mul_le_mul hC h1;omega
end
end Cv
end Go.Proofs.YtfcpdlbkmkhhcaaGreatDoor
