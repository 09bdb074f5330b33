/-
  Texts of this claim, joined. No condition.
-/
import Derived.Test.YtfcpdlbkmkhhcaaGreatDoorCn11
import Derived.Test.YtfcpdlbkmkhhcaaGreatDoorCn45
import Derived.Test.YtfcpdlbkmkhhcaaGreatDoorCn38
import Derived.Test.YtfcpdlbkmkhhcaaGreatDoorCn14
import Derived.Test.YtfcpdlbkmkhhcaaGreatDoorCn17
namespace Go.Proofs.YtfcpdlbkmkhhcaaGreatDoor.Cw
open Go Mem See
open Go.RowKit
section
variable {W w:World}{m:List (Nat×Obj)}
theorem Zkc (h:Own W m w)(hT:Ex.ZdY FillTab.gs W):Calls Tryz.prog 8 #[] w fun e w'=>e = .returned (.bool true)∧Own W m w' :=
 (Ex.Zpx (σ:=fun _=>0) Ex.ZlO crewWorks.yes w (Zea hT h)).mono fun _ _ ⟨h1,h2⟩=>⟨h1,h.Zq4 h2⟩
end
end Go.Proofs.YtfcpdlbkmkhhcaaGreatDoor.Cw

namespace Go.Proofs.YtfcpdlbkmkhhcaaGreatDoor.Cw
open Go Mem See
open Go.RowKit
attribute [local go_sem ↓] Go.wp_at_zero Go.wp_at_succ
section
variable {W w:World}{m:List (Nat×Obj)}{a0 a1 a2 a3 a4:Int}{key:Nat}{jv qv:Value}{jobs picks:List Int}
def ZsF (a0 a1 a2 a3 a4:Int)(key:Nat)(jv qv:Value):Value:=.agg #[.int .i64 a0,.int .i64 a1,.int .i64 a2,.int .i64 a3,.int .i64 a4,.int .u64 (key:Int),jv,qv]
theorem Znz:Ex.Za2 Tryz.prog 27=some 8:=by kernel_rfl
theorem Zqa:Ex.Za2 Tryz.prog 24=some 6:=by kernel_rfl
theorem ZkQ {b:Nat}{l:List (Nat×Obj)}{v:World}(h:Own W (Zc4 b a0 a1 a2 a3 a4 key jv qv::l) v):(Instr.loadAt 24 (.pointer (some ⟨b,0,Option.none⟩))).run Tryz.prog v = .ok (.agg #[.int .i64 a0,.int .i64 a1,.int .i64 a2,.int .i64 a3,.int .i64 a4,.int .u64 (key:Int)]) v:=by
 have h2:Own W ((b,.cells (([]:List Value)++([.int .i64 a0,.int .i64 a1,.int .i64 a2,.int .i64 a3,.int .i64 a4,.int .u64 (key:Int)]:List Value)++([jv,qv]:List Value)).toArray 27)::l) v:=h
 exact Zeq (P:=Tryz.prog) (t:=24) (pre:=[]) h2 Tryz.underlying24 rfl (by kernel_rfl)
theorem ZdC {P:Program}{ops:Array Oper}{rest:List Oper}{o:Oper}{a:Act}{Q:Exit→Act→World→Prop}{ad v:Value}{t:TypeId}(hgd:o.guard=Option.none)(p:Operand)(ho:o.op = .load t p)(hp:a.eval p=ad)(hr:(Instr.loadAt t ad).run P w = .ok v w)(h:wpList P ops Q rest (a.put o.dst v) w):wpList P ops Q (o::rest) a w:=by
 refine wpList_plain hgd fun K hK => ?_
 unfold Oper.wp execOp
 simp only [ho,hp,Sem.run_bind,Sem.run_pure,Result.andThen_ok,hr]
 exact hK _ _ h
theorem Zp0.open {br:Nat}{c:Ch}{mn cp:Nat}(h:Zp0 W m c mn cp jv jobs br w):∃ (bc:Nat) (pv:Value) (r:Cv.Rn) (M:List (Nat×Obj)),Own W (m++Zep br bc c mn cp jv r.next r.out pv r.none true::M) w:=by
 obtain ⟨bc,b0,b1,bt,cnt,n,N,pv,pb,r,st,-,-,-,hR⟩:=h.ex
 obtain ⟨M,hM⟩:=Zcw hR.o
 exact ⟨bc,pv,r,pb++M,hM.perm (Zao fun _ q=>by simp only [List.cons_append,List.count_cons,List.count_append]; omega)⟩
set_option maxRecDepth 100000 in
set_option maxHeartbeats 40000000 in
theorem ZnK (hT:Ex.ZdY FillTab.gs W)(hj:ZaK W jv jobs)(hq:ZaK W qv picks)(hwj:∀ j∈jobs,(Lit.int .i64 j).wf=true)(hwq:∀ j∈picks,(Lit.int .i64 j).wf=true)(hkey:key<18446744073709551616)
 (w0:(Lit.int .i64 a0).wf=true) (w1:(Lit.int .i64 a1).wf=true) (w2:(Lit.int .i64 a2).wf=true) (w3:(Lit.int .i64 a3).wf=true) (w4:(Lit.int .i64 a4).wf=true) :
 Calls Tryz.prog 3 #[ZsF a0 a1 a2 a3 a4 key jv qv] W fun e w'=>e = .returned (.bool true)∧Own W [] w':=by
 have h:=Own.self W
 obtain ⟨A1,K1,rfl⟩:=ZdV hj
 obtain ⟨A2,K2,rfl⟩:=ZdV hq
 have h1:=h.new (Zc4 0 a0 a1 a2 a3 a4 key (.slice A1 jobs.length K1) (.slice A2 picks.length K2)).2
 obtain ⟨B,hB⟩:∃ B,W.heap.size=B:=⟨_,rfl⟩
 rw [hB] at h1
 have h1:Own W [Zc4 B a0 a1 a2 a3 a4 key (.slice A1 jobs.length K1) (.slice A2 picks.length K2)] _:=h1
 obtain ⟨wa,hwa⟩:∃ wa,W.alloc (Zc4 0 a0 a1 a2 a3 a4 key (.slice A1 jobs.length K1) (.slice A2 picks.length K2)).2=wa:=⟨_,rfl⟩
 rw [hwa] at h1
 unfold Zc4 at hwa
 have H1:=Lib.hid h1
 have HLV:=Lib.hid (ZhE h1 hT hj hq hwj hwq hkey w0 w1 w2 w3 w4)
 have HMD:=Lib.hid (fun (w:World) (m:List (Nat×Obj)) (h:Own W m w)=>Zjx (key:=key) h w0 w1 w2 w3 w4)
 have HLV2:=Lib.hid (fun (w:World) (hT:Ex.ZdY FillTab.gs w) (jv:Value) (jobs:List Int) (hj:ZaK w jv jobs) (hwj:∀ j∈jobs,(Lit.int .i64 j).wf=true) (hq:ZaK w (.slice A2 picks.length K2) picks)=>ZhE (Own.self w) hT hj hq hwj hwq hkey w0 w1 w2 w3 w4)
 have HQ:=Lib.hid hq
 have HT:=Lib.hid hT
 clear h h1 hj hq hwj hwq hT hkey w0 w1 w2 w3 w4
 have HCB:=Lib.hid (ZpN (a0:=a0) (a1:=a1) (a2:=a2) (key:=key))
 obtain ⟨c,hc⟩:∃ c,mkC a0 a1 a2 key=c:=⟨_,rfl⟩
 rw [hc] at HMD HCB HLV HLV2
 clear hc
 unfold ZsF
 go_enter Tryz.func3,Tryz.ntmps3
 go_wp2_with (first
  | (refine Zaq (t:=27) (old:=#[.int .i64 a0,.int .i64 a1,.int .i64 a2,.int .i64 a3,.int .i64 a4,.int .u64 (key:Int),.slice A1 jobs.length K1,.slice A2 picks.length K2]) rfl _ rfl rfl Tryz.underlying27 H1.out Znz ?_))
 refine HLV.out.mono ?_
 rintro e w2 ⟨br,rfl,hv⟩
 obtain ⟨bc,pv,r,M2,h2⟩:=hv.open
 have h2:Own W (Zc4 B a0 a1 a2 a3 a4 key (.slice A1 jobs.length K1) (.slice A2 picks.length K2)::Zep br bc c (Cv.brg a3 3) (Cv.brg a4 3) (.slice A1 jobs.length K1) r.next r.out pv r.none true::M2) w2:=h2
 have H2:=Lib.hid h2
 have hlc:=ZkQ h2
 have HLC:=Lib.hid hlc
 clear hv h2 hlc hwa hB H1 HLV
 go_wp2_with (first
  | (refine ZdC (t:=24) rfl _ rfl rfl HLC.out ?_))
 refine (HMD.out _ _ H2.out).mono ?_
 rintro e w3 ⟨rfl,h3⟩
 have h4:=h3.new (.cells #[.int .i64 0,.int .i64 0,.int .i64 0,.int .i64 0,.int .i64 0,.int .u64 0] 24)
 obtain ⟨B4,hB4⟩:∃ B,w3.heap.size=B:=⟨_,rfl⟩
 rw [hB4] at h4
 have H4:=Lib.hid h4
 obtain ⟨mn,hmn⟩:∃ mn,Cv.brg a3 3=mn:=⟨_,rfl⟩
 obtain ⟨cp,hcp⟩:∃ cp,Cv.brg a4 3=cp:=⟨_,rfl⟩
 rw [hmn,hcp] at H4 HLV2 ⊢
 have HN6:Hid (∀ u∈(#[.int .i64 (c.C:Int),.int .i64 (c.S:Int),.int .i64 (c.O:Int),.int .i64 (mn:Int),.int .i64 (cp:Int),.int .u64 (c.key:Int)]:Array Value).toList,u.oneCell'=true):=by
  intro u hu
  simp only [List.mem_cons,List.not_mem_nil,or_false] at hu
  rcases hu with rfl | rfl | rfl | rfl | rfl | rfl <;> rfl
 clear h3 h4 H2 HLC HMD hmn hcp
 unfold chW
 go_wp2_with (first
  | (refine Zab (t:=24) (new:=#[.int .i64 (c.C:Int),.int .i64 (c.S:Int),.int .i64 (c.O:Int),.int .i64 (mn:Int),.int .i64 (cp:Int),.int .u64 (c.key:Int)]) rfl _ _ rfl rfl rfl Zqa H4.out rfl HN6.out ?_; intro w5 hS; have H5:Hid (Own W (Zoq B4 c mn cp::Zc4 B a0 a1 a2 a3 a4 key (.slice A1 jobs.length K1) (.slice A2 picks.length K2)::Zep br bc c mn cp (.slice A1 jobs.length K1) r.next r.out pv r.none true::M2) w5):=hS; clear hS hB4 H4))
 obtain ⟨L,hL⟩:∃ L:Int,((c.S:Int) - 2 * (c.C:Int)) * (c.O:Int)=L:=⟨_,rfl⟩
 have hLb : -128≤L∧L≤64:=by
  obtain ⟨k1,k2,k3,k4,k5,k6⟩:=HCB.out
  rw [← hL]
  have hS:(c.S:Int) - 2 * (c.C:Int)≤8 ∧ -10≤(c.S:Int) - 2 * (c.C:Int):=by omega
  have hO:(0:Int)≤(c.O:Int)∧(c.O:Int)≤8:=by omega
  constructor
  ·have:=Int.mul_le_mul_of_nonneg_right hS.2 hO.1
   omega
  ·have:=Int.mul_le_mul_of_nonneg_right hS.1 hO.1
   omega
 have HL:=Lib.hid hL
 have HLB:=Lib.hid hLb
 have e1:wrap64 (2 * (c.C:Int))=2 * (c.C:Int):=IntWalk.wrap64_in _ (by have:=HCB.out; omega)
 have e2:wrap64 ((c.S:Int) - 2 * (c.C:Int))=(c.S:Int) - 2 * (c.C:Int):=IntWalk.wrap64_in _ (by have:=HCB.out; omega)
 have e3:wrap64 (((c.S:Int) - 2 * (c.C:Int)) * (c.O:Int))=L:=by rw [hL]; exact IntWalk.wrap64_in _ (by omega)
 clear hL hLb
 go_loopw [6,7] (fun tv kv wr=>∃ (i:Nat) (bs:List (Nat×Obj)),kv = .int .i64 (i:Int)∧Zcu true tv (List.replicate i 0) bs∧i≤jobs.length∧(i=0∨(i:Int)≤L)∧Own W (bs++(Zoq B4 c mn cp::Zc4 B a0 a1 a2 a3 a4 key (.slice A1 jobs.length K1) (.slice A2 picks.length K2)::Zep br bc c mn cp (.slice A1 jobs.length K1) r.next r.out pv r.none true::M2)) wr) (fun _ kv _=>jobs.length+1 - (intOf kv).toNat)
 case atStart=>exact ⟨0,[],rfl,SlO.nil true _ _,Nat.zero_le _,.inl rfl,H5.out⟩
 case round =>
  obtain ⟨i,bs,rfl,hs,hij,hiL,hO⟩:=hrel
  obtain ⟨At,ct,rfl,-,-⟩:=SlO.slice hs
  rw [List.length_replicate] at *
  have HS:=Lib.hid hs
  have HO:=Lib.hid hO
  have HIJ:=Lib.hid hij
  have HIL:=Lib.hid hiL
  obtain ⟨z0,z1,z2,-⟩:=Zi2 hO.Zfu
  obtain ⟨-,-,-,-,-,-,z6,z7⟩:=ZeU hO.Zfu.skip
  clear hs hO hij hiL H5
  by_cases hlt:i<jobs.length
  ·have i1:(i:Int)<(jobs.length:Int):=by omega
   by_cases hlL:(i:Int)<L
   ·have HI4:Hid (i<64):=by have:=HLB.out; exact Lib.hid (by omega)
    have HLT:=Lib.hid hlt
    have HLL:=Lib.hid hlL
    clear hlt
    go_wp2_with (first
     | (at_builtin; refine Zhd (l':=[0]) rfl _ _ rfl rfl rfl HS.out (HO.out.alloc _) (Zoc _ _) (by rw [List.length_replicate]; have:=HI4.out; show i+1≤60000; omega) ?_; intro v' w6 bs' k1 k2 k3; have K1:=Lib.hid k1; have K2:=Lib.hid k2; clear k1 k2 k3))
    rw [show wrap64 ((i:Int)+1)=((i+1:Nat):Int) from IntWalk.wrap64_in _ (by have:=HI4.out; omega)]
    refine ⟨⟨i+1,bs',rfl,by rw [List.replicate_succ']; exact K1.out,HLT.out,.inr (by have:=HLL.out; omega),K2.out⟩,by have:=HLT.out; simp [intOf]; omega⟩
   ·clear hlt
    have hT2:=Zea HT.out HO.out
    have HTK:Hid (Cv.ZmK c (List.replicate i 0)):=by
     refine ⟨fun j hj => ?_,?_⟩
     ·rw [(List.mem_replicate.1 hj).2]
      decide
     ·rw [List.length_replicate]
      rcases HIL.out with h0 | h0
      ·omega
      ·rcases Nat.lt_or_ge c.S (2 * c.C) with h1 | h1
       ·have h2:((c.S:Int) - 2 * (c.C:Int)) * (c.O:Int)≤0:=Int.mul_nonpos_of_nonpos_of_nonneg (by omega) (by omega)
        have:=HL.out
        omega
       ·have h2:(((c.S - 2 * c.C) * c.O:Nat):Int)=L:=by
              rw [Int.natCast_mul,← HL.out]
              congr 1
              omega
        omega
    have hlc:=ZkQ HO.out.Zfu.skip
    have HLC:=Lib.hid hlc
    have hsrc:ZaK wr (.slice At i ct) (List.replicate i 0):=by
     have:=HS.out.src HO.out
     exact this
    have HLV3:=Lib.hid (HLV2.out wr hT2 _ _ hsrc (fun j hj=>by rw [(List.mem_replicate.1 hj).2]; rfl) (Src.Zil HQ.out HO.out))
    have HT2:=Lib.hid hT2
    clear hT2 hlc hsrc
    go_wp2_with (first
     | (refine ZdC (t:=24) rfl _ rfl rfl HLC.out ?_))
    refine HLV3.out.mono ?_
    rintro e w7 ⟨br2,rfl,hv2⟩
    obtain ⟨bc2,d0,d1,dt,cnt2,n2,N2,pv2,pb2,r2,st2,hLv2,-,hfin2,hR2⟩:=hv2.ex
    obtain ⟨hnone,hplen⟩:=Cv.ZnJ (hLv2.ra HTK.out) hfin2 HCB.out.1 hLv2.next
    rw [List.length_replicate] at hplen
    have hi64:i≤64:=by
     rcases HIL.out with h0 | h0
     ·omega
     ·have:=HLB.out
      omega
    obtain ⟨⟨-,-,-,-,-,-,-,-,-,u9,u10,-⟩,-,-⟩:=hR2.box
    obtain ⟨PA,PK,hpv,-⟩:=hR2.pile
    obtain ⟨M3,hM3⟩:=Zcw hR2.o
    have hJ:=HO.out.join hM3
    obtain ⟨⟨-,-,-,-,-,-,-,-,-,-,v10,-⟩,-,-⟩:=Zft hJ.Zfu.Zfu.skip.skip
    rw [hnone] at u10
    rw [show r2.pile.length=i by omega] at hpv
    rw [hpv] at u9
    have HJ:=Lib.hid hJ
    have HI64:=Lib.hid hi64
    clear e1 e2 e3 hJ hM3 hv2 hLv2 hfin2 hR2 hnone hplen hpv hi64 HLV2 HLV3 HLC HTK HS HO
    have g1:decide (0≤r.none)=true:=decide_eq_true (Nat.zero_le _)
    have g2:decide ((0:Int)≤(r.none:Int))=true:=decide_eq_true (by omega)
    have g3:(i:Int)≤120:=by have:=HI64.out; omega
    go_wp2_with fail
    refine (Zkc (HJ.out.sub (List.nil_sublist _)) HT.out).mono ?_
    rintro e w8 ⟨rfl,h8⟩
    have H8:=Lib.hid h8
    clear h8
    go_wp2_with fail
    go_ret
    exact ⟨rfl,H8.out⟩
  ·have i1:¬ (i:Int)<(jobs.length:Int):=by omega
   clear hlt
   have hT2:=Zea HT.out HO.out
   have HTK:Hid (Cv.ZmK c (List.replicate i 0)):=by
    refine ⟨fun j hj => ?_,?_⟩
    ·rw [(List.mem_replicate.1 hj).2]
     decide
    ·rw [List.length_replicate]
     rcases HIL.out with h0 | h0
     ·omega
     ·rcases Nat.lt_or_ge c.S (2 * c.C) with h1 | h1
      ·have h2:((c.S:Int) - 2 * (c.C:Int)) * (c.O:Int)≤0:=Int.mul_nonpos_of_nonpos_of_nonneg (by omega) (by omega)
       have:=HL.out
       omega
      ·have h2:(((c.S - 2 * c.C) * c.O:Nat):Int)=L:=by
              rw [Int.natCast_mul,← HL.out]
              congr 1
              omega
       omega
   have hlc:=ZkQ HO.out.Zfu.skip
   have HLC:=Lib.hid hlc
   have hsrc:ZaK wr (.slice At i ct) (List.replicate i 0):=by
    have:=HS.out.src HO.out
    exact this
   have HLV3:=Lib.hid (HLV2.out wr hT2 _ _ hsrc (fun j hj=>by rw [(List.mem_replicate.1 hj).2]; rfl) (Src.Zil HQ.out HO.out))
   have HT2:=Lib.hid hT2
   clear hT2 hlc hsrc
   go_wp2_with (first
    | (refine ZdC (t:=24) rfl _ rfl rfl HLC.out ?_))
   refine HLV3.out.mono ?_
   rintro e w7 ⟨br2,rfl,hv2⟩
   obtain ⟨bc2,d0,d1,dt,cnt2,n2,N2,pv2,pb2,r2,st2,hLv2,-,hfin2,hR2⟩:=hv2.ex
   obtain ⟨hnone,hplen⟩:=Cv.ZnJ (hLv2.ra HTK.out) hfin2 HCB.out.1 hLv2.next
   rw [List.length_replicate] at hplen
   have hi64:i≤64:=by
    rcases HIL.out with h0 | h0
    ·omega
    ·have:=HLB.out
     omega
   obtain ⟨⟨-,-,-,-,-,-,-,-,-,u9,u10,-⟩,-,-⟩:=hR2.box
   obtain ⟨PA,PK,hpv,-⟩:=hR2.pile
   obtain ⟨M3,hM3⟩:=Zcw hR2.o
   have hJ:=HO.out.join hM3
   obtain ⟨⟨-,-,-,-,-,-,-,-,-,-,v10,-⟩,-,-⟩:=Zft hJ.Zfu.Zfu.skip.skip
   rw [hnone] at u10
   rw [show r2.pile.length=i by omega] at hpv
   rw [hpv] at u9
   have HJ:=Lib.hid hJ
   have HI64:=Lib.hid hi64
   clear e1 e2 e3 hJ hM3 hv2 hLv2 hfin2 hR2 hnone hplen hpv hi64 HLV2 HLV3 HLC HTK HS HO
   have g1:decide (0≤r.none)=true:=decide_eq_true (Nat.zero_le _)
   have g2:decide ((0:Int)≤(r.none:Int))=true:=decide_eq_true (by omega)
   have g3:(i:Int)≤120:=by have:=HI64.out; omega
   go_wp2_with fail
   refine (Zkc (HJ.out.sub (List.nil_sublist _)) HT.out).mono ?_
   rintro e w8 ⟨rfl,h8⟩
   have H8:=Lib.hid h8
   clear h8
   go_wp2_with fail
   go_ret
   exact ⟨rfl,H8.out⟩
end
end Go.Proofs.YtfcpdlbkmkhhcaaGreatDoor.Cw

namespace Go.Proofs.YtfcpdlbkmkhhcaaGreatDoor
open Go.ChangeShapes Go.WideShapes Go.ChangeAt Go.RowKit
section
variable {H:Type}{enc:TypeId×Value→H}{P:Program}{w:World}{base:Nat}{spare:Nat→Bool}{held:Bool}
theorem Zi4 {t e:TypeId}{fuel:Nat}{cs:List Value}{x:DataW H×List MemPlace}(ht:P.underlying t=some (.slice e))(hks:Zcz P 4 e=some [some .i64])(hce:P.cellsOf e=1)(h:DataW.trod enc P w base spare held fuel t cs=some x)(hlt:∀ z∈x.2,z.block<w.heap.size) :
 ∃ (v:Value) (l:List Int),cs=[v]∧ZaK w v l∧∀ j∈l,(Lit.int .i64 j).wf=true:=by
 have hone:∃ v:Value,cs=[v]∧v.cells.toList=[v]:=by
  rcases Deep.open_slice ht h with ⟨h0,_⟩ | ⟨a,len,cap,m,n',D,Pl,hcs,_⟩
  ·exact ⟨_,h0,rfl⟩
  ·exact ⟨_,hcs,rfl⟩
 obtain ⟨v,rfl,hv⟩:=hone
 have hT:DataW.Trod enc P w base spare held t v x.1 x.2:=⟨fuel,by rw [hv]; exact h⟩
 rcases ZgY 4 ht hks hv hT hlt (by rw [hce]; omega) with rfl | ⟨a,len,cap,rfl,hl,hm,hb,hc⟩
 ·exact ⟨_,[],rfl,⟨rfl,.inl ⟨rfl,rfl⟩⟩,fun j hj=>by cases hj⟩
 ·have key:∀ i,i<len→∃ n:Int,w.cell? (a.add i)=some (.int .i64 n)∧(Lit.int .i64 n).wf=true:=fun i hi=>by
   obtain ⟨u,hu,n,rfl,hn⟩:=hc i hi 0 _ rfl
   rw [hce,Nat.mul_one,Nat.add_zero] at hu
   exact ⟨n,hu,hn⟩
  have hlist:∀ k,k≤len→∃ l:List Int,l.length=k∧∀ j n,l[j]?=some n→w.cell? (a.add j)=some (.int .i64 n)∧(Lit.int .i64 n).wf=true:=by
   intro k
   induction k with
   | zero=>exact fun _=>⟨[],rfl,fun j n h=>by simp at h⟩
   | succ k ih =>
     intro hk
     obtain ⟨l,h1,h2⟩:=ih (by omega)
     obtain ⟨n,h3,h4⟩:=key k (by omega)
     refine ⟨l++[n],by simp [h1],fun j z hz => ?_⟩
     rw [List.getElem?_append] at hz
     split at hz
     ·exact h2 j z hz
     ·rename_i hj
      rw [List.getElem?_singleton] at hz
      split at hz
      ·cases hz
       have:j=k:=by omega
       subst this
       exact ⟨h3,h4⟩
      ·cases hz
  obtain ⟨l,h1,h2⟩:=hlist len (Nat.le_refl _)
  subst h1
  refine ⟨_,l,rfl,⟨by rw [ZoU,Nat.mul_one],.inr ⟨a,cap,rfl,fun j u hj => ?_⟩⟩,fun j hj => ?_⟩
  ·unfold ints at hj
   rw [List.getElem?_map] at hj
   cases hn:l[j]? with
   | none=>rw [hn] at hj; cases hj
   | some n =>
     rw [hn] at hj
     cases hj
     exact (h2 j n hn).1
  ·obtain ⟨i,hi,rfl⟩:=List.getElem_of_mem hj
   exact (h2 i _ (List.getElem?_eq_getElem hi)).2
end
section
variable {H:Type}{enc:TypeId×Value→H}{w:World}{base:Nat}{spare:Nat→Bool}{held:Bool}
set_option maxRecDepth 100000 in
theorem ZnM {fuel:Nat}{cs:Array Value}{x:DataW H×List MemPlace}(h:DataW.trod enc Tryz.prog w base spare held fuel 27 cs.toList=some x)(hc8:cs.size=8)(hlt:∀ z∈x.2,z.block<w.heap.size) :
 ∃ (a0 a1 a2 a3 a4:Int) (key:Nat) (jv qv:Value) (jobs picks:List Int),cs=#[.int .i64 a0,.int .i64 a1,.int .i64 a2,.int .i64 a3,.int .i64 a4,.int .u64 (key:Int),jv,qv]∧(Lit.int .i64 a0).wf=true∧(Lit.int .i64 a1).wf=true∧(Lit.int .i64 a2).wf=true∧(Lit.int .i64 a3).wf=true∧(Lit.int .i64 a4).wf=true∧key<18446744073709551616 ∧
  ZaK w jv jobs∧(∀ j∈jobs,(Lit.int .i64 j).wf=true)∧ZaK w qv picks∧∀ j∈picks,(Lit.int .i64 j).wf=true:=by
 obtain ⟨xs,n,_,hx,hlen,hxl,hfld⟩:=DataW.trod_struct Tryz.underlying27 h
 have hsub:∀ (i:Nat) y,xs[i]?=some y→∀ z∈y.2,z.block<w.heap.size:=fun i y hi z hz=>hlt z (by
  have:x.2=xs.flatMap (·.2):=congrArg Prod.snd hx
  rw [this,List.mem_flatMap]
  exact ⟨y,List.mem_of_getElem? hi,hz⟩)
 have get:∀ i,i<3→∃ y,xs[i]?=some y:=fun i hi=>by
  have:xs.length=3:=by rw [hxl]; kernel_rfl
  exact ⟨_,List.getElem?_eq_getElem (by omega)⟩
 obtain ⟨y0,g0⟩:=get 0 (by omega)
 obtain ⟨y1,g1⟩:=get 1 (by omega)
 obtain ⟨y2,g2⟩:=get 2 (by omega)
 have hch:=Zfn n 4 24 _ _ [some .i64,some .i64,some .i64,some .i64,some .i64,some .u64] ((hfld 0 _ rfl).trans g0) (by kernel_rfl)
 have ch:∀ i k,[some IntKind.i64,some .i64,some .i64,some .i64,some .i64,some .u64][i]?=some k→∃ v,cs[i]?=some v∧CellIs k v:=fun i k hk=>by
  obtain ⟨v,h1,h2⟩:=hch i k hk
  refine ⟨v,?_,h2⟩
  have hi:i<6:=(List.getElem?_eq_some_iff.1 hk).1
  have h3:((cs.toList.drop 0).take 6)[i]?=some v:=h1
  rw [List.getElem?_take,if_pos hi,List.drop_zero] at h3
  simpa using h3
 obtain ⟨v0,c0,a0,rfl,w0⟩:=ch 0 _ rfl
 obtain ⟨v1,c1,a1,rfl,w1⟩:=ch 1 _ rfl
 obtain ⟨v2,c2,a2,rfl,w2⟩:=ch 2 _ rfl
 obtain ⟨v3,c3,a3,rfl,w3⟩:=ch 3 _ rfl
 obtain ⟨v4,c4,a4,rfl,w4⟩:=ch 4 _ rfl
 obtain ⟨v5,c5,ky,rfl,w5⟩:=ch 5 _ rfl
 have tk:∀ (i:Nat) (v:Value),(cs.toList.drop i).take 1=[v]→cs[i]?=some v:=fun i v h=>by
  have:((cs.toList.drop i).take 1)[0]?=some v:=by rw [h]; rfl
  rw [List.getElem?_take,if_pos (by omega),List.getElem?_drop] at this
  simpa using this
 obtain ⟨jv,jobs,e1,s1,f1⟩:=Zi4 Tryz.underlying25 (by kernel_rfl) (by kernel_rfl) ((hfld 1 _ rfl).trans g1) (hsub 1 _ g1)
 obtain ⟨qv,picks,e2,s2,f2⟩:=Zi4 Tryz.underlying25 (by kernel_rfl) (by kernel_rfl) ((hfld 2 _ rfl).trans g2) (hsub 2 _ g2)
 have hky:0≤ky∧ky<18446744073709551616:=by
  simp [Lit.wf,IntKind.min,IntKind.max,IntKind.signed,IntKind.bits] at w5
  omega
 refine ⟨a0,a1,a2,a3,a4,ky.toNat,jv,qv,jobs,picks,?_,w0,w1,w2,w3,w4,by omega,s1,f1,s2,f2⟩
 rw [show ((ky.toNat:Nat):Int)=ky by omega]
 apply Array.ext_getElem?
 intro i
 match i with
 | 0=>rw [c0]; rfl
 | 1=>rw [c1]; rfl
 | 2=>rw [c2]; rfl
 | 3=>rw [c3]; rfl
 | 4=>rw [c4]; rfl
 | 5=>rw [c5]; rfl
 | 6=>rw [tk 6 _ e1]; rfl
 | 7=>rw [tk 7 _ e2]; rfl
 | i+8=>rw [Array.getElem?_eq_none (by omega)]; rfl
end
end Go.Proofs.YtfcpdlbkmkhhcaaGreatDoor
