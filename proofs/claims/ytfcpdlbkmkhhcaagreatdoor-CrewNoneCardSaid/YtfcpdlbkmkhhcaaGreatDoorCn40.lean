/-
  Texts of this claim, joined. No condition.
-/
import Derived.Test.YtfcpdlbkmkhhcaaGreatDoorCn23
import Derived.Test.YtfcpdlbkmkhhcaaGreatDoorCn18
import Derived.Test.YtfcpdlbkmkhhcaaGreatDoorCn39
import Derived.Deep.RegionHeld3
import Derived.Test.YtfcpdlbkmkhhcaaGreatDoorCn24
import Derived.Test.YtfcpdlbkmkhhcaaGreatDoorCn17
import Derived.Test.YtfcpdlbkmkhhcaaGreatDoorCn36


namespace Go.Proofs.YtfcpdlbkmkhhcaaGreatDoor.Cw
open Go Mem See
open Go.RowKit
attribute [local go_sem ↓] Go.wp_at_zero Go.wp_at_succ
section
variable {W w:World}{m:List (Nat×Obj)}{bc b0 bt b:Nat}{c:Ch}{mn cp:Nat}{t:Tk}{es:Array MapEntry}{ck n:Nat}{f:Int→Option Value}{i:Nat}
set_option maxRecDepth 100000 in
set_option maxHeartbeats 1000000 in
theorem Zoh (h:Own W (crB bc b0 bt c mn cp::(bt,.map es ck)::m) w)(hv:VM es ck n f)(hi:i<9)(hf:(f i).getD (tkV tk0)=tkV t){is:Bool}(hs:(f i).isSome=is) :
 Calls Tryz.prog 16 #[.pointer (some ⟨bc,0,Option.none⟩),.int .i64 (i:Int)] w fun e w'=>e = .returned (.tuple #[tkV t,.bool is])∧Own W (crB bc b0 bt c mn cp::(bt,.map es ck)::m) w':=by
 have h1:Own W ((w.heap.size,z17)::crB bc b0 bt c mn cp::(bt,.map es ck)::m) (w.alloc z17):=h.new z17
 obtain ⟨B,hB⟩:∃ B,w.heap.size=B:=⟨_,rfl⟩
 rw [hB] at h1
 have h1:=h1.perm (sw _ _ _)
 obtain ⟨wa,hwa⟩:∃ wa,w.alloc z17=wa:=⟨_,rfl⟩
 rw [hwa] at h1
 have HWF:=Lib.hid (Zje hi)
 have HV:=Lib.hid hv
 have HF:=Lib.hid hf
 have HS:=Lib.hid hs
 have HM:=Lib.hid (ZgU h1)
 clear h h1 hv hi hf hs
 go_enter Tryz.func16,Tryz.ntmps16
 go_wp2_with fail
 refine HM.out.mono ?_
 rintro e w2 ⟨rfl,h2⟩
 obtain ⟨y0,y1,y2,y3,y4,y5,y6,y7⟩:=Zgn h2
 have HB:=Lib.hid (h2.get (b:=bt) (o:=.map es ck) (by simp))
 have H2:=Lib.hid (h2.perm (sw _ _ _))
 have HT:=Lib.hid (ZaE t)
 clear h2 HM hwa hB
 go_wp2_with (first
  | (at_lookup; refine ZbS rfl _ _ rfl rfl rfl HV.out HB.out HWF.out ?_; rw [HF.out,HS.out])
  | (refine Zab (t:=59) (new:=tkA t) rfl _ _ rfl rfl rfl Zap H2.out rfl HT.out ?_; intro w3 hS; have HX:=Lib.hid hS; clear hS y0 y1 y2 y3 y4 y5 y6 y7)
  | (refine Zaq (t:=59) (old:=tkA t) rfl _ rfl rfl Tryz.underlying59 HX.out Zap ?_)
  | (refine Zab (t:=59) (new:=tkA t) rfl _ _ rfl rfl rfl Zap HX.out rfl HT.out ?_; intro w4 hT))
 obtain ⟨⟨x0,x1,x2,x3,x4,x5,x6,x7,x8,x9,x10,x11,x12,x13,x14,x15,x16⟩,-⟩:=Za8 (t:=t) hT
 exact bodyPost_ret (v:=.tuple #[tkV t,.bool is]) (by simp [results,Tryz.f16,go_sem,x0,x1,x2,x3,x4,x5,x6,x7,x8,x9,x10,x11,x12,x13,x14,x15,x16,tkV]) rfl ⟨rfl,hT.skip⟩
end
end Go.Proofs.YtfcpdlbkmkhhcaaGreatDoor.Cw

namespace Go.Proofs.YtfcpdlbkmkhhcaaGreatDoor.Cw
open Go Mem See
open Go.RowKit
attribute [local go_sem ↓] Go.wp_at_zero Go.wp_at_succ
section
variable {W w:World}{m:List (Nat×Obj)}{bc b0 bt b:Nat}{c:Ch}{mn cp:Nat}{t:Tk}{es:Array MapEntry}{ck n:Nat}{f:Int→Option Value}{i:Nat}
set_option maxRecDepth 100000 in
set_option maxHeartbeats 4000000 in
theorem Zkt (h:Own W (crB bc b0 bt c mn cp::(bt,.map es ck)::m) w)(hC:c.C≤8)(hv:VM es ck n f)(hi:i<c.C)(hf:f i=Option.none) :
 Calls Tryz.prog 13 #[.pointer (some ⟨bc,0,Option.none⟩),.int .i64 (i:Int),.int .i64 1,.int .i64 0,.int .i64 0] w fun e w'=>∃ es' ck',e = .returned (.int .i64 0)∧VM es' ck' (n+1) (ZlZ f i (tkV { job:=1,cpu:=i,pc:=0 }))∧Own W (crB bc b0 bt c mn cp::(bt,.map es' ck')::m) w':=by
 have HWF:=Lib.hid (Zje (show i<9 by omega))
 have HV:=Lib.hid hv
 have HF:=Lib.hid hf
 have HM:=Lib.hid (Zco h hi)
 clear h hv hf hi
 go_enter Tryz.func13,Tryz.ntmps13
 go_wp2_with fail
 refine HM.out.mono ?_
 rintro e w2 ⟨rfl,h2⟩
 obtain ⟨y0,y1,y2,y3,y4,y5,y6,y7⟩:=Zgn h2
 have HB:=Lib.hid (h2.get (b:=bt) (o:=.map es ck) (by simp))
 have h3:Own W ((w2.heap.size,z17)::crB bc b0 bt c mn cp::(bt,.map es ck)::m) (w2.alloc z17):=h2.new z17
 obtain ⟨B2,hB2⟩:∃ B,w2.heap.size=B:=⟨_,rfl⟩
 rw [hB2] at h3
 have H2:=Lib.hid h3
 have HT:=Lib.hid (ZaE tk0)
 have HT2:=Lib.hid (ZaE { job:=1,cpu:=i,pc:=0 })
 clear h2 h3 HM
 go_wp2_with (first
  | (at_lookup; refine ZbS rfl _ _ rfl rfl rfl HV.out HB.out HWF.out ?_; rw [HF.out])
  | (refine Zab (t:=59) (new:=tkA { job:=1,cpu:=i,pc:=0 }) rfl _ _ rfl rfl rfl Zap H3.out rfl HT2.out ?_; intro w4 hS; obtain ⟨y0,y1,y2,y3,y4,y5,y6,y7⟩:=Zgn hS.skip; obtain ⟨⟨x0,x1,x2,x3,x4,x5,x6,x7,x8,x9,x10,x11,x12,x13,x14,x15,x16⟩,-⟩:=Za8 (t:={ job:=1,cpu:=i,pc:=0 }) hS; have H5:=Lib.hid hS; clear hS hB3)
  | (refine Zab (t:=59) (new:=tkA tk0) rfl _ _ rfl rfl rfl Zap H2.out rfl HT.out ?_; intro w3 hS; have h4:Own W ((w3.heap.size,z17)::crB bc b0 bt c mn cp::(bt,.map es ck)::m) (w3.alloc z17):=hS.skip.new z17; obtain ⟨B3,hB3⟩:∃ B,w3.heap.size=B:=⟨_,rfl⟩; rw [hB3] at h4; have H3:=Lib.hid h4; clear hS h4 y0 y1 y2 y3 y4 y5 y6 y7 hB2))
 go_still_tail 6,(by kernel_rfl)
 change wpList _ _ _ _ _ w4.drew
 refine ZbT (c:=tkV { job:=1,cpu:=i,pc:=0 }) rfl _ _ _ rfl rfl rfl rfl HV.out (H5.out.drew.perm (up2 _ _ _ _)) HWF.out ?_
 intro es' ck' w5 k1 k2
 have KV:=Lib.hid k1
 have KO:=Lib.hid ((k2.perm (up2 _ _ _ _).symm).skip)
 clear k1 k2 y0 y1 y2 y3 y4 y5 y6 y7 x0 x1 x2 x3 x4 x5 x6 x7 x8 x9 x10 x11 x12 x13 x14 x15 x16
 go_wp2_with fail
 go_ret
 exact ⟨es',ck',rfl,KV.out,KO.out⟩
end
end Go.Proofs.YtfcpdlbkmkhhcaaGreatDoor.Cw

namespace Go.Proofs.YtfcpdlbkmkhhcaaGreatDoor.Cw
open Go Mem See
open Go.RowKit
attribute [local go_sem ↓] Go.wp_at_zero Go.wp_at_succ
section
variable {W w:World}{m:List (Nat×Obj)}{bc b0 bt b:Nat}{c:Ch}{mn cp:Nat}{t:Tk}{es:Array MapEntry}{ck n:Nat}{f:Int→Option Value}{i:Nat}
set_option maxRecDepth 100000 in
set_option maxHeartbeats 4000000 in
theorem Zku (h:Own W (crB bc b0 bt c mn cp::(bt,.map es ck)::m) w)(hC:c.C≤8)(hv:VM es ck n f)(hi:i<c.C){j:Nat}(hj:j<c.C)(hf:f i=Option.none) :
 Calls Tryz.prog 13 #[.pointer (some ⟨bc,0,Option.none⟩),.int .i64 (i:Int),.int .i64 3,.int .i64 (j:Int),.int .i64 0] w fun e w'=>∃ es' ck',e = .returned (.int .i64 0)∧VM es' ck' (n+1) (ZlZ f i (tkV { job:=3,cpu:=i,pc:=70,for_:=(j:Int) }))∧Own W (crB bc b0 bt c mn cp::(bt,.map es' ck')::m) w':=by
 have HWF:=Lib.hid (Zje (show i<9 by omega))
 have HV:=Lib.hid hv
 have HF:=Lib.hid hf
 have HM:=Lib.hid (Zco h hi)
 have HJ:=Lib.hid hj
 clear h hv hf hi hj
 go_enter Tryz.func13,Tryz.ntmps13
 go_wp2_with fail
 refine HM.out.mono ?_
 rintro e w2 ⟨rfl,h2⟩
 obtain ⟨y0,y1,y2,y3,y4,y5,y6,y7⟩:=Zgn h2
 have HB:=Lib.hid (h2.get (b:=bt) (o:=.map es ck) (by simp))
 have h3:Own W ((w2.heap.size,z17)::crB bc b0 bt c mn cp::(bt,.map es ck)::m) (w2.alloc z17):=h2.new z17
 obtain ⟨B2,hB2⟩:∃ B,w2.heap.size=B:=⟨_,rfl⟩
 rw [hB2] at h3
 have H2:=Lib.hid h3
 have HT:=Lib.hid (ZaE tk0)
 have HT2:=Lib.hid (ZaE { job:=3,cpu:=i,pc:=0 })
 clear h2 h3 HM
 go_wp2_with (first
  | (at_lookup; refine ZbS rfl _ _ rfl rfl rfl HV.out HB.out HWF.out ?_; rw [HF.out])
  | (refine Zab (t:=59) (new:=tkA { job:=3,cpu:=i,pc:=0 }) rfl _ _ rfl rfl rfl Zap H3.out rfl HT2.out ?_; intro w4 hS; have H4:=Lib.hid hS; clear hS hB3)
  | (refine Zab (t:=59) (new:=tkA tk0) rfl _ _ rfl rfl rfl Zap H2.out rfl HT.out ?_; intro w3 hS; have h4:Own W ((w3.heap.size,z17)::crB bc b0 bt c mn cp::(bt,.map es ck)::m) (w3.alloc z17):=hS.skip.new z17; obtain ⟨B3,hB3⟩:∃ B,w3.heap.size=B:=⟨_,rfl⟩; rw [hB3] at h4; have H3:=Lib.hid h4; clear hS h4 y0 y1 y2 y3 y4 y5 y6 y7 hB2))
 refine (Zco (H4.out.perm (sw _ _ _)) HJ.out).mono ?_
 rintro e w6 ⟨rfl,h6⟩
 have h7:Own W (tB B3 { job:=3,cpu:=i,pc:=0 }::crB bc b0 bt c mn cp::(bt,.map es ck)::m) w6:=h6.perm (sw _ _ _)
 obtain ⟨⟨-,-,x2,-,-,-,-,-,-,-,-,-,-,-,-,-,x16⟩,fz⟩:=Za8 (t:={ job:=3,cpu:=i,pc:=0 }) h7
 have f2:=fz 2
 have f16:=fz 16
 have H7:=Lib.hid h7
 clear h6 h7 fz
 go_wp2_with fail
 have hS:Own W (tB B3 { job:=3,cpu:=i,pc:=70,for_:=(j:Int) }::crB bc b0 bt c mn cp::(bt,.map es ck)::m) ((w6.setCell ⟨B3,2,Option.none⟩ (.int .i64 70)).setCell ⟨B3,16,Option.none⟩ (.int .i64 (j:Int))):=(H7.out.set 2 (.int .i64 70)).set 16 (.int .i64 (j:Int))
 generalize (w6.setCell ⟨B3,2,Option.none⟩ (.int .i64 70)).setCell ⟨B3,16,Option.none⟩ (.int .i64 (j:Int))=w4 at hS ⊢
 obtain ⟨y0,y1,y2,y3,y4,y5,y6,y7⟩:=Zgn hS.skip
 clear x2 x16
 obtain ⟨⟨x0,x1,x2,x3,x4,x5,x6,x7,x8,x9,x10,x11,x12,x13,x14,x15,x16⟩,-⟩:=Za8 (t:={ job:=3,cpu:=i,pc:=70,for_:=(j:Int) }) hS
 have H5:=Lib.hid hS
 clear hS
 go_still_tail 6,(by kernel_rfl)
 change wpList _ _ _ _ _ w4.drew
 refine ZbT (c:=tkV { job:=3,cpu:=i,pc:=70,for_:=(j:Int) }) rfl _ _ _ rfl rfl rfl rfl HV.out (H5.out.drew.perm (up2 _ _ _ _)) HWF.out ?_
 intro es' ck' w5 k1 k2
 have KV:=Lib.hid k1
 have KO:=Lib.hid ((k2.perm (up2 _ _ _ _).symm).skip)
 clear k1 k2 y0 y1 y2 y3 y4 y5 y6 y7 x0 x1 x2 x3 x4 x5 x6 x7 x8 x9 x10 x11 x12 x13 x14 x15 x16
 go_wp2_with fail
 go_ret
 exact ⟨es',ck',rfl,KV.out,KO.out⟩
end
end Go.Proofs.YtfcpdlbkmkhhcaaGreatDoor.Cw

namespace Go.Proofs.YtfcpdlbkmkhhcaaGreatDoor.Cw
open Go Mem See
open Go.RowKit
attribute [local go_sem ↓] Go.wp_at_zero Go.wp_at_succ
section
variable {W w:World}{m:List (Nat×Obj)}{bc b0 bt b:Nat}{c:Ch}{mn cp:Nat}{t:Tk}{es:Array MapEntry}{ck n:Nat}{f:Int→Option Value}{i:Nat}
set_option maxRecDepth 100000 in
set_option maxHeartbeats 4000000 in
theorem Zl6 (h:Own W (crB bc b0 bt c mn cp::(bt,.map es ck)::m) w)(hC:c.C≤8)(hv:VM es ck n f)(hi:i<c.C)(hf:f i=Option.none) :
 Calls Tryz.prog 13 #[.pointer (some ⟨bc,0,Option.none⟩),.int .i64 (i:Int),.int .i64 4,.int .i64 0,.int .i64 0] w fun e w'=>∃ es' ck',e = .returned (.int .i64 0)∧VM es' ck' (n+1) (ZlZ f i (tkV { job:=4,cpu:=i,pc:=95 }))∧Own W (crB bc b0 bt c mn cp::(bt,.map es' ck')::m) w':=by
 have HWF:=Lib.hid (Zje (show i<9 by omega))
 have HV:=Lib.hid hv
 have HF:=Lib.hid hf
 have HM:=Lib.hid (Zco h hi)
 clear h hv hf hi
 go_enter Tryz.func13,Tryz.ntmps13
 go_wp2_with fail
 refine HM.out.mono ?_
 rintro e w2 ⟨rfl,h2⟩
 obtain ⟨y0,y1,y2,y3,y4,y5,y6,y7⟩:=Zgn h2
 have HB:=Lib.hid (h2.get (b:=bt) (o:=.map es ck) (by simp))
 have h3:Own W ((w2.heap.size,z17)::crB bc b0 bt c mn cp::(bt,.map es ck)::m) (w2.alloc z17):=h2.new z17
 obtain ⟨B2,hB2⟩:∃ B,w2.heap.size=B:=⟨_,rfl⟩
 rw [hB2] at h3
 have H2:=Lib.hid h3
 have HT:=Lib.hid (ZaE tk0)
 have HT2:=Lib.hid (ZaE { job:=4,cpu:=i,pc:=0 })
 clear h2 h3 HM
 go_wp2_with (first
  | (at_lookup; refine ZbS rfl _ _ rfl rfl rfl HV.out HB.out HWF.out ?_; rw [HF.out])
  | (refine Zab (t:=59) (new:=tkA { job:=4,cpu:=i,pc:=0 }) rfl _ _ rfl rfl rfl Zap H3.out rfl HT2.out ?_; intro w4 hS; obtain ⟨⟨-,-,x2,-⟩,fz⟩:=Za8 (t:={ job:=4,cpu:=i,pc:=0 }) hS; have f2:=fz 2; have H4:=Lib.hid hS; clear hS hB3 fz)
  | (refine Zab (t:=59) (new:=tkA tk0) rfl _ _ rfl rfl rfl Zap H2.out rfl HT.out ?_; intro w3 hS; have h4:Own W ((w3.heap.size,z17)::crB bc b0 bt c mn cp::(bt,.map es ck)::m) (w3.alloc z17):=hS.skip.new z17; obtain ⟨B3,hB3⟩:∃ B,w3.heap.size=B:=⟨_,rfl⟩; rw [hB3] at h4; have H3:=Lib.hid h4; clear hS h4 y0 y1 y2 y3 y4 y5 y6 y7 hB2))
 have hS:Own W (tB B3 { job:=4,cpu:=i,pc:=95 }::crB bc b0 bt c mn cp::(bt,.map es ck)::m) (w4.setCell ⟨B3,2,Option.none⟩ (.int .i64 95)):=H4.out.set 2 (.int .i64 95)
 generalize w4.setCell ⟨B3,2,Option.none⟩ (.int .i64 95)=w4 at hS ⊢
 obtain ⟨y0,y1,y2,y3,y4,y5,y6,y7⟩:=Zgn hS.skip
 clear x2
 obtain ⟨⟨x0,x1,x2,x3,x4,x5,x6,x7,x8,x9,x10,x11,x12,x13,x14,x15,x16⟩,-⟩:=Za8 (t:={ job:=4,cpu:=i,pc:=95 }) hS
 have H5:=Lib.hid hS
 clear hS
 go_still_tail 6,(by kernel_rfl)
 change wpList _ _ _ _ _ w4.drew
 refine ZbT (c:=tkV { job:=4,cpu:=i,pc:=95 }) rfl _ _ _ rfl rfl rfl rfl HV.out (H5.out.drew.perm (up2 _ _ _ _)) HWF.out ?_
 intro es' ck' w5 k1 k2
 have KV:=Lib.hid k1
 have KO:=Lib.hid ((k2.perm (up2 _ _ _ _).symm).skip)
 clear k1 k2 y0 y1 y2 y3 y4 y5 y6 y7 x0 x1 x2 x3 x4 x5 x6 x7 x8 x9 x10 x11 x12 x13 x14 x15 x16
 go_wp2_with fail
 go_ret
 exact ⟨es',ck',rfl,KV.out,KO.out⟩
end
end Go.Proofs.YtfcpdlbkmkhhcaaGreatDoor.Cw

namespace Go.Proofs.YtfcpdlbkmkhhcaaGreatDoor.Cw
open Go Mem See
open Go.RowKit
open Apart (chV)
attribute [local go_sem ↓] Go.wp_at_zero Go.wp_at_succ
section
variable {W w:World}{m:List (Nat×Obj)}{bc b0 bt b:Nat}{c:Ch}{mn cp:Nat}{t:Tk}{es:Array MapEntry}{ck n:Nat}{f:Int→Option Value}{i:Nat}
theorem Zo8 {B:Nat}{w:World}{m:List (Nat×Obj)}{s o:Int}(h:Own W (tB B { job:=2,cpu:=i,pc:=0 }::m) w):Own W (tB B { job:=2,cpu:=i,pc:=10,slab:=s,obj:=o }::m) (((w.setCell ⟨B,2,Option.none⟩ (.int .i64 10)).setCell ⟨B,5,Option.none⟩ (.int .i64 s)).setCell ⟨B,6,Option.none⟩ (.int .i64 o)):=((h.set 2 (.int .i64 10)).set 5 (.int .i64 s)).set 6 (.int .i64 o)
set_option maxRecDepth 100000 in
set_option maxHeartbeats 4000000 in
theorem Zfs (h:Own W (crB bc b0 bt c mn cp::(bt,.map es ck)::m) w)(hc:COk c (mn:Int) (cp:Int))(hv:VM es ck n f)(hi:i<c.C){s o:Nat}(hs:s<c.S)(ho:o<c.O)(hf:f i=Option.none) :
 Calls Tryz.prog 13 #[.pointer (some ⟨bc,0,Option.none⟩),.int .i64 (i:Int),.int .i64 2,.int .i64 (s:Int),.int .i64 (o:Int)] w fun e w'=>∃ es' ck',e = .returned (.int .i64 0)∧VM es' ck' (n+1) (ZlZ f i (tkV { job:=2,cpu:=i,pc:=10,slab:=(s:Int),obj:=(o:Int) }))∧Own W (crB bc b0 bt c mn cp::(bt,.map es' ck')::m) w':=by
 have hC:=hc.nums
 have HWF:=Lib.hid (Zje (show i<9 by omega))
 have HV:=Lib.hid hv
 have HF:=Lib.hid hf
 have HM:=Lib.hid (Zco h hi)
 have HC:=Lib.hid hc
 have HS:=Lib.hid hs
 have HOo:=Lib.hid ho
 clear h hv hf hi hs ho hc hC
 go_enter Tryz.func13,Tryz.ntmps13
 go_wp2_with fail
 refine HM.out.mono ?_
 rintro e w2 ⟨rfl,h2⟩
 obtain ⟨y0,y1,y2,y3,y4,y5,y6,y7⟩:=Zgn h2
 have HB:=Lib.hid (h2.get (b:=bt) (o:=.map es ck) (by simp))
 have h3:Own W ((w2.heap.size,z17)::crB bc b0 bt c mn cp::(bt,.map es ck)::m) (w2.alloc z17):=h2.new z17
 obtain ⟨B2,hB2⟩:∃ B,w2.heap.size=B:=⟨_,rfl⟩
 rw [hB2] at h3
 have H2:=Lib.hid h3
 have HT:=Lib.hid (ZaE tk0)
 have HT2:=Lib.hid (ZaE { job:=2,cpu:=i,pc:=0 })
 clear h2 h3 HM
 go_wp2_with (first
  | (at_lookup; refine ZbS rfl _ _ rfl rfl rfl HV.out HB.out HWF.out ?_; rw [HF.out])
  | (refine Zab (t:=59) (new:=tkA { job:=2,cpu:=i,pc:=0 }) rfl _ _ rfl rfl rfl Zap H3.out rfl HT2.out ?_; intro w4 hS; obtain ⟨y0,y1,y2,y3,y4,y5,y6,y7⟩:=Zgn hS.skip; have H4:=Lib.hid hS; clear hS hB3)
  | (refine Zab (t:=59) (new:=tkA tk0) rfl _ _ rfl rfl rfl Zap H2.out rfl HT.out ?_; intro w3 hS; have h4:Own W ((w3.heap.size,z17)::crB bc b0 bt c mn cp::(bt,.map es ck)::m) (w3.alloc z17):=hS.skip.new z17; obtain ⟨B3,hB3⟩:∃ B,w3.heap.size=B:=⟨_,rfl⟩; rw [hB3] at h4; have H3:=Lib.hid h4; clear hS h4 y0 y1 y2 y3 y4 y5 y6 y7 hB2))
 refine (Apart.ZqT (key:=c.key) (i:=(s:Int)) (k:=(o:Int)) HC.out.ok (by have:=HS.out; omega) (by have:=HOo.out; omega) H4.out).mono ?_
 rintro e w6 ⟨rfl,h6⟩
 have hL0:(0:Int)≤4 * (c.C:Int)+4+4 * (c.S:Int)+(s:Int) * (c.O:Int)+(o:Int):=by
  have:=Int.mul_nonneg (show (0:Int)≤(s:Int) by omega) (show (0:Int)≤(c.O:Int) by omega)
  omega
 obtain ⟨L,hL⟩:∃ L:Int,4 * (c.C:Int)+4+4 * (c.S:Int)+(s:Int) * (c.O:Int)+(o:Int)=L:=⟨_,rfl⟩
 rw [hL] at hL0 ⊢
 have d1:decide (L<0)=false:=decide_eq_false (by omega)
 have d2:¬ L<0:=by omega
 have h7:Own W (tB B3 { job:=2,cpu:=i,pc:=0 }::crB bc b0 bt c mn cp::(bt,.map es ck)::m) w6:=h6
 obtain ⟨⟨-,-,x2,-,-,x5,x6,-⟩,fz⟩:=Za8 (t:={ job:=2,cpu:=i,pc:=0 }) h7
 have f2:=fz 2
 have f5:=fz 5
 have f6:=fz 6
 have H7:=Lib.hid h7
 clear h6 h7 fz hL hL0 y0 y1 y2 y3 y4 y5 y6 y7
 go_wp2_with fail
 have hS:=Zo8 (s:=(s:Int)) (o:=(o:Int)) H7.out
 generalize ((w6.setCell ⟨B3,2,Option.none⟩ (.int .i64 10)).setCell ⟨B3,5,Option.none⟩ (.int .i64 (s:Int))).setCell ⟨B3,6,Option.none⟩ (.int .i64 (o:Int))=w4 at hS ⊢
 obtain ⟨y0,y1,y2,y3,y4,y5,y6,y7⟩:=Zgn hS.skip
 clear x2 x5 x6
 obtain ⟨⟨x0,x1,x2,x3,x4,x5,x6,x7,x8,x9,x10,x11,x12,x13,x14,x15,x16⟩,-⟩:=Za8 (t:={ job:=2,cpu:=i,pc:=10,slab:=(s:Int),obj:=(o:Int) }) hS
 have H5:=Lib.hid hS
 clear hS
 go_still_tail 6,(by kernel_rfl)
 change wpList _ _ _ _ _ w4.drew
 refine ZbT (c:=tkV { job:=2,cpu:=i,pc:=10,slab:=(s:Int),obj:=(o:Int) }) rfl _ _ _ rfl rfl rfl rfl HV.out (H5.out.drew.perm (up2 _ _ _ _)) HWF.out ?_
 intro es' ck' w5 k1 k2
 have KV:=Lib.hid k1
 have KO:=Lib.hid ((k2.perm (up2 _ _ _ _).symm).skip)
 clear k1 k2 y0 y1 y2 y3 y4 y5 y6 y7 x0 x1 x2 x3 x4 x5 x6 x7 x8 x9 x10 x11 x12 x13 x14 x15 x16
 go_wp2_with fail
 go_ret
 exact ⟨es',ck',rfl,KV.out,KO.out⟩
end
end Go.Proofs.YtfcpdlbkmkhhcaaGreatDoor.Cw

namespace Go.Proofs.YtfcpdlbkmkhhcaaGreatDoor.Cv
open See Cw
section
variable {c:Ch}{mn cp:Nat}{st st1 st':St}{g g':List Nat}{k:Nat}{t t':Tk}{jobs:List Int}{r r':Rn}
def st0:St where
 ol:=fun _ _=>[]
 loc:=fun _ _=>.none
 sl:=fun _=>[]
 own:=fun _=>.dead
 lv:=fun _=>false
 frz:=fun _=>false
 cut:=none
 hold:=none
 held:=0
 ht:=fun _=>0
 pt:=fun _=>0
 nx:=fun _=>0
 lk:=fun _ _=>0
 n:=0
 tk:=fun _=>none
theorem Ztv:Zbc c mn cp st0 where
 om:=fun s x hx o=>by
  constructor
  ·intro h
   cases h
  ·intro h
   have:Ct.none=x:=h
   rw [← this] at hx
   cases hx
 od:=fun _ _ _=>List.nodup_nil
 ob:=fun _ _ h=>absurd rfl h
 oh:=fun _ _ _ h=>by cases h
 sm:=fun x hx s=>by
  constructor
  ·intro h
   cases h
  ·intro h
   have:Own.dead=x:=h
   rw [← this] at hx
   cases hx
 sd:=fun _ _=>List.nodup_nil
 sb:=fun _ h=>absurd rfl h
 s1:=fun _=>⟨Nat.zero_le _,Nat.zero_le _⟩
 sk:=fun _ _ h=>by rcases h with h | h | h | h <;> cases h
 live:=fun _ _ _ _=>⟨fun _=>rfl,fun _=>rfl⟩
 dead:=fun _ _=>rfl
 making:=fun _ _ h=>by cases h
 full:=fun _ h=>by cases h
 shelf:=fun _ h=>by cases h
 cuts:=fun _ h=>by cases h
 hpc:=fun _ _ h=>by rcases h with h | h | h <;> cases h
 l1:=fun _=>trivial
 l2:=fun _ _=>trivial
 cP:=fun _=>⟨trivial,trivial⟩
 cS:=trivial
 cap:=fun _=>Nat.zero_le _
 rest:=fun _=>⟨rfl,rfl,Nat.zero_le _⟩
 turn:=fun _=>⟨Nat.le_refl _,Nat.le_refl _⟩
 nxb:=fun _=>(show (0:Nat)<18446744073709551616 by decide)
 hn:=fun _ h=>by cases h
theorem inv0:Inv c mn cp st0 where
 G:=Ztv
 loc:=fun _ _ h=>by cases h
 idle:=fun _ _=>⟨rfl,fun _=>by show []=if _ then [] else []; split <;> rfl,rfl⟩
 lockd:=fun _ h=>by cases h
theorem Zui (i:Ix):val c st0 i=0:=by
 cases i <;> rfl
def r0 (c:Ch):Rn:=⟨List.replicate c.words 0,fun _=>none,0,fun _=>false,[],0⟩
theorem ri0 (hC:1≤c.C∧c.C≤5)(hS:1≤c.S∧c.S≤32)(hO:1≤c.O∧c.O≤16)(hcp:cp≤32)(hmn:mn≤32):RI c mn cp (r0 c) st0 where
 Z:=⟨inv0,⟨List.length_replicate,fun i hi=>by
  rw [Zui]
  show (List.replicate c.words 0)[i.at_ c]?=some 0
  rw [List.getElem?_replicate,if_pos (Ix.lt hi)]⟩,fun x hx=>by rw [(List.mem_replicate.1 hx).2]; decide,hC,hS,hO,hcp,hmn⟩
 tk:=rfl
 out:=fun _ _ _=>⟨(fun h=>by cases h),fun h=>by cases h⟩
 nd:=List.nodup_nil
 mem:=fun _=>⟨(fun h=>by cases h),fun h=>by cases h⟩
theorem Zdf {f:Nat→Nat}:∀ {n:Nat},(∀ j,j<n→f j=0)→Zde f n=0
 | 0,_=>rfl
 | n+1,h=>by
   unfold Zde
   rw [Zdf (fun j hj=>h j (by omega)),h n (by omega)]
theorem ZtD:Phi c st0=0:=by
 unfold Phi
 rw [Zdf (f:=Zkl c st0) (fun _ _=>rfl),Zdf (f:=ptN st0) (fun _ _=>rfl),Zdf (f:=lvN st0) (fun _ _=>rfl)]
 rfl
theorem ZtF:Zkj c jobs (r0 c) st0≤PJ c * 120:=by
 unfold Zkj
 rw [ZtD,Nat.zero_add]
 refine Nat.mul_le_mul_left _ ?_
 show min jobs.length 120 - 0≤120
 omega
theorem ZeQ.le {b:Bool}(h:ZeQ c jobs r st k r' st' b):Zkj c jobs r' st'≤Zkj c jobs r st:=by
 cases h with
 | on h=>omega
 | idle=>exact Nat.le_refl _
 | spin=>exact Nat.le_refl _
inductive Still (jobs:List Int)(r:Rn)(st:St)(k:Nat):Bool→Prop where
 | idle (h:r.tk k=none) (h2:¬(r.next<jobs.length∧r.next<120)):Still jobs r st k false
 | spin (h:st.hold≠none) (t:Tk) (ht:r.tk k=some t) (hl:Zcj t.pc=false):Still jobs r st k true
theorem Zj0 (I:RI c mn cp r st)(h:∀ k,k<c.C→∃ b,Still jobs r st k b):∀ k,k<c.C→Still jobs r st k false:=by
 intro k hk
 obtain ⟨b,hb⟩:=h k hk
 cases hb with
 | idle h1 h2=>exact .idle h1 h2
 | spin h1 t ht hl =>
   exfalso
   cases hh:st.hold with
   | none=>exact h1 hh
   | some j =>
     obtain ⟨t,e1,e2,-⟩:=I.Z.I.lockd j hh
     rw [I.tk] at e1
     obtain ⟨b,hb⟩:=h j (I.Z.I.G.hn j hh)
     cases hb with
     | idle h3 _ =>
       rw [h3] at e1
       cases e1
     | spin _ t2 h4 h5 =>
       rw [h4] at e1
       cases e1
       rw [h5] at e2
       cases e2
structure LP (c:Ch)(jobs:List Int)(P0:Nat)(r:Rn)(st:St)(i idle u:Nat):Prop where
 m:i+c.C * Zkj c jobs r st≤c.C * P0+u
 ui:u≤i
 iu:idle≤u
 s:∀ d,d<u→∃ b,Still jobs r st ((i - 1 - d) % c.C) b
 f:∀ d,d<idle→Still jobs r st ((i - 1 - d) % c.C) false
 e:idle<u→Still jobs r st ((i - 1 - idle) % c.C) true
 uC:idle<c.C→u<c.C
theorem lp0 (_hC:1≤c.C):LP c jobs (Zkj c jobs r st) r st 0 0 0:=⟨by omega,Nat.le_refl _,Nat.le_refl _,fun d h=>by omega,fun d h=>by omega,fun h=>by omega,fun _=>by omega⟩
theorem ZkU {C i k:Nat}(hC:1≤C)(hi:C≤i)(hk:k<C):∃ d,d<C∧(i - 1 - d) % C=k:=by
 have h1:=Nat.mod_lt (i - 1) (show 0<C by omega)
 have h2:=Nat.div_add_mod (i - 1) C
 by_cases h:k≤(i - 1) % C
 ·refine ⟨(i - 1) % C - k,by omega,?_⟩
  have e:i - 1 - ((i - 1) % C - k)=C * ((i - 1) / C)+k:=by omega
  rw [e,Nat.mul_add_mod]
  exact Nat.mod_eq_of_lt hk
 ·have hq:1≤(i - 1) / C:=by
   refine Nat.one_le_iff_ne_zero.2 fun e => ?_
   rw [e] at h2
   omega
  obtain ⟨q,hq2⟩:∃ q,(i - 1) / C=q+1:=⟨(i - 1) / C - 1,by omega⟩
  rw [hq2,Nat.mul_add] at h2
  refine ⟨(i - 1) % C+C - k,by omega,?_⟩
  have e:i - 1 - ((i - 1) % C+C - k)=C * q+k:=by omega
  rw [e,Nat.mul_add_mod]
  exact Nat.mod_eq_of_lt hk
theorem LP.step {P0 i idle u:Nat}{b:Bool}(I:RI c mn cp r st)(I':RI c mn cp r' st')(L:LP c jobs P0 r st i idle u)(hlt:idle<c.C)(hp:ZeQ c jobs r st (i % c.C) r' st' b):∃ u',LP c jobs P0 r' st' (i+1) (if b=true then 0 else idle+1) u':=by
 have hu:=L.uC hlt
 have hm:=L.m
 have hsh:∀ d,i+1 - 1 - (d+1)=i - 1 - d:=fun d=>by omega
 cases hp with
 | on h =>
   have h2:c.C * (Zkj c jobs r' st'+1)≤c.C * Zkj c jobs r st:=Nat.mul_le_mul_left _ h
   rw [Nat.mul_add] at h2
   exact ⟨0,by omega,Nat.zero_le _,Nat.le_refl _,(fun d h=>by omega),(fun d h=>by simp at h),(fun h=>by simp at h),fun _=>by omega⟩
 | idle h1 h2 =>
   refine ⟨u+1,by omega,Nat.succ_le_succ L.ui,Nat.succ_le_succ L.iu,fun d hd => ?_,fun d hd => ?_,fun he => ?_,fun he => ?_⟩
   ·cases d with
    | zero=>exact ⟨false,.idle h1 h2⟩
    | succ d =>
      rw [hsh]
      exact L.s d (by omega)
   ·cases d with
    | zero=>exact .idle h1 h2
    | succ d =>
      rw [hsh]
      exact L.f d (by simp at hd; omega)
   ·show Still jobs r st ((i+1 - 1 - (idle+1)) % c.C) true
    rw [hsh]
    exact L.e (by simp at he; omega)
   ·simp at he
    by_cases hu2:u+1=c.C
    ·exfalso
     have hall:=Zj0 (jobs:=jobs) I fun k hk=>by
      obtain ⟨d,hd,e⟩:=ZkU (i:=i+1) (by omega) (by have:=L.ui; omega) hk
      rw [← e]
      cases d with
      | zero=>exact ⟨false,.idle h1 h2⟩
      | succ d =>
        rw [hsh]
        exact L.s d (by omega)
     have h5:=L.e (by omega)
     have h6:=hall _ (Nat.mod_lt (i - 1 - idle) (show 0<c.C by omega))
     cases h5 with
     | spin _ t ht _ =>
       cases h6 with
       | idle h7 _ =>
         rw [h7] at ht
         cases ht
    ·omega
 | spin h1 t ht hl hw =>
   refine ⟨u+1,by omega,Nat.succ_le_succ L.ui,Nat.zero_le _,fun d hd => ?_,(fun d hd=>by simp at hd),fun he => ?_,fun he => ?_⟩
   ·cases d with
    | zero=>exact ⟨true,.spin h1 t ht hl⟩
    | succ d =>
      rw [hsh]
      exact L.s d (by omega)
   ·exact .spin h1 t ht hl
   ·by_cases hu2:u+1=c.C
    ·exfalso
     have hall:=Zj0 (jobs:=jobs) I fun k hk=>by
      obtain ⟨d,hd,e⟩:=ZkU (i:=i+1) (by omega) (by have:=L.ui; omega) hk
      rw [← e]
      cases d with
      | zero=>exact ⟨true,.spin h1 t ht hl⟩
      | succ d =>
        rw [hsh]
        exact L.s d (by omega)
     have h6:=hall _ (Nat.mod_lt i (show 0<c.C by omega))
     cases h6 with
     | idle h7 _ =>
       rw [h7] at ht
       cases ht
    ·omega
theorem LP.done {P0 i idle u:Nat}(L:LP c jobs P0 r st i idle u)(hC:1≤c.C)(h:c.C≤idle):∀ k,k<c.C→r.tk k=none∧¬(r.next<jobs.length∧r.next<120):=by
 intro k hk
 obtain ⟨d,hd,e⟩:=ZkU (i:=i) hC (by have:=L.ui; have:=L.iu; omega) hk
 have:=L.f d (by omega)
 rw [e] at this
 cases this with
 | idle h1 h2=>exact ⟨h1,h2⟩
theorem LP.ends {P0 i idle u:Nat}(L:LP c jobs P0 r st i idle u)(hC:c.C≤5)(hS:c.S≤8)(hO:c.O≤8)(hP:P0≤PJ c * 120)(h:idle<c.C):i<100000:=by
 have hu:=L.uC h
 have hm:=L.m
 have h1:P0≤18600:=by
  unfold PJ at hP
  omega
 have h2:c.C * P0≤5 * 18600:=Nat.mul_le_mul hC h1
 omega
end
end Go.Proofs.YtfcpdlbkmkhhcaaGreatDoor.Cv
