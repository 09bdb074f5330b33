/-
  Texts of this claim, joined. No condition.
-/
import Derived.Test.YtfcpdlbkmkhhcaaGreatDoorCn41
import Derived.Test.YtfcpdlbkmkhhcaaGreatDoorCn16
import Derived.BigQuiet
namespace Go.Proofs.YtfcpdlbkmkhhcaaGreatDoor.Cw
open Go Mem See
open Go.RowKit
attribute [local go_sem ↓] Go.wp_at_zero Go.wp_at_succ
section
variable {W w w':World}{m l:List (Nat×Obj)}{br bc b0 b1 bt:Nat}{c:Ch}{mn cp cnt n k:Nat}{r:Cv.Rn}{good:Bool}{jv pv:Value}{pb:List (Nat×Obj)}{jobs:List Int}
theorem ZeV {i:Int}{n:Nat}(h:1≤n):i % (n:Int)=((Cv.brg i n:Nat):Int):=by
 unfold Cv.brg
 have:=Int.emod_nonneg i (show (n:Int)≠0 by omega)
 omega
theorem Zld {j:Int}(h:(Lit.int .i64 j).wf=true):(Lit.int .i64 (j.tdiv 16)).wf=true:=by
 have h1:=ZgF h
 have h2 : -9223372036854775808≤j.tdiv 16∧j.tdiv 16≤9223372036854775807:=by
  by_cases h0:0≤j
  ·rw [Int.tdiv_eq_ediv_of_nonneg h0]
   omega
  ·have h3:=Int.neg_tdiv (a := -j) (b:=16)
   rw [Int.neg_neg,Int.tdiv_eq_ediv_of_nonneg (a := -j) (by omega)] at h3
   omega
 simp [Lit.wf,IntKind.min,IntKind.max,IntKind.signed,IntKind.bits]
 omega
theorem Zki {j:Int}(h:(Lit.int .i64 j).wf=true):IntKind.i64.wrap (j.tdiv 16)=j.tdiv 16:=by
 have h1:=ZgF (Zld h)
 exact Ex.Zbe (by omega) (by omega)
theorem ZdV {w:World}{v:Value}{l:List Int}(h:ZaK w v l):∃ A k,v = .slice A l.length k:=by
 rcases h.2 with ⟨rfl,hn⟩ | ⟨a,c,rfl,-⟩
 ·exact ⟨Option.none,0,by rw [hn]⟩
 ·exact ⟨_,_,rfl⟩
set_option maxRecDepth 100000 in
set_option maxHeartbeats 8000000 in
theorem ZmU (h:ZaQ W br bc b0 b1 bt c mn cp jv r good cnt n pv pb m w)(hj:ZaK W jv jobs)(hn:r.next≤120)(hno:¬(r.next<jobs.length∧r.next<120)) :
 Calls Tryz.prog 23 #[.pointer (some ⟨br,0,Option.none⟩),.int .i64 (k:Int)] w fun e w'=>e = .returned (.bool false)∧ZaQ W br bc b0 b1 bt c mn cp jv r good cnt n pv pb m w':=by
 obtain ⟨⟨y0,y1,y2,y3,y4,y5,y6,y7,y8,y9,y10,y11⟩,-,-⟩:=h.box
 obtain ⟨A,K,rfl⟩:=ZdV hj
 have H:=Lib.hid h
 clear h hj
 by_cases hlt:r.next<jobs.length
 ·have d1:decide (jobs.length≤r.next)=false:=decide_eq_false (by omega)
  have d2:decide ((120:Int)≤(r.next:Int))=true:=decide_eq_true (by omega)
  clear hlt hno hn
  go_enter Tryz.func23,Tryz.ntmps23
  go_wp2_with fail
  go_quiet (fail)
  have H2:=H.out.drewN nq
  generalize w.drewN nq=w2 at H2 ⊢
  go_wp2_with fail
  go_ret
  exact ⟨rfl,H2⟩
 ·have d1:decide (jobs.length≤r.next)=true:=decide_eq_true (by omega)
  clear hlt hno hn
  go_enter Tryz.func23,Tryz.ntmps23
  go_wp2_with fail
  go_quiet (fail)
  have H2:=H.out.drewN nq
  generalize w.drewN nq=w2 at H2 ⊢
  go_wp2_with fail
  go_ret
  exact ⟨rfl,H2⟩
end
end Go.Proofs.YtfcpdlbkmkhhcaaGreatDoor.Cw

namespace Go.Proofs.YtfcpdlbkmkhhcaaGreatDoor.Cw
open Go Mem See
open Go.RowKit
attribute [local go_sem ↓] Go.wp_at_zero Go.wp_at_succ
section
variable {W w w':World}{m l:List (Nat×Obj)}{br bc b0 b1 bt:Nat}{c:Ch}{mn cp cnt n k:Nat}{r:Cv.Rn}{jv pv:Value}{pb:List (Nat×Obj)}{jobs:List Int}{j J:Int}
set_option maxRecDepth 100000 in
set_option maxHeartbeats 40000000 in
theorem Zkx (h:ZaQ W br bc b0 b1 bt c mn cp jv r true cnt n pv pb m w)(hj:ZaK W jv jobs)(hn:r.next<120)(hjj:jobs[r.next]?=some j)(hwf:(Lit.int .i64 j).wf=true)(hJ:j % 16=J)(hX:J=15)(hC:c.C≤5)(hk:k<c.C)(htk:r.tk k=Option.none) :
 Calls Tryz.prog 23 #[.pointer (some ⟨br,0,Option.none⟩),.int .i64 (k:Int)] w fun e w'=>e = .returned (.bool true)∧ZaQ W br bc b0 b1 bt c mn cp jv { r with next:=r.next+1,tk:=Cv.upd r.tk k (some (Cv.ZmB k)) } true cnt (n+1) pv pb m w':=by
 have HX:=Lib.hid hX
 have HJS:=Lib.hid hj
 obtain ⟨M0,hM0⟩:=Zcw h.o
 have hsrc:ZaK w jv jobs:=Src.Zil hj hM0
 rcases hsrc.2 with ⟨rfl,hn0⟩ | ⟨a,K,rfl,hcell⟩
 ·rw [List.eq_nil_of_length_eq_zero hn0] at hjj
  cases hjj
 have cy:=hcell r.next _ (Zcn hjj)
 have hlt:r.next<jobs.length:=(List.getElem?_eq_some_iff.1 hjj).1
 have i1:(0:Int)≤(r.next:Int):=by omega
 have i2:(r.next:Int)<(jobs.length:Int):=by omega
 have d1:decide (jobs.length≤r.next)=false:=decide_eq_false (by omega)
 have d2:decide ((120:Int)≤(r.next:Int))=false:=decide_eq_false (by omega)
 have HWJ:=Lib.hid hwf
 have HJJ:=Lib.hid hJ
 have H:=Lib.hid h
 have HCC:=Lib.hid hC
 have HKK:=Lib.hid hk
 have HTK:=Lib.hid htk
 have HN:=Lib.hid hn
 clear h hj hn hjj hwf hJ hC hk htk hsrc hcell hlt hM0 hX
 go_enter Tryz.func23,Tryz.ntmps23
 obtain ⟨⟨y0,y1,y2,y3,y4,y5,y6,y7,y8,y9,y10,y11⟩,-,-⟩:=H.out.box
 go_wp2_with fail
 go_quiet (fail)
 clear y0 y1 y2 y3 y4 y5 y6 y7 y8 y9 y10 y11
 have H1:=Lib.hid (H.out.drewN nq)
 have cy:(w.drewN nq).cell? (a.add r.next)=some (.int .i64 j):=cy
 clear H
 generalize w.drewN nq=w1 at H1 cy ⊢
 obtain ⟨⟨y0,y1,y2,y3,y4,y5,y6,y7,y8,y9,y10,y11⟩,-,-⟩:=H1.out.box
 go_wp2_with fail
 go_quiet (fail)
 clear y0 y1 y2 y3 y4 y5 y6 y7 y8 y9 y10 y11 cy d1 d2 i1 i2
 have H2:=Lib.hid (H1.out.drewN nq)
 clear H1
 generalize w1.drewN nq=w2 at H2 ⊢
 obtain ⟨⟨y0,y1,y2,y3,y4,y5,y6,y7,y8,y9,y10,y11⟩,-,f⟩:=H2.out.box
 have f8:=f 8
 clear f
 go_wp2_with fail
 clear y0 y1 y2 y3 y4 y5 y6 y7 y8 y9 y10 y11 f8
 rw [show wrap64 ((r.next:Int)+1)=((r.next+1:Nat):Int) from IntWalk.wrap64_in _ (by have:=HN.out; omega)]
 have H3:Hid (ZaQ W br bc b0 b1 bt c mn cp (.slice (some a) jobs.length K) { r with next:=r.next+1 } true cnt n pv pb m (w2.setCell ⟨br,8,Option.none⟩ (.int .i64 ((r.next+1:Nat):Int)))):=⟨H2.out.p,Zbu H2.out.o fun M hM=>ZcK hM (r.next+1)⟩
 clear H2
 generalize w2.setCell ⟨br,8,Option.none⟩ (.int .i64 ((r.next+1:Nat):Int))=w3 at H3 ⊢
 obtain ⟨⟨y0,y1,y2,y3,y4,y5,y6,y7,y8,y9,y10,y11⟩,-,-⟩:=H3.out.box
 have q15:(J==15)=true:=by rw [HX.out]; rfl
 refine (ZaC j 16 (by omega) (by omega) HWJ.out _).mono ?_
 rintro e w4 ⟨rfl,rfl⟩
 rw [HJJ.out]
 go_wp2_with fail
 refine (ZoB HCC.out H3.out.o HKK.out HTK.out).mono ?_
 rintro e w5 ⟨rfl,h5⟩
 clear y0 y1 y2 y3 y4 y5 y6 y7 y8 y9 y10 y11
 have H5:Hid (ZaQ W br bc b0 b1 bt c mn cp (.slice (some a) jobs.length K) { r with next:=r.next+1,tk:=Cv.upd r.tk k (some (Cv.ZmB k)) } true cnt (n+1) pv pb m w5):=⟨H3.out.p,h5⟩
 obtain ⟨⟨y0,y1,y2,y3,y4,y5,y6,y7,y8,y9,y10,y11⟩,-,f⟩:=H5.out.box
 have f523:=f 523
 clear f h5 H3
 go_wp2_with fail
 go_ret
 exact ⟨rfl,H5.out.p,Zbu H5.out.o fun M hM=>Zbw hM true⟩
end
end Go.Proofs.YtfcpdlbkmkhhcaaGreatDoor.Cw

namespace Go.Proofs.YtfcpdlbkmkhhcaaGreatDoor.Cw
open Go Mem See
open Go.RowKit
attribute [local go_sem ↓] Go.wp_at_zero Go.wp_at_succ
section
variable {W w w':World}{m l:List (Nat×Obj)}{br bc b0 b1 bt:Nat}{c:Ch}{mn cp cnt n k:Nat}{r:Cv.Rn}{jv pv:Value}{pb:List (Nat×Obj)}{jobs:List Int}{j J:Int}
set_option maxRecDepth 100000 in
set_option maxHeartbeats 40000000 in
theorem Zi0 (h:ZaQ W br bc b0 b1 bt c mn cp jv r true cnt n pv pb m w)(hj:ZaK W jv jobs)(hn:r.next<120)(hjj:jobs[r.next]?=some j)(hwf:(Lit.int .i64 j).wf=true)(hJ:j % 16=J)(hX:J=14)(hC1:1≤c.C)(hC:c.C≤5)(hk:k<c.C)(htk:r.tk k=Option.none) :
 Calls Tryz.prog 23 #[.pointer (some ⟨br,0,Option.none⟩),.int .i64 (k:Int)] w fun e w'=>e = .returned (.bool true)∧ZaQ W br bc b0 b1 bt c mn cp jv { r with next:=r.next+1,tk:=Cv.upd r.tk k (some (Cv.ZhT k (Cv.brg (j.tdiv 16) c.C))) } true cnt (n+1) pv pb m w':=by
 have HX:=Lib.hid hX
 have HJS:=Lib.hid hj
 obtain ⟨M0,hM0⟩:=Zcw h.o
 have hsrc:ZaK w jv jobs:=Src.Zil hj hM0
 rcases hsrc.2 with ⟨rfl,hn0⟩ | ⟨a,K,rfl,hcell⟩
 ·rw [List.eq_nil_of_length_eq_zero hn0] at hjj
  cases hjj
 have cy:=hcell r.next _ (Zcn hjj)
 have hlt:r.next<jobs.length:=(List.getElem?_eq_some_iff.1 hjj).1
 have i1:(0:Int)≤(r.next:Int):=by omega
 have i2:(r.next:Int)<(jobs.length:Int):=by omega
 have d1:decide (jobs.length≤r.next)=false:=decide_eq_false (by omega)
 have d2:decide ((120:Int)≤(r.next:Int))=false:=decide_eq_false (by omega)
 have HWJ:=Lib.hid hwf
 have HJJ:=Lib.hid hJ
 have H:=Lib.hid h
 have HCC:=Lib.hid hC
 have HKK:=Lib.hid hk
 have HTK:=Lib.hid htk
 have HN:=Lib.hid hn
 clear h hj hn hjj hwf hJ hC hk htk hsrc hcell hlt hM0 hX
 go_enter Tryz.func23,Tryz.ntmps23
 obtain ⟨⟨y0,y1,y2,y3,y4,y5,y6,y7,y8,y9,y10,y11⟩,-,-⟩:=H.out.box
 go_wp2_with fail
 go_quiet (fail)
 clear y0 y1 y2 y3 y4 y5 y6 y7 y8 y9 y10 y11
 have H1:=Lib.hid (H.out.drewN nq)
 have cy:(w.drewN nq).cell? (a.add r.next)=some (.int .i64 j):=cy
 clear H
 generalize w.drewN nq=w1 at H1 cy ⊢
 obtain ⟨⟨y0,y1,y2,y3,y4,y5,y6,y7,y8,y9,y10,y11⟩,-,-⟩:=H1.out.box
 go_wp2_with fail
 go_quiet (fail)
 clear y0 y1 y2 y3 y4 y5 y6 y7 y8 y9 y10 y11 cy d1 d2 i1 i2
 have H2:=Lib.hid (H1.out.drewN nq)
 clear H1
 generalize w1.drewN nq=w2 at H2 ⊢
 obtain ⟨⟨y0,y1,y2,y3,y4,y5,y6,y7,y8,y9,y10,y11⟩,-,f⟩:=H2.out.box
 have f8:=f 8
 clear f
 go_wp2_with fail
 clear y0 y1 y2 y3 y4 y5 y6 y7 y8 y9 y10 y11 f8
 rw [show wrap64 ((r.next:Int)+1)=((r.next+1:Nat):Int) from IntWalk.wrap64_in _ (by have:=HN.out; omega)]
 have H3:Hid (ZaQ W br bc b0 b1 bt c mn cp (.slice (some a) jobs.length K) { r with next:=r.next+1 } true cnt n pv pb m (w2.setCell ⟨br,8,Option.none⟩ (.int .i64 ((r.next+1:Nat):Int)))):=⟨H2.out.p,Zbu H2.out.o fun M hM=>ZcK hM (r.next+1)⟩
 clear H2
 generalize w2.setCell ⟨br,8,Option.none⟩ (.int .i64 ((r.next+1:Nat):Int))=w3 at H3 ⊢
 obtain ⟨⟨y0,y1,y2,y3,y4,y5,y6,y7,y8,y9,y10,y11⟩,-,-⟩:=H3.out.box
 have q15:(J==15)=false:=by rw [HX.out]; rfl
 have q14:(J==14)=true:=by rw [HX.out]; rfl
 refine (ZaC j 16 (by omega) (by omega) HWJ.out _).mono ?_
 rintro e w4 ⟨rfl,rfl⟩
 rw [HJJ.out]
 go_wp2_with fail
 refine (ZaC j 16 (by omega) (by omega) HWJ.out _).mono ?_
 rintro e w4 ⟨rfl,rfl⟩
 rw [HJJ.out]
 go_wp2_with fail
 have HP:=Lib.hid hC1
 have HF:Hid (Cv.brg (j.tdiv 16) c.C<c.C):=Cv.ZcQ hC1
 have HBQ:Hid ((j.tdiv 16) % (c.C:Int)=((Cv.brg (j.tdiv 16) c.C:Nat):Int)):=ZeV hC1
 have HWQ:Hid ((Lit.int .i64 (j.tdiv 16)).wf=true):=Zld HWJ.out
 have H3D:=Lib.hid H3.out.drew
 have hwr:=Zki HWJ.out
 clear y2 y3 y4 y5 y6 y7 y8 y9 y10 y11 q15 q14 hC1
 go_region_held3 (fun w'=>w'.cell? ⟨br,0,Option.none⟩=some (.pointer (some ⟨bc,0,Option.none⟩))∧w'.cell? ⟨br,1,Option.none⟩=some (.int .i64 (c.C:Int))) (first | (refine ⟨?_,?_⟩ <;> assumption) | go_keep)
  (first
    | ((with_reducible refine (ZaC (j.tdiv 16) (c.C:Int) (by have:=HP.out; omega) (by have:=HCC.out; omega) HWQ.out _).mono ?_); rintro e w4 ⟨rfl,rfl⟩; rw [HBQ.out])
    | ((with_reducible refine (Zm5 HCC.out H3D.out.o HKK.out HF.out HTK.out).mono ?_); rintro e w5 ⟨rfl,h5⟩; obtain ⟨M5,hM5⟩:=Zjd h5; obtain ⟨⟨z0,z1,-⟩,-,-⟩:=Zft hM5))
 clear y0 y1 z0 z1 hM5
 have H5:Hid (ZaQ W br bc b0 b1 bt c mn cp (.slice (some a) jobs.length K) { r with next:=r.next+1,tk:=Cv.upd r.tk k (some (Cv.ZhT k (Cv.brg (j.tdiv 16) c.C))) } true cnt (n+1) pv pb m w5):=⟨H3.out.p,h5⟩
 obtain ⟨⟨y0,y1,y2,y3,y4,y5,y6,y7,y8,y9,y10,y11⟩,-,f⟩:=H5.out.box
 have f523:=f 523
 clear f h5 H3
 go_wp2_with fail
 go_ret
 exact ⟨rfl,H5.out.p,Zbu H5.out.o fun M hM=>Zbw hM true⟩
end
end Go.Proofs.YtfcpdlbkmkhhcaaGreatDoor.Cw

namespace Go.Proofs.YtfcpdlbkmkhhcaaGreatDoor.Cw
open Go Mem See
open Go.RowKit
attribute [local go_sem ↓] Go.wp_at_zero Go.wp_at_succ
section
variable {W w w':World}{m l:List (Nat×Obj)}{br bc b0 b1 bt:Nat}{c:Ch}{mn cp cnt n k:Nat}{r:Cv.Rn}{jv pv:Value}{pb:List (Nat×Obj)}{jobs:List Int}{j J:Int}
set_option maxRecDepth 100000 in
set_option maxHeartbeats 40000000 in
theorem ZiZ (h:ZaQ W br bc b0 b1 bt c mn cp jv r true cnt n pv pb m w)(hj:ZaK W jv jobs)(hn:r.next<120)(hjj:jobs[r.next]?=some j)(hwf:(Lit.int .i64 j).wf=true)(hJ:j % 16=J)(hX15:J≠15)(hX14:J≠14)(hX8:J<8)(hC:c.C≤5)(hk:k<c.C)(htk:r.tk k=Option.none) :
 Calls Tryz.prog 23 #[.pointer (some ⟨br,0,Option.none⟩),.int .i64 (k:Int)] w fun e w'=>e = .returned (.bool true)∧ZaQ W br bc b0 b1 bt c mn cp jv { r with next:=r.next+1,tk:=Cv.upd r.tk k (some (Cv.Zfj k)) } true cnt (n+1) pv pb m w':=by
 have HX14:=Lib.hid hX14
 have HX15:=Lib.hid hX15
 have HX8:=Lib.hid hX8
 have HJS:=Lib.hid hj
 obtain ⟨M0,hM0⟩:=Zcw h.o
 have hsrc:ZaK w jv jobs:=Src.Zil hj hM0
 rcases hsrc.2 with ⟨rfl,hn0⟩ | ⟨a,K,rfl,hcell⟩
 ·rw [List.eq_nil_of_length_eq_zero hn0] at hjj
  cases hjj
 have cy:=hcell r.next _ (Zcn hjj)
 have hlt:r.next<jobs.length:=(List.getElem?_eq_some_iff.1 hjj).1
 have i1:(0:Int)≤(r.next:Int):=by omega
 have i2:(r.next:Int)<(jobs.length:Int):=by omega
 have d1:decide (jobs.length≤r.next)=false:=decide_eq_false (by omega)
 have d2:decide ((120:Int)≤(r.next:Int))=false:=decide_eq_false (by omega)
 have HWJ:=Lib.hid hwf
 have HJJ:=Lib.hid hJ
 have H:=Lib.hid h
 have HCC:=Lib.hid hC
 have HKK:=Lib.hid hk
 have HTK:=Lib.hid htk
 have HN:=Lib.hid hn
 clear h hj hn hjj hwf hJ hC hk htk hsrc hcell hlt hM0 hX14 hX15 hX8
 go_enter Tryz.func23,Tryz.ntmps23
 obtain ⟨⟨y0,y1,y2,y3,y4,y5,y6,y7,y8,y9,y10,y11⟩,-,-⟩:=H.out.box
 go_wp2_with fail
 go_quiet (fail)
 clear y0 y1 y2 y3 y4 y5 y6 y7 y8 y9 y10 y11
 have H1:=Lib.hid (H.out.drewN nq)
 have cy:(w.drewN nq).cell? (a.add r.next)=some (.int .i64 j):=cy
 clear H
 generalize w.drewN nq=w1 at H1 cy ⊢
 obtain ⟨⟨y0,y1,y2,y3,y4,y5,y6,y7,y8,y9,y10,y11⟩,-,-⟩:=H1.out.box
 go_wp2_with fail
 go_quiet (fail)
 clear y0 y1 y2 y3 y4 y5 y6 y7 y8 y9 y10 y11 cy d1 d2 i1 i2
 have H2:=Lib.hid (H1.out.drewN nq)
 clear H1
 generalize w1.drewN nq=w2 at H2 ⊢
 obtain ⟨⟨y0,y1,y2,y3,y4,y5,y6,y7,y8,y9,y10,y11⟩,-,f⟩:=H2.out.box
 have f8:=f 8
 clear f
 go_wp2_with fail
 clear y0 y1 y2 y3 y4 y5 y6 y7 y8 y9 y10 y11 f8
 rw [show wrap64 ((r.next:Int)+1)=((r.next+1:Nat):Int) from IntWalk.wrap64_in _ (by have:=HN.out; omega)]
 have H3:Hid (ZaQ W br bc b0 b1 bt c mn cp (.slice (some a) jobs.length K) { r with next:=r.next+1 } true cnt n pv pb m (w2.setCell ⟨br,8,Option.none⟩ (.int .i64 ((r.next+1:Nat):Int)))):=⟨H2.out.p,Zbu H2.out.o fun M hM=>ZcK hM (r.next+1)⟩
 clear H2
 generalize w2.setCell ⟨br,8,Option.none⟩ (.int .i64 ((r.next+1:Nat):Int))=w3 at H3 ⊢
 obtain ⟨⟨y0,y1,y2,y3,y4,y5,y6,y7,y8,y9,y10,y11⟩,-,-⟩:=H3.out.box
 have q15:(J==15)=false:=by simpa using HX15.out
 have q14:(J==14)=false:=by simpa using HX14.out
 refine (ZaC j 16 (by omega) (by omega) HWJ.out _).mono ?_
 rintro e w4 ⟨rfl,rfl⟩
 rw [HJJ.out]
 go_wp2_with fail
 refine (ZaC j 16 (by omega) (by omega) HWJ.out _).mono ?_
 rintro e w4 ⟨rfl,rfl⟩
 rw [HJJ.out]
 go_wp2_with fail
 refine (ZaC j 16 (by omega) (by omega) HWJ.out _).mono ?_
 rintro e w4 ⟨rfl,rfl⟩
 rw [HJJ.out]
 have q8:decide ((8:Int)≤J)=false:=decide_eq_false (by have:=HX8.out; omega)
 go_wp2_with fail
 refine (Zjb HCC.out H3.out.o HKK.out HTK.out).mono ?_
 rintro e w5 ⟨rfl,h5⟩
 clear y0 y1 y2 y3 y4 y5 y6 y7 y8 y9 y10 y11
 have H5:Hid (ZaQ W br bc b0 b1 bt c mn cp (.slice (some a) jobs.length K) { r with next:=r.next+1,tk:=Cv.upd r.tk k (some (Cv.Zfj k)) } true cnt (n+1) pv pb m w5):=⟨H3.out.p,h5⟩
 obtain ⟨⟨y0,y1,y2,y3,y4,y5,y6,y7,y8,y9,y10,y11⟩,-,f⟩:=H5.out.box
 have f523:=f 523
 clear f h5 H3
 go_wp2_with fail
 go_ret
 exact ⟨rfl,H5.out.p,Zbu H5.out.o fun M hM=>Zbw hM true⟩
end
end Go.Proofs.YtfcpdlbkmkhhcaaGreatDoor.Cw

namespace Go.Proofs.YtfcpdlbkmkhhcaaGreatDoor.Cw
open Go Mem See
open Go.RowKit
attribute [local go_sem ↓] Go.wp_at_zero Go.wp_at_succ
section
variable {W w w':World}{m l:List (Nat×Obj)}{br bc b0 b1 bt:Nat}{c:Ch}{mn cp cnt n k:Nat}{r:Cv.Rn}{jv pv:Value}{pb:List (Nat×Obj)}{jobs:List Int}{j J:Int}
set_option maxRecDepth 100000 in
set_option maxHeartbeats 40000000 in
theorem ZhY (h:ZaQ W br bc b0 b1 bt c mn cp jv r true cnt n pv pb m w)(hj:ZaK W jv jobs)(hn:r.next<120)(hjj:jobs[r.next]?=some j)(hwf:(Lit.int .i64 j).wf=true)(hJ:j % 16=J)(hX15:J≠15)(hX14:J≠14)(hX8:8≤J)(hX9:r.pile=[])(hC:c.C≤5)(hk:k<c.C)(htk:r.tk k=Option.none) :
 Calls Tryz.prog 23 #[.pointer (some ⟨br,0,Option.none⟩),.int .i64 (k:Int)] w fun e w'=>e = .returned (.bool true)∧ZaQ W br bc b0 b1 bt c mn cp jv { r with next:=r.next+1,tk:=Cv.upd r.tk k (some (Cv.Zfj k)) } true cnt (n+1) pv pb m w':=by
 have HX14:=Lib.hid hX14
 have HX15:=Lib.hid hX15
 have HX8:=Lib.hid hX8
 have HX9:=Lib.hid hX9
 obtain ⟨PA,PK,rfl,hpl⟩:=h.pile
 have HPL:=Lib.hid hpl
 clear hpl
 have HJS:=Lib.hid hj
 obtain ⟨M0,hM0⟩:=Zcw h.o
 have hsrc:ZaK w jv jobs:=Src.Zil hj hM0
 rcases hsrc.2 with ⟨rfl,hn0⟩ | ⟨a,K,rfl,hcell⟩
 ·rw [List.eq_nil_of_length_eq_zero hn0] at hjj
  cases hjj
 have cy:=hcell r.next _ (Zcn hjj)
 have hlt:r.next<jobs.length:=(List.getElem?_eq_some_iff.1 hjj).1
 have i1:(0:Int)≤(r.next:Int):=by omega
 have i2:(r.next:Int)<(jobs.length:Int):=by omega
 have d1:decide (jobs.length≤r.next)=false:=decide_eq_false (by omega)
 have d2:decide ((120:Int)≤(r.next:Int))=false:=decide_eq_false (by omega)
 have HWJ:=Lib.hid hwf
 have HJJ:=Lib.hid hJ
 have H:=Lib.hid h
 have HCC:=Lib.hid hC
 have HKK:=Lib.hid hk
 have HTK:=Lib.hid htk
 have HN:=Lib.hid hn
 clear h hj hn hjj hwf hJ hC hk htk hsrc hcell hlt hM0 hX14 hX15 hX8 hX9 HPL
 have hlp:r.pile.length=0:=by rw [HX9.out]; rfl
 have HLP:=Lib.hid hlp
 clear hlp
 go_enter Tryz.func23,Tryz.ntmps23
 obtain ⟨⟨y0,y1,y2,y3,y4,y5,y6,y7,y8,y9,y10,y11⟩,-,-⟩:=H.out.box
 go_wp2_with fail
 go_quiet (fail)
 clear y0 y1 y2 y3 y4 y5 y6 y7 y8 y9 y10 y11
 have H1:=Lib.hid (H.out.drewN nq)
 have cy:(w.drewN nq).cell? (a.add r.next)=some (.int .i64 j):=cy
 clear H
 generalize w.drewN nq=w1 at H1 cy ⊢
 obtain ⟨⟨y0,y1,y2,y3,y4,y5,y6,y7,y8,y9,y10,y11⟩,-,-⟩:=H1.out.box
 go_wp2_with fail
 go_quiet (fail)
 clear y0 y1 y2 y3 y4 y5 y6 y7 y8 y9 y10 y11 cy d1 d2 i1 i2
 have H2:=Lib.hid (H1.out.drewN nq)
 clear H1
 generalize w1.drewN nq=w2 at H2 ⊢
 obtain ⟨⟨y0,y1,y2,y3,y4,y5,y6,y7,y8,y9,y10,y11⟩,-,f⟩:=H2.out.box
 have f8:=f 8
 clear f
 go_wp2_with fail
 clear y0 y1 y2 y3 y4 y5 y6 y7 y8 y9 y10 y11 f8
 rw [show wrap64 ((r.next:Int)+1)=((r.next+1:Nat):Int) from IntWalk.wrap64_in _ (by have:=HN.out; omega)]
 have H3:Hid (ZaQ W br bc b0 b1 bt c mn cp (.slice (some a) jobs.length K) { r with next:=r.next+1 } true cnt n (.slice PA r.pile.length PK) pb m (w2.setCell ⟨br,8,Option.none⟩ (.int .i64 ((r.next+1:Nat):Int)))):=⟨H2.out.p,Zbu H2.out.o fun M hM=>ZcK hM (r.next+1)⟩
 clear H2
 generalize w2.setCell ⟨br,8,Option.none⟩ (.int .i64 ((r.next+1:Nat):Int))=w3 at H3 ⊢
 obtain ⟨⟨y0,y1,y2,y3,y4,y5,y6,y7,y8,y9,y10,y11⟩,-,-⟩:=H3.out.box
 have q15:(J==15)=false:=by simpa using HX15.out
 have q14:(J==14)=false:=by simpa using HX14.out
 refine (ZaC j 16 (by omega) (by omega) HWJ.out _).mono ?_
 rintro e w4 ⟨rfl,rfl⟩
 rw [HJJ.out]
 go_wp2_with fail
 refine (ZaC j 16 (by omega) (by omega) HWJ.out _).mono ?_
 rintro e w4 ⟨rfl,rfl⟩
 rw [HJJ.out]
 go_wp2_with fail
 refine (ZaC j 16 (by omega) (by omega) HWJ.out _).mono ?_
 rintro e w4 ⟨rfl,rfl⟩
 rw [HJJ.out]
 have q8:decide ((8:Int)≤J)=true:=decide_eq_true HX8.out
 have d9:decide ((0:Int)<(r.pile.length:Int))=false:=decide_eq_false (by rw [HLP.out]; omega)
 have d10:decide (0<r.pile.length)=false:=decide_eq_false (by rw [HLP.out]; omega)
 go_wp2_with fail
 refine (Zjb HCC.out H3.out.o HKK.out HTK.out).mono ?_
 rintro e w5 ⟨rfl,h5⟩
 clear y0 y1 y2 y3 y4 y5 y6 y7 y8 y9 y10 y11
 have H5:Hid (ZaQ W br bc b0 b1 bt c mn cp (.slice (some a) jobs.length K) { r with next:=r.next+1,tk:=Cv.upd r.tk k (some (Cv.Zfj k)) } true cnt (n+1) (.slice PA r.pile.length PK) pb m w5):=⟨H3.out.p,h5⟩
 obtain ⟨⟨y0,y1,y2,y3,y4,y5,y6,y7,y8,y9,y10,y11⟩,-,f⟩:=H5.out.box
 have f523:=f 523
 clear f h5 H3
 go_wp2_with fail
 go_ret
 exact ⟨rfl,H5.out.p,Zbu H5.out.o fun M hM=>Zbw hM true⟩
end
end Go.Proofs.YtfcpdlbkmkhhcaaGreatDoor.Cw

namespace Go.Proofs.YtfcpdlbkmkhhcaaGreatDoor.Cw
open Go Mem See
open Go.RowKit
attribute [local go_sem ↓] Go.wp_at_zero Go.wp_at_succ
section
variable {W w w':World}{m l:List (Nat×Obj)}{br bc b0 b1 bt:Nat}{c:Ch}{mn cp cnt n k:Nat}{r:Cv.Rn}{jv pv:Value}{pb:List (Nat×Obj)}{jobs:List Int}{j J:Int}
set_option maxRecDepth 100000 in
set_option maxHeartbeats 40000000 in
theorem Zkv (h:ZaQ W br bc b0 b1 bt c mn cp jv r true cnt n pv pb m w)(hj:ZaK W jv jobs)(hn:r.next<120)(hjj:jobs[r.next]?=some j)(hwf:(Lit.int .i64 j).wf=true)(hJ:j % 16=J)(hX15:J≠15)(hX14:J≠14)(hX8:8≤J)(hX9:0<r.pile.length)(hPB:r.pile.length≤1000)(hXB:∀ x∈r.pile,x<512)(hXS:∀ x∈r.pile,x / 16<c.S∧x % 16<c.O)(hCO:COk c (mn:Int) (cp:Int))(hC:c.C≤5)(hk:k<c.C)(htk:r.tk k=Option.none) :
 Calls Tryz.prog 23 #[.pointer (some ⟨br,0,Option.none⟩),.int .i64 (k:Int)] w fun e w'=>e = .returned (.bool true)∧∃ pv' pb',ZaQ W br bc b0 b1 bt c mn cp jv { r with next:=r.next+1,tk:=Cv.upd r.tk k (some (Cv.Zk8 k (r.pile.getD (Cv.brg (j.tdiv 16) r.pile.length) 0))),pile:=Cv.ZdL r.pile (Cv.brg (j.tdiv 16) r.pile.length),out:=fun y=>if y=r.pile.getD (Cv.brg (j.tdiv 16) r.pile.length) 0 then false else r.out y } true cnt (n+1) pv' pb' m w':=by
 have HX14:=Lib.hid hX14
 have HX15:=Lib.hid hX15
 have HX8:=Lib.hid hX8
 have HLP:=Lib.hid hX9
 have HPB:=Lib.hid hPB
 have HXB:=Lib.hid hXB
 have HXS:=Lib.hid hXS
 have HCO:=Lib.hid hCO
 obtain ⟨PA,PK,rfl,hpl⟩:=h.pile
 have HPL:=Lib.hid hpl
 clear hpl
 have HJS:=Lib.hid hj
 obtain ⟨M0,hM0⟩:=Zcw h.o
 have hsrc:ZaK w jv jobs:=Src.Zil hj hM0
 rcases hsrc.2 with ⟨rfl,hn0⟩ | ⟨a,K,rfl,hcell⟩
 ·rw [List.eq_nil_of_length_eq_zero hn0] at hjj
  cases hjj
 have cy:=hcell r.next _ (Zcn hjj)
 have hlt:r.next<jobs.length:=(List.getElem?_eq_some_iff.1 hjj).1
 have i1:(0:Int)≤(r.next:Int):=by omega
 have i2:(r.next:Int)<(jobs.length:Int):=by omega
 have d1:decide (jobs.length≤r.next)=false:=decide_eq_false (by omega)
 have d2:decide ((120:Int)≤(r.next:Int))=false:=decide_eq_false (by omega)
 have HWJ:=Lib.hid hwf
 have HJJ:=Lib.hid hJ
 have H:=Lib.hid h
 have HCC:=Lib.hid hC
 have HKK:=Lib.hid hk
 have HTK:=Lib.hid htk
 have HN:=Lib.hid hn
 clear h hj hn hjj hwf hJ hC hk htk hsrc hcell hlt hM0 hX14 hX15 hX8 hX9 hPB hXB hXS hCO
 go_enter Tryz.func23,Tryz.ntmps23
 obtain ⟨⟨y0,y1,y2,y3,y4,y5,y6,y7,y8,y9,y10,y11⟩,-,-⟩:=H.out.box
 go_wp2_with fail
 go_quiet (fail)
 clear y0 y1 y2 y3 y4 y5 y6 y7 y8 y9 y10 y11
 have H1:=Lib.hid (H.out.drewN nq)
 have cy:(w.drewN nq).cell? (a.add r.next)=some (.int .i64 j):=cy
 clear H
 generalize w.drewN nq=w1 at H1 cy ⊢
 obtain ⟨⟨y0,y1,y2,y3,y4,y5,y6,y7,y8,y9,y10,y11⟩,-,-⟩:=H1.out.box
 go_wp2_with fail
 go_quiet (fail)
 clear y0 y1 y2 y3 y4 y5 y6 y7 y8 y9 y10 y11 cy d1 d2 i1 i2
 have H2:=Lib.hid (H1.out.drewN nq)
 clear H1
 generalize w1.drewN nq=w2 at H2 ⊢
 obtain ⟨⟨y0,y1,y2,y3,y4,y5,y6,y7,y8,y9,y10,y11⟩,-,f⟩:=H2.out.box
 have f8:=f 8
 clear f
 go_wp2_with fail
 clear y0 y1 y2 y3 y4 y5 y6 y7 y8 y9 y10 y11 f8
 rw [show wrap64 ((r.next:Int)+1)=((r.next+1:Nat):Int) from IntWalk.wrap64_in _ (by have:=HN.out; omega)]
 have H3:Hid (ZaQ W br bc b0 b1 bt c mn cp (.slice (some a) jobs.length K) { r with next:=r.next+1 } true cnt n (.slice PA r.pile.length PK) pb m (w2.setCell ⟨br,8,Option.none⟩ (.int .i64 ((r.next+1:Nat):Int)))):=⟨H2.out.p,Zbu H2.out.o fun M hM=>ZcK hM (r.next+1)⟩
 clear H2
 generalize w2.setCell ⟨br,8,Option.none⟩ (.int .i64 ((r.next+1:Nat):Int))=w3 at H3 ⊢
 obtain ⟨⟨y0,y1,y2,y3,y4,y5,y6,y7,y8,y9,y10,y11⟩,-,-⟩:=H3.out.box
 have q15:(J==15)=false:=by simpa using HX15.out
 have q14:(J==14)=false:=by simpa using HX14.out
 refine (ZaC j 16 (by omega) (by omega) HWJ.out _).mono ?_
 rintro e w4 ⟨rfl,rfl⟩
 rw [HJJ.out]
 go_wp2_with fail
 refine (ZaC j 16 (by omega) (by omega) HWJ.out _).mono ?_
 rintro e w4 ⟨rfl,rfl⟩
 rw [HJJ.out]
 go_wp2_with fail
 refine (ZaC j 16 (by omega) (by omega) HWJ.out _).mono ?_
 rintro e w4 ⟨rfl,rfl⟩
 rw [HJJ.out]
 have q8:decide ((8:Int)≤J)=true:=decide_eq_true HX8.out
 obtain ⟨gp,rfl,hpc,hpf⟩:=HPL.out HLP.out
 have HPC:=Lib.hid hpc
 have hlen0:(0:Int)<(r.pile.length:Int):=by have:=HLP.out; omega
 have d9:decide ((0:Int)<(r.pile.length:Int))=true:=decide_eq_true hlen0
 have d10:decide (0<r.pile.length)=true:=decide_eq_true HLP.out
 have hwr:=Zki HWJ.out
 have HBQ:Hid ((j.tdiv 16) % (r.pile.length:Int)=((Cv.brg (j.tdiv 16) r.pile.length:Nat):Int)):=ZeV HLP.out
 have HWQ:Hid ((Lit.int .i64 (j.tdiv 16)).wf=true):=Zld HWJ.out
 have HLT:Hid (Cv.brg (j.tdiv 16) r.pile.length<r.pile.length):=Cv.ZcQ HLP.out
 clear hpc hpf
 go_wp2_with fail
 refine (ZaC (j.tdiv 16) (r.pile.length:Int) (by have:=HLP.out; omega) (by have:=HPB.out; omega) HWQ.out _).mono ?_
 rintro e w4 ⟨rfl,rfl⟩
 rw [HBQ.out]
 obtain ⟨i,hi⟩:∃ i,Cv.brg (j.tdiv 16) r.pile.length=i:=⟨_,rfl⟩
 have HI:=Lib.hid hi
 rw [hi] at HLT ⊢
 obtain ⟨x,hx⟩:∃ x,r.pile[i]?=some x:=⟨_,List.getElem?_eq_getElem HLT.out⟩
 obtain ⟨z,hz⟩:∃ z,r.pile[r.pile.length - 1]?=some z:=⟨_,List.getElem?_eq_getElem (by have:=HLP.out; omega)⟩
 have hpa:=H3.out.ZpR
 have c1:=hpa.1 i x hx
 have i1:(0:Int)≤(i:Int):=by omega
 have i2:(i:Int)<(r.pile.length:Int):=by have:=HLT.out; omega
 have HX:=Lib.hid hx
 have HZ:=Lib.hid hz
 clear hi hx hz hpa hwr HBQ HWQ q8 d9 d10 q14 q15
 go_upto_region 14 with fail
 have H3D:=Lib.hid H3.out.drew
 clear y0 y1 y2 y3 y4 y5 y6 y7 y8 y9 y10 y11 c1
 obtain ⟨⟨y0,y1,y2,y3,y4,y5,y6,y7,y8,y9,y10,y11⟩,-,-⟩:=H3.out.box
 have hpa:=H3.out.ZpR
 have c2:=hpa.1 _ z HZ.out
 have c1:=hpa.1 i x HX.out
 have f1:=hpa.2 i
 have e1:IntKind.i64.wrap ((r.pile.length:Int) - 1)=((r.pile.length - 1:Nat):Int):=by
  have:=HLP.out
  have:=HPB.out
  rw [Ex.Zbe (by omega) (by omega)]
  omega
 have i3:(0:Int)≤((r.pile.length - 1:Nat):Int):=by omega
 have i4:((r.pile.length - 1:Nat):Int)<(r.pile.length:Int):=by have:=HLP.out; omega
 clear hpa
 go_region
 clear y0 y1 y2 y3 y4 y5 y6 y7 y8 y9 y10 y11 c1 c2 f1 i1 i2
 obtain ⟨pb2,h4⟩:=H3.out.Zrf (j:=i) HLT.out z
 have H4:=Lib.hid h4.drew
 clear h4 H3 H3D
 generalize (w3.setCell ⟨gp,i,Option.none⟩ (.int .i64 (z:Int))).drew=w4 at H4 ⊢
 obtain ⟨⟨y0,y1,y2,y3,y4,y5,y6,y7,y8,y9,y10,y11⟩,-,f⟩:=H4.out.box
 have f521:=f 521
 have i5:((r.pile.length - 1:Nat):Int)≤(PK:Int):=by
  have h:=H4.out.Zrd
  have h:(r.pile.set i z).length≤PK:=h
  rw [List.length_set] at h
  omega
 clear f
 go_upto_region 15 with fail
 go_region
 clear y0 y1 y2 y3 y4 y5 y6 y7 y8 y9 y10 y11 f521 e1 i3 i4 i5
 have h5:=H4.out.Zre (k:=r.pile.length - 1) (by show _≤(r.pile.set i z).length; rw [List.length_set]; omega)
 have H5:=Lib.hid h5.drew
 clear h5 H4
 generalize (w4.setCell ⟨br,521,Option.none⟩ (.slice (some ⟨gp,0,Option.none⟩) (r.pile.length - 1) PK)).drew=w5 at H5 ⊢
 obtain ⟨⟨y0,y1,y2,y3,y4,y5,y6,y7,y8,y9,y10,y11⟩,yo,f⟩:=H5.out.box
 have hx512:=HXB.out x (List.mem_of_getElem? HX.out)
 have yx:=yo x hx512
 have fx:=f (9+x)
 have i1:(0:Int)≤(x:Int):=by omega
 have i2:(x:Int)<512:=by omega
 clear f yo
 go_wp2_with fail
 clear y0 y1 y2 y3 y4 y5 y6 y7 y8 y9 y10 y11 yx fx i1 i2
 have H6:Hid (ZaQ W br bc b0 b1 bt c mn cp (.slice (some a) jobs.length K) { r with next:=r.next+1,pile:=(r.pile.set i z).take (r.pile.length - 1),out:=fun y=>if y=x then false else r.out y } true cnt n (.slice (some ⟨gp,0,Option.none⟩) (r.pile.length - 1) PK) pb2 m (w5.setCell ⟨br,9+x,Option.none⟩ (.bool false))):=⟨H5.out.p,Zbu H5.out.o fun M hM=>ZhP hM hx512 false⟩
 clear H5 hx512
 generalize w5.setCell ⟨br,9+x,Option.none⟩ (.bool false)=w6 at H6 ⊢
 obtain ⟨hs,ho⟩:=HXS.out x (List.mem_of_getElem? HX.out)
 rw [show (x:Int) / 16=((x / 16:Nat):Int) by omega,show (x:Int) % 16=((x % 16:Nat):Int) by omega]
 refine (Zoz HCO.out H6.out.o HKK.out hs ho HTK.out).mono ?_
 rintro e w7 ⟨rfl,h7⟩
 have H7:Hid (ZaQ W br bc b0 b1 bt c mn cp (.slice (some a) jobs.length K) { r with next:=r.next+1,tk:=Cv.upd r.tk k (some (Cv.Zk8 k x)),pile:=(r.pile.set i z).take (r.pile.length - 1),out:=fun y=>if y=x then false else r.out y } true cnt (n+1) (.slice (some ⟨gp,0,Option.none⟩) (r.pile.length - 1) PK) pb2 m w7):=⟨H6.out.p,h7⟩
 clear h7 H6 hs ho
 obtain ⟨⟨y0,y1,y2,y3,y4,y5,y6,y7,y8,y9,y10,y11⟩,-,f⟩:=H7.out.box
 have f523:=f 523
 clear f
 go_wp2_with fail
 go_ret
 refine ⟨rfl,.slice (some ⟨gp,0,Option.none⟩) (r.pile.length - 1) PK,pb2,?_⟩
 have ex:r.pile.getD i 0=x:=by rw [List.getD_eq_getElem?_getD,HX.out]; rfl
 have ez:Cv.ZdL r.pile i=(r.pile.set i z).take (r.pile.length - 1):=by
  unfold Cv.ZdL
  rw [List.getD_eq_getElem?_getD,HZ.out]
  rfl
 rw [HI.out,ex,ez]
 exact ⟨H7.out.p,Zbu H7.out.o fun M hM=>Zbw hM true⟩
end
end Go.Proofs.YtfcpdlbkmkhhcaaGreatDoor.Cw
