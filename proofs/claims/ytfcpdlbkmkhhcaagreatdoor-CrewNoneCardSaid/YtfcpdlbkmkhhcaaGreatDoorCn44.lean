/-
  Texts of this claim, joined. No condition.
-/
import Derived.Test.YtfcpdlbkmkhhcaaGreatDoorCn43
import Derived.Test.YtfcpdlbkmkhhcaaGreatDoorCn27
import Derived.Test.YtfcpdlbkmkhhcaaGreatDoorCn41
import Derived.Test.YtfcpdlbkmkhhcaaGreatDoorCn23
import Derived.Test.YtfcpdlbkmkhhcaaGreatDoorCn15
import Derived.Test.YtfcpdlbkmkhhcaaGreatDoorCn18
namespace Go.Proofs.YtfcpdlbkmkhhcaaGreatDoor.Cw
open Go Mem See
open Go.RowKit
attribute [local go_sem ↓] Go.wp_at_zero Go.wp_at_succ
section
variable {W w w':World}{m l:List (Nat×Obj)}{br bc b0 b1 bt:Nat}{c:Ch}{mn cp cnt n k:Nat}{r:Cv.Rn}{jv pv:Value}{pb:List (Nat×Obj)}{jobs:List Int}{st st':Cv.St}{t t':Tk}{g':List Nat}
set_option maxRecDepth 100000 in
set_option maxHeartbeats 40000000 in
theorem ZjL (h:ZaQ W br bc b0 b1 bt c mn cp jv r true cnt n pv pb m w)(I:Cv.RI c mn cp r st)(hkey:c.key<18446744073709551616)(hk:k<c.C)(htk:r.tk k=some t)(hw:t.want=1)(hn:n<1000000000)(hrn:r.none<1000000000){s:Nat}(hs:Cv.ZbI c r.g r.tk=some s)(ht':t'={ t with want:=0,slab:=(s:Int),many:=0,pc:=43 }){r6:Cv.Rn}(he:ZiP W br bc b0 b1 bt c mn cp jv { r with tk:=Cv.upd r.tk k (Cv.stop t') } t' r6) :
 Calls Tryz.prog 12 #[.pointer (some ⟨br,0,Option.none⟩),.int .i64 (k:Int)] w fun e w'=>e = .returned (.bool true)∧∃ pv' pb',ZaQ W br bc b0 b1 bt c mn cp jv r6 true cnt (n+1) pv' pb' m w':=by
 have HW:=Lib.hid hw
 have HS:=Lib.hid hs
 have HN:=Lib.hid hn
 have HRN:=Lib.hid hrn
 have HT':=Lib.hid ht'
 have HE:=Lib.hid he
 have H:=Lib.hid h
 have HI:=Lib.hid I
 have HTK:=Lib.hid htk
 have HKK:=Lib.hid hk
 have HKEY:=Lib.hid hkey
 obtain ⟨⟨y0,y1,y2,y3,y4,y5,y6,y7,y8,y9,y10,y11⟩,-,-⟩:=h.box
 have htask:=ZeY h.o I.Z.C.2 hk
 rw [htk] at htask
 have HTS:=Lib.hid htask
 clear h I htk hk htask hkey hw hs hn hrn ht' he
 go_enter Tryz.func12,Tryz.ntmps12
 go_wp2_with fail
 clear y0 y1 y2 y3 y4 y5 y6 y7 y8 y9 y10 y11
 refine HTS.out.mono ?_
 rintro e w2 ⟨rfl,h2⟩
 have h2:ZaQ W br bc b0 b1 bt c mn cp jv r true cnt n pv pb m w2:=⟨H.out.p,h2⟩
 have h3:=h2.alloc z17
 obtain ⟨B,hB⟩:∃ B,w2.heap.size=B:=⟨_,rfl⟩
 rw [hB] at h3
 obtain ⟨M0,hM0,hF0⟩:=h3.Zio
 have HM0:=Lib.hid hM0
 have HF0:=Lib.hid hF0
 have HT0:=Lib.hid (ZaE t)
 clear h2 h3 hM0 hF0 HTS H
 have q1:(t.want==1)=true:=by rw [HW.out]; rfl
 simp only [Option.getD_some,Option.isSome_some]
 go_wp2_with (first
  | (refine Zab (t:=59) (new:=tkA (t)) rfl _ _ rfl rfl rfl Zap HM0.out rfl HT0.out ?_; intro w3 hS; have h3:ZaQ W br bc b0 b1 bt c mn cp jv r true cnt n pv pb (tB B (t)::m) w3:=HF0.out _ _ hS; have H3:=Lib.hid h3; obtain ⟨Mt,hMt⟩:=h3.ZaB; obtain ⟨⟨x0,x1,x2,x3,x4,x5,x6,x7,x8,x9,x10,x11,x12,x13,x14,x15,x16⟩,-⟩:=Za8 (t:=t) hMt; obtain ⟨⟨y0,y1,y2,y3,y4,y5,y6,y7,y8,y9,y10,y11⟩,-,fz⟩:=h3.box; have f522:=fz 522; clear hS h3 hMt fz hB HM0 HF0))
 refine (Zjc HI.out.Z HKEY.out HI.out.tk H3.out.o HN.out).mono ?_
 rintro e w4 ⟨rfl,h4⟩
 have HANS:=fun (m':List (Nat×Obj)) (w':World) (h:CrS W bc b0 b1 bt c mn cp r.g r.tk cnt n m' w')=>Zhw (t':=t') HI.out.Z HKEY.out HI.out.tk h HN.out HTK.out HW.out (by rw [HS.out]; exact HT'.out)
 have HANS:=Lib.hid HANS
 rw [HS.out] at HANS ⊢
 have h4:ZaQ W br bc b0 b1 bt c mn cp jv r true cnt n pv pb (tB B t::m) w4:=⟨H3.out.p,h4⟩
 have H4:=Lib.hid h4
 clear h4 H3 x0 x1 x2 x3 x4 x5 x6 x7 x8 x9 x10 x11 x12 x13 x14 x15 x16 y0 y1 y2 y3 y4 y5 y6 y7 y8 y9 y10 y11 f522
 obtain ⟨⟨y0,y1,y2,y3,y4,y5,y6,y7,y8,y9,y10,y11⟩,-,fz⟩:=H4.out.box
 have f522:=fz 522
 clear fz
 go_wp2_with fail
 have H3:=H4
 clear H4
 refine (HANS.out _ _ H3.out.o).mono ?_
 rintro e w5 ⟨rfl,h5⟩
 have h5:ZaQ W br bc b0 b1 bt c mn cp jv { r with tk:=Cv.upd r.tk k (Cv.stop t') } true cnt (n+1) pv pb (tB B t::m) w5:=⟨H3.out.p,h5⟩
 obtain ⟨M5,hM5,hF5⟩:=h5.Zio
 have HM5:=Lib.hid hM5
 have HF5:=Lib.hid hF5
 have HT5:=Lib.hid (ZaE t')
 clear h5 hM5 hF5 H3 f522 y0 y1 y2 y3 y4 y5 y6 y7 y8 y9 y10 y11
 go_upto_region 14 with (first
  | (refine Zab (t:=59) (new:=tkA t') rfl _ _ rfl rfl rfl Zap HM5.out rfl HT5.out ?_; intro w7 hS; have h7:ZaQ W br bc b0 b1 bt c mn cp jv { r with tk:=Cv.upd r.tk k (Cv.stop t') } true cnt (n+1) pv pb (tB B t'::m) w7:=HF5.out _ _ hS; have H7:=Lib.hid h7; have HM7:Hid (Own W (tB B t'::M5) w7):=Lib.hid hS; obtain ⟨⟨-,-,-,x3,-⟩,-⟩:=Za8 (t:=t') HM7.out; clear hS h7 HM5 HF5))
 rcases HE.out with ⟨hf,hr6⟩ | ⟨hf,hE⟩
 ·have qf:(t'.fin != 0)=false:=by simpa using hf
  have H8:=Lib.hid (H7.out.sub (List.sublist_cons_self _ _))
  rw [← hr6] at H8
  clear hf hr6
  go_wp2_with fail
  go_ret
  exact ⟨rfl,pv,pb,H8.out⟩
 ·have qf:(t'.fin != 0)=true:=by simpa using hf
  have HC:=Lib.hid (hE _ _ _ _ _ _ H7.out)
  clear hf hE
  go_wp2_with (first
   | (refine Zaq (t:=59) (old:=tkA t') rfl _ rfl rfl Tryz.underlying59 HM7.out Zap ?_))
  refine HC.out.mono ?_
  rintro e w8 ⟨rfl,pv',pb',h8⟩
  have H8:=Lib.hid (h8.sub (List.sublist_cons_self _ _))
  clear h8
  go_wp2_with fail
  go_ret
  exact ⟨rfl,pv',pb',H8.out⟩
end
end Go.Proofs.YtfcpdlbkmkhhcaaGreatDoor.Cw

namespace Go.Proofs.YtfcpdlbkmkhhcaaGreatDoor.Cw
open Go Mem See
open Go.RowKit
attribute [local go_sem ↓] Go.wp_at_zero Go.wp_at_succ
section
variable {W w w':World}{m l:List (Nat×Obj)}{br bc b0 b1 bt:Nat}{c:Ch}{mn cp cnt n k:Nat}{r:Cv.Rn}{jv pv:Value}{pb:List (Nat×Obj)}{jobs:List Int}{st st':Cv.St}{t t':Tk}{g':List Nat}
set_option maxRecDepth 100000 in
set_option maxHeartbeats 40000000 in
theorem ZjK (h:ZaQ W br bc b0 b1 bt c mn cp jv r true cnt n pv pb m w)(I:Cv.RI c mn cp r st)(hkey:c.key<18446744073709551616)(hk:k<c.C)(htk:r.tk k=some t)(hw:t.want=1)(hn:n<1000000000)(hrn:r.none<1000000000)(hs:Cv.ZbI c r.g r.tk=Option.none)(ht':t'={ t with want:=0,fin:=2 }){r6:Cv.Rn}(he:ZiP W br bc b0 b1 bt c mn cp jv { r with none:=r.none+1,tk:=Cv.upd r.tk k (Cv.stop t') } t' r6) :
 Calls Tryz.prog 12 #[.pointer (some ⟨br,0,Option.none⟩),.int .i64 (k:Int)] w fun e w'=>e = .returned (.bool true)∧∃ pv' pb',ZaQ W br bc b0 b1 bt c mn cp jv r6 true cnt (n+1) pv' pb' m w':=by
 have HW:=Lib.hid hw
 have HS:=Lib.hid hs
 have HN:=Lib.hid hn
 have HRN:=Lib.hid hrn
 have HT':=Lib.hid ht'
 have HE:=Lib.hid he
 have H:=Lib.hid h
 have HI:=Lib.hid I
 have HTK:=Lib.hid htk
 have HKK:=Lib.hid hk
 have HKEY:=Lib.hid hkey
 obtain ⟨⟨y0,y1,y2,y3,y4,y5,y6,y7,y8,y9,y10,y11⟩,-,-⟩:=h.box
 have htask:=ZeY h.o I.Z.C.2 hk
 rw [htk] at htask
 have HTS:=Lib.hid htask
 clear h I htk hk htask hkey hw hs hn hrn ht' he
 go_enter Tryz.func12,Tryz.ntmps12
 go_wp2_with fail
 clear y0 y1 y2 y3 y4 y5 y6 y7 y8 y9 y10 y11
 refine HTS.out.mono ?_
 rintro e w2 ⟨rfl,h2⟩
 have h2:ZaQ W br bc b0 b1 bt c mn cp jv r true cnt n pv pb m w2:=⟨H.out.p,h2⟩
 have h3:=h2.alloc z17
 obtain ⟨B,hB⟩:∃ B,w2.heap.size=B:=⟨_,rfl⟩
 rw [hB] at h3
 obtain ⟨M0,hM0,hF0⟩:=h3.Zio
 have HM0:=Lib.hid hM0
 have HF0:=Lib.hid hF0
 have HT0:=Lib.hid (ZaE t)
 clear h2 h3 hM0 hF0 HTS H
 have q1:(t.want==1)=true:=by rw [HW.out]; rfl
 simp only [Option.getD_some,Option.isSome_some]
 go_wp2_with (first
  | (refine Zab (t:=59) (new:=tkA (t)) rfl _ _ rfl rfl rfl Zap HM0.out rfl HT0.out ?_; intro w3 hS; have h3:ZaQ W br bc b0 b1 bt c mn cp jv r true cnt n pv pb (tB B (t)::m) w3:=HF0.out _ _ hS; have H3:=Lib.hid h3; obtain ⟨Mt,hMt⟩:=h3.ZaB; obtain ⟨⟨x0,x1,x2,x3,x4,x5,x6,x7,x8,x9,x10,x11,x12,x13,x14,x15,x16⟩,-⟩:=Za8 (t:=t) hMt; obtain ⟨⟨y0,y1,y2,y3,y4,y5,y6,y7,y8,y9,y10,y11⟩,-,fz⟩:=h3.box; have f522:=fz 522; clear hS h3 hMt fz hB HM0 HF0))
 refine (Zjc HI.out.Z HKEY.out HI.out.tk H3.out.o HN.out).mono ?_
 rintro e w4 ⟨rfl,h4⟩
 have HANS:=fun (m':List (Nat×Obj)) (w':World) (h:CrS W bc b0 b1 bt c mn cp r.g r.tk cnt n m' w')=>Zhw (t':=t') HI.out.Z HKEY.out HI.out.tk h HN.out HTK.out HW.out (by rw [HS.out]; exact HT'.out)
 have HANS:=Lib.hid HANS
 rw [HS.out] at HANS ⊢
 have h4:ZaQ W br bc b0 b1 bt c mn cp jv r true cnt n pv pb (tB B t::m) w4:=⟨H3.out.p,h4⟩
 have H4:=Lib.hid h4
 clear h4 H3 x0 x1 x2 x3 x4 x5 x6 x7 x8 x9 x10 x11 x12 x13 x14 x15 x16 y0 y1 y2 y3 y4 y5 y6 y7 y8 y9 y10 y11 f522
 obtain ⟨⟨y0,y1,y2,y3,y4,y5,y6,y7,y8,y9,y10,y11⟩,-,fz⟩:=H4.out.box
 have f522:=fz 522
 clear fz
 go_wp2_with fail
 have H3:Hid (ZaQ W br bc b0 b1 bt c mn cp jv { r with none:=r.none+1 } true cnt n pv pb (tB B t::m) (w4.setCell ⟨br,522,Option.none⟩ (.int .i64 ((r.none+1:Nat):Int)))):=⟨H4.out.p,Zbu H4.out.o fun M hM=>Zk2 hM (r.none+1)⟩
 rw [show wrap64 ((r.none:Int)+1)=((r.none+1:Nat):Int) from IntWalk.wrap64_in _ (by have:=HRN.out; omega)]
 clear H4
 refine (HANS.out _ _ H3.out.o).mono ?_
 rintro e w5 ⟨rfl,h5⟩
 have h5:ZaQ W br bc b0 b1 bt c mn cp jv { r with none:=r.none+1,tk:=Cv.upd r.tk k (Cv.stop t') } true cnt (n+1) pv pb (tB B t::m) w5:=⟨H3.out.p,h5⟩
 obtain ⟨M5,hM5,hF5⟩:=h5.Zio
 have HM5:=Lib.hid hM5
 have HF5:=Lib.hid hF5
 have HT5:=Lib.hid (ZaE t')
 clear h5 hM5 hF5 H3 f522 y0 y1 y2 y3 y4 y5 y6 y7 y8 y9 y10 y11
 go_upto_region 14 with (first
  | (refine Zab (t:=59) (new:=tkA t') rfl _ _ rfl rfl rfl Zap HM5.out rfl HT5.out ?_; intro w7 hS; have h7:ZaQ W br bc b0 b1 bt c mn cp jv { r with none:=r.none+1,tk:=Cv.upd r.tk k (Cv.stop t') } true cnt (n+1) pv pb (tB B t'::m) w7:=HF5.out _ _ hS; have H7:=Lib.hid h7; have HM7:Hid (Own W (tB B t'::M5) w7):=Lib.hid hS; obtain ⟨⟨-,-,-,x3,-⟩,-⟩:=Za8 (t:=t') HM7.out; clear hS h7 HM5 HF5))
 rcases HE.out with ⟨hf,hr6⟩ | ⟨hf,hE⟩
 ·have qf:(t'.fin != 0)=false:=by simpa using hf
  have H8:=Lib.hid (H7.out.sub (List.sublist_cons_self _ _))
  rw [← hr6] at H8
  clear hf hr6
  go_wp2_with fail
  go_ret
  exact ⟨rfl,pv,pb,H8.out⟩
 ·have qf:(t'.fin != 0)=true:=by simpa using hf
  have HC:=Lib.hid (hE _ _ _ _ _ _ H7.out)
  clear hf hE
  go_wp2_with (first
   | (refine Zaq (t:=59) (old:=tkA t') rfl _ rfl rfl Tryz.underlying59 HM7.out Zap ?_))
  refine HC.out.mono ?_
  rintro e w8 ⟨rfl,pv',pb',h8⟩
  have H8:=Lib.hid (h8.sub (List.sublist_cons_self _ _))
  clear h8
  go_wp2_with fail
  go_ret
  exact ⟨rfl,pv',pb',H8.out⟩
end
end Go.Proofs.YtfcpdlbkmkhhcaaGreatDoor.Cw

namespace Go.Proofs.YtfcpdlbkmkhhcaaGreatDoor.Cw
open See
section
variable {c:Ch}{mn cp:Nat}{g:List Nat}{t:Tk}{k:Nat}
def Kp (k:Nat)(o:Out):Prop:=∀ t' g',o=some (t',g')→t'.cpu=k
theorem Zc0:Kp k none:=fun _ _ h=>by cases h
theorem Zch {t':Tk}{g':List Nat}(h:t'.cpu=k):Kp k (some (t',g')):=fun _ _ e=>by
 cases e
 exact h
theorem ZgN {p:Prop}[Decidable p]{a b:Out}(h1:Kp k a)(h2:Kp k b):Kp k (if p then a else b):=by
 split
 ·exact h1
 ·exact h2
theorem Zfy {p:Prop}[Decidable p]{o:Out}(h:Kp k o):Kp k (need p o):=ZgN h Zc0
theorem Zjo {i:Nat}{f:Nat→Out}(h:∀ x,Kp k (f x)):Kp k (rd g i f):=by
 unfold rd
 split
 ·exact h _
 ·exact Zc0
theorem ZoY {i x:Nat}{t':Tk}(h:t'.cpu=k):Kp k (wr g i x t'):=Zjo fun _=>Zch h
theorem Zfx {i a b x y:Nat}{t1 t2:Tk}(h1:t1.cpu=k)(h2:t2.cpu=k):Kp k (Zf3 g i a b x y t1 t2):=Zjo fun _=>Zjo fun _=>ZgN (Zch h1) (Zch h2)
theorem Zic {w:Nat}{f:Int→Int→Out}(h:∀ x y,Kp k (f x y)):Kp k (Zh8 w f):=by
 unfold Zh8
 split
 ·exact h _ _
 ·exact Zc0
theorem Zid {w:Nat}{f:Int→Int→Out}(h:∀ x y,Kp k (f x y)):Kp k (ZeH w f):=by
 unfold ZeH
 split
 ·exact h _ _
 ·exact Zc0
theorem ZhC {w:Nat}{f:Nat→Nat→Bool→Out}(h:∀ x y z,Kp k (f x y z)):Kp k (Zkk w f):=by
 unfold Zkk
 split
 ·exact ZgN (h _ _ _) Zc0
 ·exact Zc0
theorem Zf6 {t t':Tk}(hg:Zb2 t=some t'):t'.cpu=t.cpu:=by
 unfold Zb2 at hg
 repeat' split at hg
 all_goals first
  | cases hg; rfl
  | cases hg
theorem Zif {i:Nat}{p:Int}:Kp t.cpu (ZeO g t i p):=Zjo fun _=>Zch rfl
theorem Zib {s o:Nat}{f1 f2:Bool}{y n:Nat→Tk}(h1:∀ x,(y x).cpu=k)(h2:∀ x,(n x).cpu=k):Kp k (ZgD c g t s o f1 f2 y n):=ZhC fun _ _ _=>Zfy (Zfx (h1 _) (h2 _))
theorem Zie {s:Nat}{f1 f2 f3:Bool}{y n:Tk}(h1:y.cpu=k)(h2:n.cpu=k):Kp k (Zhn c g t s f1 f2 f3 y n):=ZhC fun _ _ _=>Zfy (Zfx h1 h2)
set_option maxHeartbeats 2000000 in
theorem ZoW:Kp t.cpu (Zbq c g t):=by
 unfold Zbq
 repeat' first
  | exact Zc0
  | exact Zch rfl
  | exact ZoY rfl
  | exact Zfx rfl rfl
  | exact Zif
  | refine Zib (fun _=>rfl) (fun _=>rfl)
  | exact Zie rfl rfl
  | refine Zfy ?_
  | refine Zjo fun _ => ?_
  | refine kp_slab fun _ => ?_
  | refine kp_obj fun _ => ?_
  | refine Zic fun _ _ => ?_
  | refine Zid fun _ _ => ?_
  | refine ZhC fun _ _ _ => ?_
  | refine ZgN ?_ ?_
  | exact Zch (Zf6 (by assumption))
  | split
set_option maxHeartbeats 2000000 in
theorem ZoX:Kp t.cpu (Zas c g t):=by
 unfold Zas
 repeat' first
  | exact Zc0
  | exact Zch rfl
  | exact ZoY rfl
  | exact Zfx rfl rfl
  | exact Zif
  | refine Zib (fun _=>rfl) (fun _=>rfl)
  | exact Zie rfl rfl
  | refine Zfy ?_
  | refine Zjo fun _ => ?_
  | refine kp_slab fun _ => ?_
  | refine kp_obj fun _ => ?_
  | refine Zic fun _ _ => ?_
  | refine Zid fun _ _ => ?_
  | refine ZhC fun _ _ _ => ?_
  | refine ZgN ?_ ?_
  | exact Zch (Zf6 (by assumption))
  | split
set_option maxHeartbeats 2000000 in
theorem ZoV:Kp t.cpu (ZaD c mn cp g t):=by
 unfold ZaD
 repeat' first
  | exact Zc0
  | exact Zch rfl
  | exact ZoY rfl
  | exact Zfx rfl rfl
  | exact Zif
  | refine Zib (fun _=>rfl) (fun _=>rfl)
  | exact Zie rfl rfl
  | refine Zfy ?_
  | refine Zjo fun _ => ?_
  | refine kp_slab fun _ => ?_
  | refine kp_obj fun _ => ?_
  | refine Zic fun _ _ => ?_
  | refine Zid fun _ _ => ?_
  | refine ZhC fun _ _ _ => ?_
  | refine ZgN ?_ ?_
  | exact Zch (Zf6 (by assumption))
  | split
set_option maxHeartbeats 2000000 in
theorem Znx:Kp t.cpu (Zaf c mn g t):=by
 unfold Zaf
 repeat' first
  | exact Zc0
  | exact Zch rfl
  | exact ZoY rfl
  | exact Zfx rfl rfl
  | exact Zif
  | refine Zib (fun _=>rfl) (fun _=>rfl)
  | exact Zie rfl rfl
  | refine Zfy ?_
  | refine Zjo fun _ => ?_
  | refine kp_slab fun _ => ?_
  | refine kp_obj fun _ => ?_
  | refine Zic fun _ _ => ?_
  | refine Zid fun _ _ => ?_
  | refine ZhC fun _ _ _ => ?_
  | refine ZgN ?_ ?_
  | exact Zch (Zf6 (by assumption))
  | split
theorem Zpp {t':Tk}{g':List Nat}(h:Cv.Zba c mn cp g t=some (t',g')):t'.cpu=t.cpu:=by
 unfold Cv.Zba at h
 split at h
 ·exact ZoW _ _ h
 ·split at h
  ·exact ZoX _ _ h
  ·split at h
   ·exact ZoV _ _ h
   ·exact Znx _ _ h
end
end Go.Proofs.YtfcpdlbkmkhhcaaGreatDoor.Cw

namespace Go.Proofs.YtfcpdlbkmkhhcaaGreatDoor.Cw
open Go Mem See
open Go.RowKit
section
variable {W w w':World}{m l:List (Nat×Obj)}{br bc b0 b1 bt:Nat}{c:Ch}{mn cp cnt n k:Nat}{r r':Cv.Rn}{jv pv:Value}{pb:List (Nat×Obj)}{jobs:List Int}{st st':Cv.St}{t t':Tk}{g':List Nat}{b:Bool}
theorem Zh2 {r5:Cv.Rn}(h1:t'.fin≠0)(h3:t'.fin≠3)(h:¬(t'.job=1∧t'.fin=1)):ZiP W br bc b0 b1 bt c mn cp jv r5 t' r5 :=
 .inr ⟨h1,fun _ _ pv pb _ _ hR=>(Zm9 hR h3 h).mono fun _ _ ⟨h5,h6⟩=>⟨h5,pv,pb,h6⟩⟩
theorem Zkw {jobs:List Int}(h:r.next≤120):(Cv.ZaV c jobs r k).1.next≤120∧(Cv.ZaV c jobs r k).1.none=r.none:=by
 unfold Cv.ZaV
 split
 ·rename_i h2
  split
  ·exact ⟨by show r.next+1≤120; omega,rfl⟩
  ·exact ⟨by show r.next+1≤120; omega,rfl⟩
 ·exact ⟨h,rfl⟩
theorem ZfA (h:ZaQ W br bc b0 b1 bt c mn cp jv r true cnt n pv pb m w)(hj:ZaK W jv jobs)(hwf:∀ j∈jobs,(Lit.int .i64 j).wf=true)(hn:r.next≤120)(I:Cv.RI c mn cp r st)(hkey:c.key<18446744073709551616)(hk:k<c.C)(hT:Ex.ZdY FillTab.gs W)
 (hst:st.n<1000000000) (hcnt:cnt<1000000000) (hnn:n<1000000000) (hrn:r.none<1000000000) (hp:Cv.ZfW c mn cp jobs r k=some (r',b)) :
 r'.next≤120∧r'.none≤r.none+1∧Calls Tryz.prog 12 #[.pointer (some ⟨br,0,Option.none⟩),.int .i64 (k:Int)] w fun e w'=>e = .returned (.bool b)∧∃ pv' pb' cnt' n',cnt'≤cnt+1∧n'≤n+1∧ZaQ W br bc b0 b1 bt c mn cp jv r' true cnt' n' pv' pb' m w':=by
 unfold Cv.ZfW at hp
 cases htk:r.tk k with
 | none =>
   rw [htk] at hp
   have hp:=Option.some.inj hp
   have e1:(Cv.ZaV c jobs r k).1=r':=congrArg Prod.fst hp
   have e2:(Cv.ZaV c jobs r k).2=b:=congrArg Prod.snd hp
   have hb:=Zkw (c:=c) (k:=k) (jobs:=jobs) hn
   rw [e1] at hb
   refine ⟨hb.1,by omega,(ZnX h I hkey hk htk hj hwf hn).mono ?_⟩
   rintro e w' ⟨rfl,pv',pb',n',hn',h'⟩
   rw [e1] at h'
   rw [e2]
   exact ⟨rfl,pv',pb',cnt,n',Nat.le_succ _,hn',h'⟩
 | some t =>
   have ht:st.tk k=some t:=by rw [I.tk]; exact htk
   obtain ⟨-,hL⟩:=I.Z.I.loc k t ht
   rw [htk] at hp
   dsimp only at hp
   by_cases h1:t.want=1
   ·rw [if_pos h1] at hp
    cases hf:Cv.ZbI c r.g r.tk with
    | some s =>
      rw [hf] at hp
      dsimp only at hp
      simp only [Option.some.injEq,Prod.mk.injEq] at hp
      obtain ⟨rfl,rfl⟩:=hp
      refine ⟨hn,Nat.le_succ _,(ZjL (t':={ t with want:=0,slab:=(s:Int),many:=0,pc:=43 }) (r6:={ r with tk:=Cv.upd r.tk k (some { t with want:=0,slab:=(s:Int),many:=0,pc:=43 }) }) h I hkey hk htk h1 hnn hrn hf rfl (.inl ⟨hL.fin,?_⟩)).mono ?_⟩
      ·have:Cv.stop { t with want:=0,slab:=(s:Int),many:=0,pc:=43 }=some { t with want:=0,slab:=(s:Int),many:=0,pc:=43 }:=if_pos hL.fin
       rw [this]
      ·rintro e w' ⟨rfl,pv',pb',h'⟩
       exact ⟨rfl,pv',pb',cnt,n+1,Nat.le_succ _,Nat.le_refl _,h'⟩
    | none =>
      rw [hf] at hp
      dsimp only at hp
      simp only [Option.some.injEq,Prod.mk.injEq] at hp
      obtain ⟨rfl,rfl⟩:=hp
      refine ⟨hn,Nat.le_refl _,(ZjK (t':={ t with want:=0,fin:=2 }) (r6:={ r with none:=r.none+1,tk:=Cv.upd r.tk k Option.none }) h I hkey hk htk h1 hnn hrn hf rfl ?_).mono ?_⟩
      ·have:Cv.stop { t with want:=0,fin:=2 }=Option.none:=if_neg (show ¬(2:Int)=0 by decide)
       rw [this]
       exact Zh2 (show (2:Int)≠0 by decide) (show (2:Int)≠3 by decide) (fun e=>absurd e.2 (show (2:Int)≠1 by decide))
      ·rintro e w' ⟨rfl,pv',pb',h'⟩
       exact ⟨rfl,pv',pb',cnt,n+1,Nat.le_succ _,Nat.le_refl _,h'⟩
   ·rw [if_neg h1] at hp
    by_cases h2:t.want=2
    ·rw [if_pos h2] at hp
     obtain ⟨t',hg,-,-,hfin,hjob,hj1,-⟩:=Cv.Zlu I.Z ht h2
     rw [hg] at hp
     dsimp only at hp
     simp only [Option.some.injEq,Prod.mk.injEq] at hp
     obtain ⟨rfl,rfl⟩:=hp
     have hcpu:t'.cpu=t.cpu:=by
      unfold Zb2 at hg
      dsimp only at hg
      split at hg
      ·cases hg; rfl
      ·split at hg
       ·cases hg; rfl
       ·split at hg
        ·cases hg; rfl
        ·split at hg
         ·split at hg
          ·cases hg; rfl
          ·cases hg; rfl
         ·cases hg
     refine ⟨hn,Nat.le_succ _,(Zms (r6:={ r with tk:=Cv.upd r.tk k (Cv.stop t') }) h I hkey hk htk h2 hT hg hcpu ?_).mono ?_⟩
     ·rcases hfin with hf | hf
      ·exact .inl ⟨hf,rfl⟩
      ·exact Zh2 (by omega) (by omega) (fun e=>hj1 (by rw [← hjob]; exact e.1))
     ·rintro e w' ⟨rfl,pv',pb',h'⟩
      exact ⟨rfl,pv',pb',cnt,n+1,Nat.le_succ _,Nat.le_refl _,h'⟩
    ·rw [if_neg h2] at hp
     have h0:t.want=0:=by
      rcases hL.want with h | h | h
      ·exact h
      ·exact absurd h.2 h1
      ·exact absurd h.2 h2
     obtain ⟨t',g',st',hR⟩:=Cv.step_ok (I.Z.cx ht hst) h0
     rw [hR.step] at hp
     dsimp only at hp
     simp only [Option.some.injEq,Prod.mk.injEq] at hp
     obtain ⟨rfl,rfl⟩:=hp
     have hcpu:t'.cpu=t.cpu:=Zpp hR.step
     have hnx:∀ r5:Cv.Rn,(Cv.Zca r5 t').next=r5.next∧(Cv.Zca r5 t').none=r5.none:=fun r5=>by
      unfold Cv.Zca
      split <;> exact ⟨rfl,rfl⟩
     refine ⟨by rw [(hnx _).1]; exact hn,by rw [(hnx _).2]; exact Nat.le_succ _,(ZnY (r6:=Cv.Zca { r with g:=g',tk:=Cv.upd r.tk k (Cv.stop t') } t') h I hkey hk htk h0 hT hcnt hR.step hcpu ?_).mono ?_⟩
     ·rcases hR.fin with hf | hf
      ·exact .inl ⟨hf,if_neg (fun e=>by rw [hf] at e; cases e.2)⟩
      ·by_cases hjb:t'.job=1
       ·refine .inr ⟨by omega,fun cnt n pv pb m w hS => ?_⟩
        have hout:=hR.out
        rw [if_pos ⟨hR.job ▸ hjb,hf⟩] at hout
        obtain ⟨s0,o0,e1,e2,hs0,ho0,hno,-⟩:=hout
        have hen:Cv.Zca { r with g:=g',tk:=Cv.upd r.tk k (Cv.stop t') } t'={ g:=g',tk:=Cv.upd r.tk k (Cv.stop t'),next:=r.next,out:=fun x=>if x=16 * s0+o0 then true else r.out x,pile:=r.pile++[16 * s0+o0],none:=r.none }:=by
              unfold Cv.Zca
              rw [if_pos ⟨hjb,hf⟩,show 16 * t'.slab.toNat+t'.obj.toNat=16 * s0+o0 by omega]
        rw [hen]
        have hO:=I.Z.O
        have hSS:=I.Z.S
        have hfl:r.out (16 * s0+o0)=false:=by
              cases hx:r.out (16 * s0+o0) with
              | false=>rfl
              | true=>exact absurd ((I.out s0 o0 (by omega)).1 hx) hno
        exact Zna hS hjb hf e1 e2 hs0 ho0 ⟨hSS.2,hO.2⟩ hfl (by have:=ZlR I; show r.pile.length≤1000; omega)
       ·have hen:Cv.Zca { r with g:=g',tk:=Cv.upd r.tk k (Cv.stop t') } t'={ r with g:=g',tk:=Cv.upd r.tk k (Cv.stop t') }:=if_neg (fun e=>hjb e.1)
        rw [hen]
        exact Zh2 (by omega) (by omega) (fun e=>hjb e.1)
     ·rintro e w' ⟨rfl,pv',pb',h'⟩
      exact ⟨rfl,pv',pb',cnt+1,n+1,Nat.le_refl _,Nat.le_refl _,h'⟩
end
end Go.Proofs.YtfcpdlbkmkhhcaaGreatDoor.Cw

namespace Go.Proofs.YtfcpdlbkmkhhcaaGreatDoor.Cw
open Go Mem See
open Go.RowKit
section
variable {bc:Nat}{c:Ch}{mn cp:Nat}{A:Option Addr}{nj kj:Nat}
theorem ZjS (w:World):(Instr.build 35 #[(0,.pointer (some ⟨bc,0,Option.none⟩)),(1,chW c mn cp),(2,.slice A nj kj),(7,.bool true)]).run Tryz.prog w = .ok (.agg (Zg5 bc c mn cp (.slice A nj kj) 0 (fun _=>false) (.slice Option.none 0 0) 0 true).toArray) w:=by kernel_rfl
theorem Zmy (w:World):(Instr.box 35 (.agg (Zg5 bc c mn cp (.slice A nj kj) 0 (fun _=>false) (.slice Option.none 0 0) 0 true).toArray)).run Tryz.prog w = .ok (.pointer (some ⟨w.heap.size,0,Option.none⟩)) (w.alloc (Zep 0 bc c mn cp (.slice A nj kj) 0 (fun _=>false) (.slice Option.none 0 0) 0 true).2):=by kernel_rfl
end
end Go.Proofs.YtfcpdlbkmkhhcaaGreatDoor.Cw

namespace Go.Proofs.YtfcpdlbkmkhhcaaGreatDoor.Cw
open Go Mem See
open Go.RowKit
open Apart (chV chB ZrX Ztj)
attribute [local go_sem ↓] Go.wp_at_zero Go.wp_at_succ
section
variable {W w:World}{m:List (Nat×Obj)}{c:Ch}{mn cp:Nat}
theorem Zua {α:Type}(a b d x y:α)(l:List α):(a::b::x::y::d::l).Perm (a::x::y::b::d::l):=by
 classical
 rw [List.perm_iff_count]
 intro q
 simp only [List.count_cons]
 omega
set_option maxRecDepth 100000 in
set_option maxHeartbeats 1000000 in
theorem Zm1 (h:Own W m w)(hc:COk c (mn:Int) (cp:Int))(hw:c.words≤4096)(hw1:1≤c.words) :
 Calls Tryz.prog 11 #[chW c mn cp] w fun e w'=>∃ bc b0 b1 bt,e = .returned (.tuple #[.pointer (some ⟨bc,0,Option.none⟩),.int .i64 0])∧Own W (crB bc b0 bt c mn cp::mB b0 b1 c.words 0::wB b1 (List.replicate c.words 0)::(bt,.map #[] 0)::m) w':=by
 have h1:=h.new (.cells #[.int .i64 c.C,.int .i64 c.S,.int .i64 c.O,.int .i64 (mn:Int),.int .i64 (cp:Int),.int .u64 c.key] 24)
 obtain ⟨b,hb⟩:∃ b,w.heap.size=b:=⟨_,rfl⟩
 rw [hb] at h1
 have h1:Own W (chB b c.C c.S c.O mn cp c.key::m) _:=h1
 obtain ⟨y0,y1,y2,y3,y4,y5⟩:=ZrX h1
 have HC:=Lib.hid hc
 have H1:=Lib.hid h1
 have HW:=Lib.hid hw
 have HW1:=Lib.hid hw1
 have HWQ:=Lib.hid (Zpv c)
 clear h h1 hc hw hw1
 unfold chW
 go_enter Tryz.func11,Tryz.ntmps11
 go_wp2_with fail
 refine (Apart.Zox HC.out.ok H1.out).mono ?_
 rintro r w2 ⟨rfl,h2⟩
 clear y0 y1 y2 y3 y4 y5
 obtain ⟨y0,y1,y2,y3,y4,y5⟩:=ZrX h2
 go_wp2_with fail
 refine (Apart.Zpw HC.out.ok h2).mono ?_
 rintro r w3 ⟨rfl,h3⟩
 rw [HWQ.out]
 clear y0 y1 y2 y3 y4 y5 h2
 go_wp2_with fail
 refine (Zo5 h3 HW1.out HW.out).mono ?_
 rintro r w4 ⟨b0,b1,rfl,h4⟩
 obtain ⟨y0,y1,y2,y3,y4,y5⟩:=ZrX h4.skip.skip
 have H4:=Lib.hid h4
 clear h3 h4 hb
 have hmm:=fun w:World=>run_makeMap (P:=Tryz.prog) 69 w
 go_wp2_with fail
 have h6:=(H4.out.new (.map #[] 0)).new (.cells #[.int .i64 (c.C:Int),.int .i64 (c.S:Int),.int .i64 (c.O:Int),.int .i64 (mn:Int),.int .i64 (cp:Int),.int .u64 (c.key:Int),.pointer (some ⟨b0,0,Option.none⟩),.map (some w4.heap.size)] 71)
 rw [World.size_alloc] at h6
 have h7:Own W (crB (w4.heap.size+1) b0 w4.heap.size c mn cp::mB b0 b1 c.words 0::wB b1 (List.replicate c.words 0)::(w4.heap.size,.map #[] 0)::m) _:=(h6.perm (Zua _ _ _ _ _ _)).sub (((((List.Sublist.refl m).cons _).cons_cons _).cons_cons _).cons_cons _ |>.cons_cons _)
 go_ret2
 exact ⟨_,_,_,_,rfl,h7⟩
end
end Go.Proofs.YtfcpdlbkmkhhcaaGreatDoor.Cw
