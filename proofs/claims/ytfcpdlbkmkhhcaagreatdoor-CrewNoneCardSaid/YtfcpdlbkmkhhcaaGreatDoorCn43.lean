/-
  Texts of this claim, joined. No condition.
-/
import Derived.Test.YtfcpdlbkmkhhcaaGreatDoorCn42
import Derived.Test.YtfcpdlbkmkhhcaaGreatDoorCn17
import Derived.BigQuiet
import Derived.Deep.RegionHeld3
import Derived.Deep.RegionLaw
namespace Go.Proofs.YtfcpdlbkmkhhcaaGreatDoor.Cw
open Go Mem See
open Go.RowKit
section
variable {W w w':World}{m l:List (Nat×Obj)}{br bc b0 b1 bt:Nat}{c:Ch}{mn cp cnt n k:Nat}{r:Cv.Rn}{jv pv:Value}{pb:List (Nat×Obj)}{jobs:List Int}{st:Cv.St}
theorem ZkY (I:Cv.RI c mn cp r st):∀ x∈r.pile,x<512∧x / 16<c.S∧x % 16<c.O:=by
 intro x hx
 have h1:=(I.mem x).1 hx
 have e:x=16 * (x / 16)+x % 16:=by omega
 rw [e] at h1
 have h2:=(I.out _ _ (by omega)).1 h1
 have h3:=I.Z.I.G.ob _ _ (by rw [h2]; intro h; cases h)
 have h4:=I.Z.S
 exact ⟨by omega,h3.1,h3.2⟩
theorem ZlR (I:Cv.RI c mn cp r st):r.pile.length≤512:=by
 have:=Cv.ZiD (m:=List.range 512) I.nd fun x hx=>List.mem_range.2 (ZkY I x hx).1
 rwa [List.length_range] at this
theorem ZrY {j:Int}{n:Nat}(h:1≤n):j % (n:Int)=((Cv.brg j n:Nat):Int):=ZeV h
theorem Zl7 (h:ZaQ W br bc b0 b1 bt c mn cp jv r true cnt n pv pb m w)(hj:ZaK W jv jobs)(hwf:∀ j∈jobs,(Lit.int .i64 j).wf=true)(hn:r.next≤120)(I:Cv.RI c mn cp r st)(hkey:c.key<18446744073709551616)(hk:k<c.C)(htk:r.tk k=Option.none) :
 Calls Tryz.prog 23 #[.pointer (some ⟨br,0,Option.none⟩),.int .i64 (k:Int)] w fun e w'=>e = .returned (.bool (Cv.ZaV c jobs r k).2)∧∃ pv' pb' n',n'≤n+1∧ZaQ W br bc b0 b1 bt c mn cp jv (Cv.ZaV c jobs r k).1 true cnt n' pv' pb' m w':=by
 have hC:=I.Z.C
 by_cases hmore:r.next<jobs.length∧r.next<120
 ·obtain ⟨j,hjj⟩:∃ j,jobs[r.next]?=some j:=⟨_,List.getElem?_eq_getElem hmore.1⟩
  have hw:=hwf j (List.mem_of_getElem? hjj)
  have hJ:j % 16=((Cv.brg j 16:Nat):Int):=ZrY (n:=16) (by omega)
  have hgd:jobs.getD r.next 0=j:=by rw [List.getD_eq_getElem?_getD,hjj]; rfl
  have hlt:=Cv.ZcQ (i:=j) (n:=16) (by omega)
  by_cases h15:Cv.brg j 16=15
  ·refine (Zkx h hj hmore.2 hjj hw hJ (by rw [h15]; rfl) hC.2 hk htk).mono ?_
   rintro e w' ⟨rfl,h'⟩
   have hb:Cv.ZaV c jobs r k=({ r with next:=r.next+1,tk:=Cv.upd r.tk k (some (Cv.ZmB k)) },true):=by
    unfold Cv.ZaV Cv.Znt
    rw [if_pos hmore,hgd,if_pos h15]
   rw [hb]
   exact ⟨rfl,pv,pb,n+1,Nat.le_refl _,h'⟩
  ·by_cases h14:Cv.brg j 16=14
   ·refine (Zi0 h hj hmore.2 hjj hw hJ (by rw [h14]; rfl) hC.1 hC.2 hk htk).mono ?_
    rintro e w' ⟨rfl,h'⟩
    have hb:Cv.ZaV c jobs r k=({ r with next:=r.next+1,tk:=Cv.upd r.tk k (some (Cv.ZhT k (Cv.brg (j.tdiv 16) c.C))) },true):=by
     unfold Cv.ZaV Cv.Znt
     rw [if_pos hmore,hgd,if_neg h15,if_pos h14]
    rw [hb]
    exact ⟨rfl,pv,pb,n+1,Nat.le_refl _,h'⟩
   ·by_cases h8:8≤Cv.brg j 16
    ·by_cases hp:r.pile=[]
     ·refine (ZhY h hj hmore.2 hjj hw hJ (by omega) (by omega) (by omega) hp hC.2 hk htk).mono ?_
      rintro e w' ⟨rfl,h'⟩
      have hb:Cv.ZaV c jobs r k=({ r with next:=r.next+1,tk:=Cv.upd r.tk k (some (Cv.Zfj k)) },true):=by
              unfold Cv.ZaV Cv.Znt
              rw [if_pos hmore,hgd,if_neg h15,if_neg h14,if_neg (fun e=>e.2 hp)]
      rw [hb]
      exact ⟨rfl,pv,pb,n+1,Nat.le_refl _,h'⟩
     ·have hpl:0<r.pile.length:=List.length_pos_iff.2 hp
      refine (Zkv h hj hmore.2 hjj hw hJ (by omega) (by omega) (by omega) hpl (by have:=ZlR I; omega) (fun x hx=>(ZkY I x hx).1) (fun x hx=>(ZkY I x hx).2) (Ztp I.Z hkey) hC.2 hk htk).mono ?_
      rintro e w' ⟨rfl,pv',pb',h'⟩
      have hb:Cv.ZaV c jobs r k=({ r with next:=r.next+1,tk:=Cv.upd r.tk k (some (Cv.Zk8 k (r.pile.getD (Cv.brg (j.tdiv 16) r.pile.length) 0))),pile:=Cv.ZdL r.pile (Cv.brg (j.tdiv 16) r.pile.length),out:=fun y=>if y=r.pile.getD (Cv.brg (j.tdiv 16) r.pile.length) 0 then false else r.out y },true):=by
              unfold Cv.ZaV Cv.Znt
              rw [if_pos hmore,hgd,if_neg h15,if_neg h14,if_pos ⟨h8,hp⟩]
      rw [hb]
      exact ⟨rfl,pv',pb',n+1,Nat.le_refl _,h'⟩
    ·refine (ZiZ h hj hmore.2 hjj hw hJ (by omega) (by omega) (by omega) hC.2 hk htk).mono ?_
     rintro e w' ⟨rfl,h'⟩
     have hb:Cv.ZaV c jobs r k=({ r with next:=r.next+1,tk:=Cv.upd r.tk k (some (Cv.Zfj k)) },true):=by
      unfold Cv.ZaV Cv.Znt
      rw [if_pos hmore,hgd,if_neg h15,if_neg h14,if_neg (fun e=>h8 e.1)]
     rw [hb]
     exact ⟨rfl,pv,pb,n+1,Nat.le_refl _,h'⟩
 ·refine (ZmU h hj hn hmore).mono ?_
  rintro e w' ⟨rfl,h'⟩
  have hb:Cv.ZaV c jobs r k=(r,false):=if_neg hmore
  rw [hb]
  exact ⟨rfl,pv,pb,n,Nat.le_succ _,h'⟩
end
end Go.Proofs.YtfcpdlbkmkhhcaaGreatDoor.Cw

namespace Go.Proofs.YtfcpdlbkmkhhcaaGreatDoor.Cw
open Go Mem See
open Go.RowKit
attribute [local go_sem ↓] Go.wp_at_zero Go.wp_at_succ
section
variable {W w w':World}{m l:List (Nat×Obj)}{br bc b0 b1 bt:Nat}{c:Ch}{mn cp cnt n k:Nat}{r:Cv.Rn}{jv pv:Value}{pb:List (Nat×Obj)}{t:Tk}
theorem ZaQ.ZaB {B:Nat}{good:Bool}(h:ZaQ W br bc b0 b1 bt c mn cp jv r good cnt n pv pb (tB B t::m) w):∃ M,Own W (tB B t::M) w:=by
 obtain ⟨M,hM⟩:=h.own
 exact ⟨_,hM⟩
theorem ZaQ.neB {B:Nat}{o:Obj}{good:Bool}(h:ZaQ W br bc b0 b1 bt c mn cp jv r good cnt n pv pb ((B,o)::m) w):B≠br:=by
 obtain ⟨es,ck,hv,hO⟩:=h.o
 exact hO.skip.skip.skip.skip.ne (o':=o) (by simp)
set_option maxRecDepth 100000 in
set_option maxHeartbeats 8000000 in
theorem Zm9 (h:ZaQ W br bc b0 b1 bt c mn cp jv r true cnt n pv pb m w)(hfin:t.fin≠3)(hno:¬(t.job=1∧t.fin=1)) :
 Calls Tryz.prog 27 #[.pointer (some ⟨br,0,Option.none⟩),tkV t] w fun e w'=>e = .returned (.tuple #[])∧ZaQ W br bc b0 b1 bt c mn cp jv r true cnt n pv pb m w':=by
 have h1:=h.alloc (.cells (tkA t) 59)
 obtain ⟨B,hB⟩:∃ B,w.heap.size=B:=⟨_,rfl⟩
 rw [hB] at h1
 obtain ⟨wa,hwa⟩:∃ wa,w.alloc (.cells (tkA t) 59)=wa:=⟨_,rfl⟩
 rw [hwa] at h1
 have h1:ZaQ W br bc b0 b1 bt c mn cp jv r true cnt n pv pb (tB B t::m) wa:=h1
 have H1:=Lib.hid h1
 obtain ⟨⟨y0,y1,y2,y3,y4,y5,y6,y7,y8,y9,y10,y11⟩,-,f⟩:=h1.box
 have f523:=f 523
 obtain ⟨M1,hM1⟩:=h1.ZaB
 obtain ⟨⟨x0,x1,x2,x3,x4,x5,x6,x7,x8,x9,x10,x11,x12,x13,x14,x15,x16⟩,-⟩:=Za8 (t:=t) hM1
 have d3:(t.fin != 3)=true:=by simpa using hfin
 have HNE:=Lib.hid h1.neB
 unfold tkA at hwa
 clear h h1 f hM1 hfin
 unfold tkV
 go_enter Tryz.func27,Tryz.ntmps27
 by_cases hj:t.job=1
 ·have q1:(t.job != 1)=false:=by simpa using hj
  have q2:(t.fin != 1)=true:=by
   have:t.fin≠1:=fun e=>hno ⟨hj,e⟩
   simpa using this
  clear hj hno
  go_upto_region 2 with fail
  clear hB hwa
  have H2:Hid (ZaQ W br bc b0 b1 bt c mn cp jv r true cnt n pv pb (tB B t::m) (wa.setCell ⟨br,523,Option.none⟩ (.bool true))):=⟨H1.out.p,Zbu H1.out.o fun M hM=>Zbw hM true⟩
  generalize wa.setCell ⟨br,523,Option.none⟩ (.bool true)=wb at H2 ⊢
  clear x0 x1 x2 x3 x4 x5 x6 x7 x8 x9 x10 x11 x12 x13 x14 x15 x16
  obtain ⟨M1,hM1⟩:=H2.out.ZaB
  obtain ⟨⟨x0,x1,x2,x3,x4,x5,x6,x7,x8,x9,x10,x11,x12,x13,x14,x15,x16⟩,-⟩:=Za8 (t:=t) hM1
  clear hM1
  go_wp2_with fail
  exact bodyPost_ret (v:=.tuple #[]) (by simp [results,Tryz.f27,go_sem]) rfl ⟨rfl,H2.out.sub (List.sublist_cons_self _ _)⟩
 ·have q1:(t.job != 1)=true:=by simpa using hj
  clear hj hno
  go_upto_region 2 with fail
  clear hB hwa
  have H2:Hid (ZaQ W br bc b0 b1 bt c mn cp jv r true cnt n pv pb (tB B t::m) (wa.setCell ⟨br,523,Option.none⟩ (.bool true))):=⟨H1.out.p,Zbu H1.out.o fun M hM=>Zbw hM true⟩
  generalize wa.setCell ⟨br,523,Option.none⟩ (.bool true)=wb at H2 ⊢
  clear x0 x1 x2 x3 x4 x5 x6 x7 x8 x9 x10 x11 x12 x13 x14 x15 x16
  obtain ⟨M1,hM1⟩:=H2.out.ZaB
  obtain ⟨⟨x0,x1,x2,x3,x4,x5,x6,x7,x8,x9,x10,x11,x12,x13,x14,x15,x16⟩,-⟩:=Za8 (t:=t) hM1
  clear hM1
  go_wp2_with fail
  exact bodyPost_ret (v:=.tuple #[]) (by simp [results,Tryz.f27,go_sem]) rfl ⟨rfl,H2.out.sub (List.sublist_cons_self _ _)⟩
set_option maxRecDepth 100000 in
set_option maxHeartbeats 40000000 in
theorem Zna {s o:Nat}(h:ZaQ W br bc b0 b1 bt c mn cp jv r true cnt n pv pb m w)(hj:t.job=1)(hf:t.fin=1)(hs:t.slab=(s:Int))(ho:t.obj=(o:Int))(hS:s<c.S)(hO:o<c.O)(hc:c.S≤32∧c.O≤16)(hout:r.out (16 * s+o)=false)(hPB:r.pile.length≤1000) :
 Calls Tryz.prog 27 #[.pointer (some ⟨br,0,Option.none⟩),tkV t] w fun e w'=>e = .returned (.tuple #[])∧∃ pv' pb',ZaQ W br bc b0 b1 bt c mn cp jv { r with out:=fun y=>if y=16 * s+o then true else r.out y,pile:=r.pile++[16 * s+o] } true cnt n pv' pb' m w':=by
 have hfin:t.fin≠3:=by omega
 have h1:=h.alloc (.cells (tkA t) 59)
 obtain ⟨B,hB⟩:∃ B,w.heap.size=B:=⟨_,rfl⟩
 rw [hB] at h1
 obtain ⟨wa,hwa⟩:∃ wa,w.alloc (.cells (tkA t) 59)=wa:=⟨_,rfl⟩
 rw [hwa] at h1
 have h1:ZaQ W br bc b0 b1 bt c mn cp jv r true cnt n pv pb (tB B t::m) wa:=h1
 have H1:=Lib.hid h1
 obtain ⟨⟨y0,y1,y2,y3,y4,y5,y6,y7,y8,y9,y10,y11⟩,-,f⟩:=h1.box
 have f523:=f 523
 obtain ⟨M1,hM1⟩:=h1.ZaB
 obtain ⟨⟨x0,x1,x2,x3,x4,x5,x6,x7,x8,x9,x10,x11,x12,x13,x14,x15,x16⟩,-⟩:=Za8 (t:=t) hM1
 have d3:(t.fin != 3)=true:=by simpa using hfin
 have HNE:=Lib.hid h1.neB
 unfold tkA at hwa
 clear h h1 f hM1 hfin
 have q1:(t.job != 1)=false:=by rw [hj]; rfl
 have q2:(t.fin != 1)=false:=by rw [hf]; rfl
 have HSS:=Lib.hid hs
 have HOO:=Lib.hid ho
 have HPB:=Lib.hid hPB
 have HSc:=Lib.hid hS
 have HOc:=Lib.hid hO
 have HC:=Lib.hid hc
 have HOUT:=Lib.hid hout
 clear hs ho hPB hS hO hc hout hj hf
 unfold tkV
 go_enter Tryz.func27,Tryz.ntmps27
 go_upto_region 2 with fail
 clear hB hwa
 have H2:Hid (ZaQ W br bc b0 b1 bt c mn cp jv r true cnt n pv pb (tB B t::m) (wa.setCell ⟨br,523,Option.none⟩ (.bool true))):=⟨H1.out.p,Zbu H1.out.o fun M hM=>Zbw hM true⟩
 generalize wa.setCell ⟨br,523,Option.none⟩ (.bool true)=wb at H2 ⊢
 clear x0 x1 x2 x3 x4 x5 x6 x7 x8 x9 x10 x11 x12 x13 x14 x15 x16 y0 y1 y2 y3 y4 y5 y6 y7 y8 y9 y10 y11 f523 H1
 obtain ⟨M1,hM1⟩:=H2.out.ZaB
 obtain ⟨⟨x0,x1,x2,x3,x4,x5,x6,x7,x8,x9,x10,x11,x12,x13,x14,x15,x16⟩,-⟩:=Za8 (t:=t) hM1
 clear hM1
 go_upto_region 3 with fail
 obtain ⟨p1,hp1⟩:∃ p1,16 * s=p1:=⟨_,rfl⟩
 obtain ⟨p2,hp2⟩:∃ p2,p1+o=p2:=⟨_,rfl⟩
 have HP2:Hid (16 * s+o=p2):=by rw [hp1]; exact Lib.hid hp2
 have h512:p2<512:=by
  have:=HSc.out
  have:=HOc.out
  have:=HC.out
  omega
 have e1:IntKind.i64.wrap (16 * (s:Int))=(p1:Int):=by rw [Ex.Zbe (by omega) (by omega)]; omega
 have e2:IntKind.i64.wrap ((p1:Int)+(o:Int))=(p2:Int):=by rw [Ex.Zbe (by omega) (by omega)]; omega
 have i1:(0:Int)≤(p2:Int):=by omega
 have i2:(p2:Int)<512:=by omega
 have g1:decide ((s:Int)<0)=false:=decide_eq_false (by omega)
 have g2:decide ((o:Int)<0)=false:=decide_eq_false (by omega)
 have g3:decide (c.S≤s)=false:=decide_eq_false (by have:=HSc.out; omega)
 have g4:decide (c.O≤o)=false:=decide_eq_false (by have:=HOc.out; omega)
 have g5:decide ((c.S:Int)≤(s:Int))=false:=decide_eq_false (by have:=HSc.out; omega)
 have g6:decide ((c.O:Int)≤(o:Int))=false:=decide_eq_false (by have:=HOc.out; omega)
 rw [HSS.out] at x5
 rw [HOO.out] at x6
 have HX5:Hid (t.slab=(s:Int)):=HSS
 have H512:=Lib.hid h512
 obtain ⟨⟨y0,y1,y2,y3,y4,y5,y6,y7,y8,y9,y10,y11⟩,yo,-⟩:=H2.out.box
 have yp:=yo p2 h512
 rw [← HP2.out,HOUT.out,HP2.out] at yp
 clear x0 x1 x2 x3 x4 x7 x8 x9 x10 x11 x12 x13 x14 x15 x16 hp1 hp2 h512 yo y0 y4 y5 y6 y7 y8 y9 y10 y11 q1 q2 d3
 go_quiet (fail)
 have H3:=Lib.hid (H2.out.drewN nq)
 clear H2 x5 x6 y1 y2 y3 yp g1 g2 g3 g4 g5 g6
 generalize wb.drewN nq=wc at H3 ⊢
 obtain ⟨M1,hM1⟩:=H3.out.ZaB
 obtain ⟨⟨-,-,-,-,-,x5,x6,-⟩,-⟩:=Za8 (t:=t) hM1
 rw [HSS.out] at x5
 rw [HOO.out] at x6
 obtain ⟨-,yo,f⟩:=H3.out.box
 have yp:=yo p2 H512.out
 have fp:=f (9+p2)
 clear hM1 yo f
 go_upto_region 5 with fail
 go_region
 have H4:Hid (ZaQ W br bc b0 b1 bt c mn cp jv { r with out:=fun y=>if y=p2 then true else r.out y } true cnt n pv pb (tB B t::m) (wc.setCell ⟨br,9+p2,Option.none⟩ (.bool true)).drew):=⟨H3.out.p,Zlk (Zbu H3.out.o fun M hM=>ZhP hM H512.out true)⟩
 clear H3 x5 x6 yp fp
 generalize (wc.setCell ⟨br,9+p2,Option.none⟩ (.bool true)).drew=wd at H4 ⊢
 obtain ⟨M1,hM1⟩:=H4.out.ZaB
 obtain ⟨⟨-,-,-,-,-,x5,x6,-⟩,-⟩:=Za8 (t:=t) hM1
 rw [HSS.out] at x5
 rw [HOO.out] at x6
 obtain ⟨⟨y0,y1,y2,y3,y4,y5,y6,y7,y8,y9,y10,y11⟩,-,f⟩:=H4.out.box
 clear hM1 y0 y1 y2 y3 y4 y5 y6 y7 y8 y10 y11 f
 go_upto_region 6 with fail
 have HP:=Lib.hid H4.out.p
 obtain ⟨es,ck,hv,hO4⟩:=H4.out.o
 have HV:=Lib.hid hv
 have HA:=Lib.hid (hO4.drew.perm (m':=pb++(crB bc b0 bt c mn cp::(bt,.map es ck)::mB b0 b1 r.g.length cnt::wB b1 r.g::Zep br bc c mn cp jv r.next (fun y=>if y=p2 then true else r.out y) pv r.none true::tB B t::m)) (Zao fun _ q=>by simp only [List.count_cons,List.count_append]; omega))
 have y9a:(wd.drew.alloc (.cells #[.int .i64 (p2:Int)] 3)).cell? ⟨br,521,Option.none⟩=some pv:=(Zft (HA.out.alloc _ |>.Zfu.skip.skip.skip.skip)).1.2.2.2.2.2.2.2.2.2.1
 have y9b:((wd.alloc (.cells #[.int .i64 (p2:Int)] 3)).drew).cell? ⟨br,521,Option.none⟩=some pv:=y9a
 clear hv hO4 i1 i2
 go_region_law (first
  | ((refine ZiC (l':=[(p2:Int)]) rfl _ _ rfl rfl rfl HP.out (HA.out.alloc _) (Zoc _ _) (by rw [Zc7]; have:=HPB.out; show r.pile.length+1≤60000; omega) ?_); intro v' w6 bs' k1 k2; obtain ⟨A6,c6,rfl,-,-⟩:=SlO.slice k1; have K1:=Lib.hid k1; have H6R:Hid (Own W (Zep br bc c mn cp jv r.next (fun y=>if y=p2 then true else r.out y) pv r.none true::crB bc b0 bt c mn cp::(bt,.map es ck)::mB b0 b1 r.g.length cnt::wB b1 r.g::tB B t::(bs'++m)) w6):=k2.perm (Zao fun _ q=>by simp only [List.count_cons,List.count_append]; omega); obtain ⟨⟨-,-,-,-,-,-,-,-,-,u9,-,-⟩,-,uf⟩:=Zft H6R.out; have uf521:=uf 521; clear k1 k2 uf))
 all_goals
  refine bodyPost_end (v:=.tuple #[]) (by simp [results,Tryz.f27,go_sem]) rfl ⟨rfl,.slice A6 ((pI r.pile).length+1) c6,bs',?_⟩
  have hfin:ZaQ W br bc b0 b1 bt c mn cp jv { r with out:=fun y=>if y=p2 then true else r.out y,pile:=r.pile++[p2] } true cnt n (.slice A6 ((pI r.pile).length+1) c6) bs' m (w6.setCell ⟨br,521,Option.none⟩ (.slice A6 ((pI r.pile).length+1) c6)):=by
   refine ⟨?_,es,ck,HV.out,?_⟩
   ·show Zcu true _ (pI (r.pile++[p2])) bs'
    rw [show pI (r.pile++[p2])=pI r.pile++[(p2:Int)] by simp [pI]]
    have e:(pI r.pile).length+1=(pI r.pile++[(p2:Int)]).length:=by simp
    rw [e]
    exact K1.out
   ·have k:=ZeK H6R.out (.slice A6 ((pI r.pile).length+1) c6)
    exact (k.perm (m':=tB B t::crB bc b0 bt c mn cp::(bt,.map es ck)::mB b0 b1 r.g.length cnt::wB b1 r.g::Zep br bc c mn cp jv r.next (fun y=>if y=p2 then true else r.out y) (.slice A6 ((pI r.pile).length+1) c6) r.none true::(bs'++m)) (Zao fun _ q=>by simp only [List.count_cons,List.count_append]; omega)).skip
  rw [HP2.out]
  exact hfin
end
end Go.Proofs.YtfcpdlbkmkhhcaaGreatDoor.Cw

namespace Go.Proofs.YtfcpdlbkmkhhcaaGreatDoor.Cw
open Go Mem See
open Go.RowKit
attribute [local go_sem ↓] Go.wp_at_zero Go.wp_at_succ
section
variable {W w w':World}{m l:List (Nat×Obj)}{br bc b0 b1 bt:Nat}{c:Ch}{mn cp cnt n k:Nat}{r:Cv.Rn}{jv pv:Value}{pb:List (Nat×Obj)}{jobs:List Int}{st st':Cv.St}{t t':Tk}{g':List Nat}
theorem ZaQ.Zio {x:Nat×Obj}{good:Bool}(h:ZaQ W br bc b0 b1 bt c mn cp jv r good cnt n pv pb (x::m) w):∃ M,Own W (x::M) w∧∀ y w',Own W (y::M) w'→ZaQ W br bc b0 b1 bt c mn cp jv r good cnt n pv pb (y::m) w':=by
 obtain ⟨es,ck,hv,hO⟩:=h.o
 refine ⟨crB bc b0 bt c mn cp::(bt,.map es ck)::mB b0 b1 r.g.length cnt::wB b1 r.g::Zep br bc c mn cp jv r.next r.out pv r.none good::(pb++m),hO.perm (Zao fun _ q=>by simp only [List.count_cons,List.count_append]; omega),fun y w' h'=>⟨h.p,es,ck,hv,h'.perm (Zao fun _ q=>by simp only [List.count_cons,List.count_append]; omega)⟩⟩
set_option maxRecDepth 100000 in
set_option maxHeartbeats 40000000 in
theorem ZnX (h:ZaQ W br bc b0 b1 bt c mn cp jv r true cnt n pv pb m w)(I:Cv.RI c mn cp r st)(hkey:c.key<18446744073709551616)(hk:k<c.C)(htk:r.tk k=Option.none)(hj:ZaK W jv jobs)(hwf:∀ j∈jobs,(Lit.int .i64 j).wf=true)(hn:r.next≤120) :
 Calls Tryz.prog 12 #[.pointer (some ⟨br,0,Option.none⟩),.int .i64 (k:Int)] w fun e w'=>e = .returned (.bool (Cv.ZaV c jobs r k).2)∧∃ pv' pb' n',n'≤n+1∧ZaQ W br bc b0 b1 bt c mn cp jv (Cv.ZaV c jobs r k).1 true cnt n' pv' pb' m w':=by
 have HJ:=Lib.hid hj
 have HWF:=Lib.hid hwf
 have HN:=Lib.hid hn
 have H:=Lib.hid h
 have HI:=Lib.hid I
 have HTK:=Lib.hid htk
 have HKK:=Lib.hid hk
 have HKEY:=Lib.hid hkey
 obtain ⟨⟨y0,y1,y2,y3,y4,y5,y6,y7,y8,y9,y10,y11⟩,-,-⟩:=h.box
 have htask:=ZeY h.o I.Z.C.2 hk
 rw [htk] at htask
 have HTS:=Lib.hid htask
 clear h I htk hk htask hkey hj hwf hn
 go_enter Tryz.func12,Tryz.ntmps12
 go_wp2_with fail
 clear y0 y1 y2 y3 y4 y5 y6 y7 y8 y9 y10 y11
 refine HTS.out.mono ?_
 rintro e w2 ⟨rfl,h2⟩
 have h2:ZaQ W br bc b0 b1 bt c mn cp jv r true cnt n pv pb m w2:=⟨H.out.p,h2⟩
 have h3:=h2.alloc z17
 obtain ⟨B,hB⟩:∃ B,w2.heap.size=B:=⟨_,rfl⟩
 rw [hB] at h3
 obtain ⟨M0,hM0,hF0⟩:=h3.Zio
 have HM0:=Lib.hid hM0
 have HF0:=Lib.hid hF0
 have HT0:=Lib.hid (ZaE tk0)
 clear h2 h3 hM0 hF0 HTS H
 simp only [Option.getD_none,Option.isSome_none]
 go_wp2_with (first
  | (refine Zab (t:=59) (new:=tkA (tk0)) rfl _ _ rfl rfl rfl Zap HM0.out rfl HT0.out ?_; intro w3 hS; have h3:ZaQ W br bc b0 b1 bt c mn cp jv r true cnt n pv pb (tB B (tk0)::m) w3:=HF0.out _ _ hS; have H3:=Lib.hid h3; obtain ⟨Mt,hMt⟩:=h3.ZaB; obtain ⟨⟨x0,x1,x2,x3,x4,x5,x6,x7,x8,x9,x10,x11,x12,x13,x14,x15,x16⟩,-⟩:=Za8 (t:=tk0) hMt; obtain ⟨⟨y0,y1,y2,y3,y4,y5,y6,y7,y8,y9,y10,y11⟩,-,fz⟩:=h3.box; have f522:=fz 522; clear hS h3 hMt fz hB HM0 HF0))
 refine (Zl7 H3.out HJ.out HWF.out HN.out HI.out HKEY.out HKK.out HTK.out).mono ?_
 rintro e w5 ⟨rfl,pv',pb',n',hn',h5⟩
 have H5:=Lib.hid (h5.sub (List.sublist_cons_self _ _))
 have HN':=Lib.hid hn'
 clear h5 hn'
 go_wp2_with fail
 go_ret
 exact ⟨rfl,pv',pb',n',HN'.out,H5.out⟩
end
end Go.Proofs.YtfcpdlbkmkhhcaaGreatDoor.Cw

namespace Go.Proofs.YtfcpdlbkmkhhcaaGreatDoor.Cw
open Go Mem See
open Go.RowKit
attribute [local go_sem ↓] Go.wp_at_zero Go.wp_at_succ
section
variable {W w w':World}{m l:List (Nat×Obj)}{br bc b0 b1 bt:Nat}{c:Ch}{mn cp cnt n k:Nat}{r:Cv.Rn}{jv pv:Value}{pb:List (Nat×Obj)}{jobs:List Int}{st st':Cv.St}{t t':Tk}{g':List Nat}
def ZiP (W:World)(br bc b0 b1 bt:Nat)(c:Ch)(mn cp:Nat)(jv:Value)(r5:Cv.Rn)(t':Tk)(r6:Cv.Rn):Prop :=
 (t'.fin=0∧r6=r5)∨(t'.fin≠0∧∀ (cnt n:Nat) (pv:Value) (pb m:List (Nat×Obj)) (w:World),ZaQ W br bc b0 b1 bt c mn cp jv r5 true cnt n pv pb m w→Calls Tryz.prog 27 #[.pointer (some ⟨br,0,Option.none⟩),tkV t'] w fun e w'=>e = .returned (.tuple #[])∧∃ pv' pb',ZaQ W br bc b0 b1 bt c mn cp jv r6 true cnt n pv' pb' m w')
set_option maxRecDepth 100000 in
set_option maxHeartbeats 40000000 in
theorem ZnY (h:ZaQ W br bc b0 b1 bt c mn cp jv r true cnt n pv pb m w)(I:Cv.RI c mn cp r st)(hkey:c.key<18446744073709551616)(hk:k<c.C)(htk:r.tk k=some t)(hw:t.want=0)(hT:Ex.ZdY FillTab.gs W)(hcnt:cnt<1000000000)(hs:Cv.Zba c mn cp r.g t=some (t',g'))(hcpu:t'.cpu=t.cpu){r6:Cv.Rn}(he:ZiP W br bc b0 b1 bt c mn cp jv { r with g:=g',tk:=Cv.upd r.tk k (Cv.stop t') } t' r6) :
 Calls Tryz.prog 12 #[.pointer (some ⟨br,0,Option.none⟩),.int .i64 (k:Int)] w fun e w'=>e = .returned (.bool true)∧∃ pv' pb',ZaQ W br bc b0 b1 bt c mn cp jv r6 true (cnt+1) (n+1) pv' pb' m w':=by
 have HW:=Lib.hid hw
 have HTB:=Lib.hid hT
 have HCN:=Lib.hid hcnt
 have HS:=Lib.hid hs
 have HCP:=Lib.hid hcpu
 have HE:=Lib.hid he
 have H:=Lib.hid h
 have HI:=Lib.hid I
 have HTK:=Lib.hid htk
 have HKK:=Lib.hid hk
 have HKEY:=Lib.hid hkey
 obtain ⟨⟨y0,y1,y2,y3,y4,y5,y6,y7,y8,y9,y10,y11⟩,-,-⟩:=h.box
 have htask:=ZeY h.o I.Z.C.2 hk
 rw [htk] at htask
 have HTS:=Lib.hid htask
 clear h I htk hk htask hkey hw hT hcnt hs hcpu he
 go_enter Tryz.func12,Tryz.ntmps12
 go_wp2_with fail
 clear y0 y1 y2 y3 y4 y5 y6 y7 y8 y9 y10 y11
 refine HTS.out.mono ?_
 rintro e w2 ⟨rfl,h2⟩
 have h2:ZaQ W br bc b0 b1 bt c mn cp jv r true cnt n pv pb m w2:=⟨H.out.p,h2⟩
 have h3:=h2.alloc z17
 obtain ⟨B,hB⟩:∃ B,w2.heap.size=B:=⟨_,rfl⟩
 rw [hB] at h3
 obtain ⟨M0,hM0,hF0⟩:=h3.Zio
 have HM0:=Lib.hid hM0
 have HF0:=Lib.hid hF0
 have HT0:=Lib.hid (ZaE t)
 clear h2 h3 hM0 hF0 HTS H
 have q1:(t.want==1)=false:=by rw [HW.out]; rfl
 have q2:(t.want==2)=false:=by rw [HW.out]; rfl
 simp only [Option.getD_some,Option.isSome_some]
 go_wp2_with (first
  | (refine Zab (t:=59) (new:=tkA (t)) rfl _ _ rfl rfl rfl Zap HM0.out rfl HT0.out ?_; intro w3 hS; have h3:ZaQ W br bc b0 b1 bt c mn cp jv r true cnt n pv pb (tB B (t)::m) w3:=HF0.out _ _ hS; have H3:=Lib.hid h3; obtain ⟨Mt,hMt⟩:=h3.ZaB; obtain ⟨⟨x0,x1,x2,x3,x4,x5,x6,x7,x8,x9,x10,x11,x12,x13,x14,x15,x16⟩,-⟩:=Za8 (t:=t) hMt; obtain ⟨⟨y0,y1,y2,y3,y4,y5,y6,y7,y8,y9,y10,y11⟩,-,fz⟩:=h3.box; have f522:=fz 522; clear hS h3 hMt fz hB HM0 HF0))
 refine (ZoA HI.out.Z HKEY.out HTB.out HI.out.tk H3.out.o HCN.out HTK.out HW.out HS.out HCP.out).mono ?_
 rintro e w5 ⟨rfl,h5⟩
 have h5:ZaQ W br bc b0 b1 bt c mn cp jv { r with g:=g',tk:=Cv.upd r.tk k (Cv.stop t') } true (cnt+1) (n+1) pv pb (tB B t::m) w5:=⟨H3.out.p,h5⟩
 obtain ⟨M5,hM5,hF5⟩:=h5.Zio
 have HM5:=Lib.hid hM5
 have HF5:=Lib.hid hF5
 have HT5:=Lib.hid (ZaE t')
 clear h5 hM5 hF5 H3 x0 x1 x2 x3 x4 x5 x6 x7 x8 x9 x10 x11 x12 x13 x14 x15 x16 y0 y1 y2 y3 y4 y5 y6 y7 y8 y9 y10 y11
 go_upto_region 14 with (first
  | (refine Zab (t:=59) (new:=tkA t') rfl _ _ rfl rfl rfl Zap HM5.out rfl HT5.out ?_; intro w7 hS; have h7:ZaQ W br bc b0 b1 bt c mn cp jv { r with g:=g',tk:=Cv.upd r.tk k (Cv.stop t') } true (cnt+1) (n+1) pv pb (tB B t'::m) w7:=HF5.out _ _ hS; have H7:=Lib.hid h7; have HM7:Hid (Own W (tB B t'::M5) w7):=Lib.hid hS; obtain ⟨⟨-,-,-,x3,-⟩,-⟩:=Za8 (t:=t') HM7.out; clear hS h7 HM5 HF5))
 rcases HE.out with ⟨hf,hr6⟩ | ⟨hf,hE⟩
 ·have qf:(t'.fin != 0)=false:=by simpa using hf
  have H8:=Lib.hid (H7.out.sub (List.sublist_cons_self _ _))
  rw [← hr6] at H8
  clear hf hr6
  go_wp2_with fail
  go_ret
  exact ⟨rfl,pv,pb,H8.out⟩
 ·have qf:(t'.fin != 0)=true:=by simpa using hf
  have HC:=Lib.hid (hE _ _ _ _ _ _ H7.out)
  clear hf hE
  go_wp2_with (first
   | (refine Zaq (t:=59) (old:=tkA t') rfl _ rfl rfl Tryz.underlying59 HM7.out Zap ?_))
  refine HC.out.mono ?_
  rintro e w8 ⟨rfl,pv',pb',h8⟩
  have H8:=Lib.hid (h8.sub (List.sublist_cons_self _ _))
  clear h8
  go_wp2_with fail
  go_ret
  exact ⟨rfl,pv',pb',H8.out⟩
end
end Go.Proofs.YtfcpdlbkmkhhcaaGreatDoor.Cw

namespace Go.Proofs.YtfcpdlbkmkhhcaaGreatDoor.Cw
open Go Mem See
open Go.RowKit
attribute [local go_sem ↓] Go.wp_at_zero Go.wp_at_succ
section
variable {W w w':World}{m l:List (Nat×Obj)}{br bc b0 b1 bt:Nat}{c:Ch}{mn cp cnt n k:Nat}{r:Cv.Rn}{jv pv:Value}{pb:List (Nat×Obj)}{jobs:List Int}{st st':Cv.St}{t t':Tk}{g':List Nat}
set_option maxRecDepth 100000 in
set_option maxHeartbeats 40000000 in
theorem Zms (h:ZaQ W br bc b0 b1 bt c mn cp jv r true cnt n pv pb m w)(I:Cv.RI c mn cp r st)(hkey:c.key<18446744073709551616)(hk:k<c.C)(htk:r.tk k=some t)(hw:t.want=2)(hT:Ex.ZdY FillTab.gs W)(hs:Zb2 { t with want:=0 }=some t')(hcpu:t'.cpu=t.cpu){r6:Cv.Rn}(he:ZiP W br bc b0 b1 bt c mn cp jv { r with tk:=Cv.upd r.tk k (Cv.stop t') } t' r6) :
 Calls Tryz.prog 12 #[.pointer (some ⟨br,0,Option.none⟩),.int .i64 (k:Int)] w fun e w'=>e = .returned (.bool true)∧∃ pv' pb',ZaQ W br bc b0 b1 bt c mn cp jv r6 true cnt (n+1) pv' pb' m w':=by
 have HW:=Lib.hid hw
 have HTB:=Lib.hid hT
 have HS:=Lib.hid hs
 have HCP:=Lib.hid hcpu
 have HE:=Lib.hid he
 have H:=Lib.hid h
 have HI:=Lib.hid I
 have HTK:=Lib.hid htk
 have HKK:=Lib.hid hk
 have HKEY:=Lib.hid hkey
 obtain ⟨⟨y0,y1,y2,y3,y4,y5,y6,y7,y8,y9,y10,y11⟩,-,-⟩:=h.box
 have htask:=ZeY h.o I.Z.C.2 hk
 rw [htk] at htask
 have HTS:=Lib.hid htask
 clear h I htk hk htask hkey hw hT hs hcpu he
 go_enter Tryz.func12,Tryz.ntmps12
 go_wp2_with fail
 clear y0 y1 y2 y3 y4 y5 y6 y7 y8 y9 y10 y11
 refine HTS.out.mono ?_
 rintro e w2 ⟨rfl,h2⟩
 have h2:ZaQ W br bc b0 b1 bt c mn cp jv r true cnt n pv pb m w2:=⟨H.out.p,h2⟩
 have h3:=h2.alloc z17
 obtain ⟨B,hB⟩:∃ B,w2.heap.size=B:=⟨_,rfl⟩
 rw [hB] at h3
 obtain ⟨M0,hM0,hF0⟩:=h3.Zio
 have HM0:=Lib.hid hM0
 have HF0:=Lib.hid hF0
 have HT0:=Lib.hid (ZaE t)
 clear h2 h3 hM0 hF0 HTS H
 have q1:(t.want==1)=false:=by rw [HW.out]; rfl
 have q2:(t.want==2)=true:=by rw [HW.out]; rfl
 simp only [Option.getD_some,Option.isSome_some]
 go_wp2_with (first
  | (refine Zab (t:=59) (new:=tkA (t)) rfl _ _ rfl rfl rfl Zap HM0.out rfl HT0.out ?_; intro w3 hS; have h3:ZaQ W br bc b0 b1 bt c mn cp jv r true cnt n pv pb (tB B (t)::m) w3:=HF0.out _ _ hS; have H3:=Lib.hid h3; obtain ⟨Mt,hMt⟩:=h3.ZaB; obtain ⟨⟨x0,x1,x2,x3,x4,x5,x6,x7,x8,x9,x10,x11,x12,x13,x14,x15,x16⟩,-⟩:=Za8 (t:=t) hMt; obtain ⟨⟨y0,y1,y2,y3,y4,y5,y6,y7,y8,y9,y10,y11⟩,-,fz⟩:=h3.box; have f522:=fz 522; clear hS h3 hMt fz hB HM0 HF0))
 refine (Zm6 HI.out.Z HTB.out HI.out.tk H3.out.o HTK.out HW.out HS.out HCP.out).mono ?_
 rintro e w5 ⟨rfl,h5⟩
 have h5:ZaQ W br bc b0 b1 bt c mn cp jv { r with tk:=Cv.upd r.tk k (Cv.stop t') } true cnt (n+1) pv pb (tB B t::m) w5:=⟨H3.out.p,h5⟩
 obtain ⟨M5,hM5,hF5⟩:=h5.Zio
 have HM5:=Lib.hid hM5
 have HF5:=Lib.hid hF5
 have HT5:=Lib.hid (ZaE t')
 clear h5 hM5 hF5 H3 x0 x1 x2 x3 x4 x5 x6 x7 x8 x9 x10 x11 x12 x13 x14 x15 x16 y0 y1 y2 y3 y4 y5 y6 y7 y8 y9 y10 y11
 go_upto_region 14 with (first
  | (refine Zab (t:=59) (new:=tkA t') rfl _ _ rfl rfl rfl Zap HM5.out rfl HT5.out ?_; intro w7 hS; have h7:ZaQ W br bc b0 b1 bt c mn cp jv { r with tk:=Cv.upd r.tk k (Cv.stop t') } true cnt (n+1) pv pb (tB B t'::m) w7:=HF5.out _ _ hS; have H7:=Lib.hid h7; have HM7:Hid (Own W (tB B t'::M5) w7):=Lib.hid hS; obtain ⟨⟨-,-,-,x3,-⟩,-⟩:=Za8 (t:=t') HM7.out; clear hS h7 HM5 HF5))
 rcases HE.out with ⟨hf,hr6⟩ | ⟨hf,hE⟩
 ·have qf:(t'.fin != 0)=false:=by simpa using hf
  have H8:=Lib.hid (H7.out.sub (List.sublist_cons_self _ _))
  rw [← hr6] at H8
  clear hf hr6
  go_wp2_with fail
  go_ret
  exact ⟨rfl,pv,pb,H8.out⟩
 ·have qf:(t'.fin != 0)=true:=by simpa using hf
  have HC:=Lib.hid (hE _ _ _ _ _ _ H7.out)
  clear hf hE
  go_wp2_with (first
   | (refine Zaq (t:=59) (old:=tkA t') rfl _ rfl rfl Tryz.underlying59 HM7.out Zap ?_))
  refine HC.out.mono ?_
  rintro e w8 ⟨rfl,pv',pb',h8⟩
  have H8:=Lib.hid (h8.sub (List.sublist_cons_self _ _))
  clear h8
  go_wp2_with fail
  go_ret
  exact ⟨rfl,pv',pb',H8.out⟩
end
end Go.Proofs.YtfcpdlbkmkhhcaaGreatDoor.Cw
