/-
  Texts of this claim, joined. No condition.
-/
import Derived.Test.YtfcpdlbkmkhhcaaGreatDoorCn23
import Derived.StillTailTactics
import Derived.Test.YtfcpdlbkmkhhcaaGreatDoorCn18
namespace Go.Proofs.YtfcpdlbkmkhhcaaGreatDoor.Cw
open Go Mem See
open Go.RowKit
attribute [local go_sem ↓] Go.wp_at_zero Go.wp_at_succ
section
variable {W w:World}{m:List (Nat×Obj)}{bc b0 bt b:Nat}{c:Ch}{mn cp:Nat}{t:Tk}{es:Array MapEntry}{ck n:Nat}{f:Int→Option Value}{i:Nat}
theorem Zp7 {α:Type}(a b x y:α)(l:List α):(a::b::x::y::l).Perm (y::a::b::x::l):=by
 classical
 rw [List.perm_iff_count]
 intro q
 simp only [List.count_cons]
 omega
theorem Zp8 {α:Type}(a b x y:α)(l:List α):(y::a::b::x::l).Perm (a::b::x::y::l):=(Zp7 _ _ _ _ _).symm
theorem Zp9 {α:Type}(a b x y:α)(l:List α):(y::a::b::x::l).Perm (b::a::x::y::l):=(Zp8 _ _ _ _ _).trans (List.Perm.swap _ _ _)
set_option maxRecDepth 100000 in
set_option maxHeartbeats 1000000 in
theorem Zl9 (h:Own W (crB bc b0 bt c mn cp::(bt,.map es ck)::m) w)(hv:VM es ck n f)(hi:t.cpu<9)(hf:t.fin=0) :
 Calls Tryz.prog 31 #[.pointer (some ⟨bc,0,Option.none⟩),tkV t,.int .i64 0] w fun e w'=>∃ es' ck',e = .returned (.tuple #[tkV t,.int .i64 0])∧VM es' ck' (n+1) (ZlZ f t.cpu (tkV t))∧Own W (crB bc b0 bt c mn cp::(bt,.map es' ck')::m) w':=by
 have h1:Own W ((w.heap.size,.cells (tkA t) 59)::crB bc b0 bt c mn cp::(bt,.map es ck)::m) (w.alloc (.cells (tkA t) 59)):=h.new (.cells (tkA t) 59)
 have h2:=h1.new z17
 rw [World.size_alloc] at h2
 obtain ⟨B,hB⟩:∃ B,w.heap.size=B:=⟨_,rfl⟩
 rw [hB] at h2
 obtain ⟨wa,hwa⟩:∃ wa,(w.alloc (.cells (tkA t) 59)).alloc z17=wa:=⟨_,rfl⟩
 rw [hwa] at h2
 have HWF:=Lib.hid (Zje hi)
 have HV:=Lib.hid hv
 have H2:=Lib.hid h2
 have HF:=Lib.hid hf
 obtain ⟨y0,y1,y2,y3,y4,y5,y6,y7⟩:=Zgn h2.skip.skip
 obtain ⟨⟨x0,x1,x2,x3,x4,x5,x6,x7,x8,x9,x10,x11,x12,x13,x14,x15,x16⟩,-⟩:=Za8 (t:=t) h2.skip
 clear h h1 h2 hv hi hf
 unfold tkA at hwa
 unfold tkV
 go_enter Tryz.func31,Tryz.ntmps31
 go_wp2_with fail
 clear hwa hB
 go_still_tail 7,(by kernel_rfl)
 change wpList _ _ _ _ _ wa.drew
 clear y0 y1 y2 y3 y4 y5 y6 y7 x0 x1 x2 x3 x4 x5 x6 x7 x8 x9 x10 x11 x12 x13 x14 x15 x16
 have hp:((B+1,z17)::(B,.cells (tkA t) 59)::crB bc b0 bt c mn cp::(bt,.map es ck)::m).Perm ((bt,.map es ck)::(B+1,z17)::tB B t::crB bc b0 bt c mn cp::m):=Zp7 _ _ _ _ _
 refine ZbT rfl _ _ _ rfl rfl rfl rfl HV.out (H2.out.drew.perm hp) HWF.out ?_
 intro es' ck' w3 k1 k2
 have KV:=Lib.hid k1
 have KO:=Lib.hid (k2.perm (Zp8 _ _ _ _ _))
 have KB:=Lib.hid (k2.perm (Zp9 _ _ _ _ _))
 obtain ⟨⟨-,-,-,x3,-⟩,-⟩:=Za8 (t:=t) KB.out
 have d0:(t.fin != 0)=false:=by rw [HF.out]; rfl
 have HT:=Lib.hid (ZaE t)
 clear k1 k2 hp H2 HV HWF
 go_wp2_with (first
  | (refine Zaq (t:=59) (old:=tkA t) rfl _ rfl rfl Tryz.underlying59 KB.out Zap ?_)
  | (refine Zab (t:=59) (new:=tkA t) rfl _ _ rfl rfl rfl Zap KO.out rfl HT.out ?_; intro w4 hT))
 obtain ⟨⟨x0,x1,x2,x3,x4,x5,x6,x7,x8,x9,x10,x11,x12,x13,x14,x15,x16⟩,-⟩:=Za8 (t:=t) hT
 exact bodyPost_ret (v:=.tuple #[tkV t,.int .i64 0]) (by simp [results,Tryz.f31,go_sem,x0,x1,x2,x3,x4,x5,x6,x7,x8,x9,x10,x11,x12,x13,x14,x15,x16,tkV]) rfl ⟨es',ck',rfl,KV.out,hT.skip.skip⟩
end
end Go.Proofs.YtfcpdlbkmkhhcaaGreatDoor.Cw

namespace Go.Proofs.YtfcpdlbkmkhhcaaGreatDoor.Cw
open Go Mem See
open Go.RowKit
attribute [local go_sem ↓] Go.wp_at_zero Go.wp_at_succ
section
variable {W w:World}{m:List (Nat×Obj)}{bc b0 bt b:Nat}{c:Ch}{mn cp:Nat}{t:Tk}{es:Array MapEntry}{ck n:Nat}{f:Int→Option Value}{i:Nat}
set_option maxRecDepth 100000 in
set_option maxHeartbeats 1000000 in
theorem Zl8 (h:Own W (crB bc b0 bt c mn cp::(bt,.map es ck)::m) w)(hv:VM es ck n f)(hi:t.cpu<9)(hf:t.fin≠0) :
 Calls Tryz.prog 31 #[.pointer (some ⟨bc,0,Option.none⟩),tkV t,.int .i64 0] w fun e w'=>∃ es' ck',e = .returned (.tuple #[tkV t,.int .i64 0])∧VM es' ck' (n+1) (ZpW (ZlZ f t.cpu (tkV t)) t.cpu)∧Own W (crB bc b0 bt c mn cp::(bt,.map es' ck')::m) w':=by
 have h1:Own W ((w.heap.size,.cells (tkA t) 59)::crB bc b0 bt c mn cp::(bt,.map es ck)::m) (w.alloc (.cells (tkA t) 59)):=h.new (.cells (tkA t) 59)
 have h2:=h1.new z17
 rw [World.size_alloc] at h2
 obtain ⟨B,hB⟩:∃ B,w.heap.size=B:=⟨_,rfl⟩
 rw [hB] at h2
 obtain ⟨wa,hwa⟩:∃ wa,(w.alloc (.cells (tkA t) 59)).alloc z17=wa:=⟨_,rfl⟩
 rw [hwa] at h2
 have HWF:=Lib.hid (Zje hi)
 have HV:=Lib.hid hv
 have H2:=Lib.hid h2
 have HF:=Lib.hid hf
 obtain ⟨y0,y1,y2,y3,y4,y5,y6,y7⟩:=Zgn h2.skip.skip
 obtain ⟨⟨x0,x1,x2,x3,x4,x5,x6,x7,x8,x9,x10,x11,x12,x13,x14,x15,x16⟩,-⟩:=Za8 (t:=t) h2.skip
 clear h h1 h2 hv hi hf
 unfold tkA at hwa
 unfold tkV
 go_enter Tryz.func31,Tryz.ntmps31
 go_wp2_with fail
 clear hwa hB
 go_still_tail 7,(by kernel_rfl)
 change wpList _ _ _ _ _ wa.drew
 clear y0 y1 y2 y3 y4 y5 y6 y7 x0 x1 x2 x3 x4 x5 x6 x7 x8 x9 x10 x11 x12 x13 x14 x15 x16
 have hp:((B+1,z17)::(B,.cells (tkA t) 59)::crB bc b0 bt c mn cp::(bt,.map es ck)::m).Perm ((bt,.map es ck)::(B+1,z17)::tB B t::crB bc b0 bt c mn cp::m):=Zp7 _ _ _ _ _
 refine ZbT rfl _ _ _ rfl rfl rfl rfl HV.out (H2.out.drew.perm hp) HWF.out ?_
 intro es1 ck' w3 k1 k2
 have KV:=Lib.hid k1
 have KM:=Lib.hid k2
 have KB:=k2.perm (Zp9 _ _ _ _ _)
 obtain ⟨⟨-,x1,-,x3,-⟩,-⟩:=Za8 (t:=t) KB
 obtain ⟨y0,y1,y2,y3,y4,y5,y6,y7⟩:=Zgn KB.skip.skip
 have d0:(t.fin != 0)=true:=by simpa using HF.out
 have HT:=Lib.hid (ZaE t)
 clear k1 k2 hp H2 HV KB
 go_wp2_with fail
 go_still_tail 6,(by kernel_rfl)
 change wpList _ _ _ _ _ w3.drew
 refine Zkh rfl _ _ rfl rfl rfl KV.out KM.out.drew HWF.out ?_
 intro es' w5 k1 k2
 have KV:=Lib.hid k1
 have KO:=Lib.hid (k2.perm (Zp8 _ _ _ _ _))
 have KB:=Lib.hid (k2.perm (Zp9 _ _ _ _ _))
 clear k1 k2 x1 x3 y0 y1 y2 y3 y4 y5 y6 y7
 go_wp2_with (first
  | (refine Zaq (t:=59) (old:=tkA t) rfl _ rfl rfl Tryz.underlying59 KB.out Zap ?_)
  | (refine Zab (t:=59) (new:=tkA t) rfl _ _ rfl rfl rfl Zap KO.out rfl HT.out ?_; intro w4 hT))
 obtain ⟨⟨x0,x1,x2,x3,x4,x5,x6,x7,x8,x9,x10,x11,x12,x13,x14,x15,x16⟩,-⟩:=Za8 (t:=t) hT
 exact bodyPost_ret (v:=.tuple #[tkV t,.int .i64 0]) (by simp [results,Tryz.f31,go_sem,x0,x1,x2,x3,x4,x5,x6,x7,x8,x9,x10,x11,x12,x13,x14,x15,x16,tkV]) rfl ⟨es',ck',rfl,KV.out,hT.skip.skip⟩
end
end Go.Proofs.YtfcpdlbkmkhhcaaGreatDoor.Cw

namespace Go.Proofs.YtfcpdlbkmkhhcaaGreatDoor.Cw
open Go Ex Mem See
open Go.RowKit
section
noncomputable def Zt5:List AV:=[.int .i64 0,.int .i64 0,.int .i64 0,.int .i64 0,.int .i64 0,.int .i64 0,.int .i64 0,.int .u64 0,.int .u64 0,.int .u64 0,.int .u64 0,.int .u64 0,.int .i64 0,.int .i64 0,.int .i64 0,.int .i64 0,.int .i64 0]
noncomputable def ZkZ (f:FuncId)(pc:Int):Bool:=Zho Tryz.prog FillTab.gs [] (kgs []) [] 40 f [.ptr 3002 0,chF,.agg (ZiF pc)] ⟨[],ZlE (v 31) (.lvar 0),⟨60,1,0,3004⟩⟩ (.is (.tup [.agg Zt5,.int .i64 292]) (ZlE (v 31) (.lvar 0))) fC
theorem ZkE:((List.range 84).all fun i=>ZkZ 43 (20+(i:Int)))=true:=by kernel_rfl
theorem Znc:((List.range 54).all fun i=>ZkZ 44 (50+(i:Int)))=true:=by kernel_rfl
theorem Zp6:((List.range 35).all fun i=>ZkZ 45 (69+(i:Int)))=true:=by kernel_rfl
end
end Go.Proofs.YtfcpdlbkmkhhcaaGreatDoor.Cw

namespace Go.Proofs.YtfcpdlbkmkhhcaaGreatDoor.Cw
open Go Ex Mem See
open Go.RowKit
section
theorem Zpf {f:FuncId}{pc:Int}(hr:ZkZ f pc=true){V:Nat→Int}{g:List Nat}{cnt:Nat}(ok:∀ q∈fC,q.1.ev (sgW V g)=q.2)
 (h30:V 30=(g.length:Int)) (h31:V 31=(cnt:Int)) (_hc:cnt<1000000000) (hgm:g.length≤4096)
 {W w:World} {m:List (Nat×Obj)} {b0 b1:Nat} (hgs:ZdY FillTab.gs w) (hgW:∀ b l,Zec b FillTab.gs=some l→b<W.heap.size) (hO:Own W (mB b0 b1 g.length cnt::wB b1 g::m) w)
 {c t:Value} (hcv:c=Ex.valOf (sgW V g) chF) (htv:t=Ex.valOf (sgW V g) (.agg (ZiF pc))) :
 Calls Tryz.prog f #[.pointer (some ⟨b0,0,none⟩),c,t] w fun e w'=>e = .returned (.tuple #[tkV tk0,.int .i64 292])∧Own W (mB b0 b1 g.length cnt::wB b1 g::m) w':=by
 subst hcv
 subst htv
 have hk:Zl1 FillTab.gs [] roN Tryz.prog (sgW V g) ΩW (kgs []):=fun fs ok args k hk=>by cases hk
 letI N:Zac:=nums FillTab.gs [] roN (sgW V g) ΩW fC ok
 have e30:(v 30).ev (sgW V g)=(g.length:Int):=(Zbp (by omega)).trans h30
 have e31:(v 31).ev (sgW V g)=(cnt:Int):=(Zbp (by omega)).trans h31
 have hsz:(Zf1 g).size=g.length:=by simp [Zf1,words]
 have hl0:ZbM (sgW V g) (.lvar 0) (one (Zb0 g)):=ZbM.var (by omega)
 have r0:ZjR 3002 3003 b0 2 b1 (Zf1 g).size 3002=some (b0,2):=if_pos rfl
 have r1:ZjR 3002 3003 b0 2 b1 (Zf1 g).size 3003=some (b1,(Zf1 g).size):=by
  unfold ZjR
  rw [if_neg (by omega),if_pos rfl]
 refine (Zhb (by kernel_rfl) hk (by omega) (by show 3002<3004; omega) (by show 3003<3004; omega) (by show 3004≤1000000; omega) ok hr
  (K:=fun a post=>a = .tup [.agg Zt5,.int .i64 292]∧post=ZlE (v 31) (.lvar 0)) ⟨_,_,rfl,rfl,rfl⟩ hgs hgW hO ?_ ?_ ?_).mono ?_
 ·refine ⟨_,rfl,rfl,Nat.le_refl _,fun i v hi => ?_⟩
  match i with
  | 0 =>
    simp only [List.getElem?_cons_zero,Option.some.injEq] at hi
    subst hi
    refine ⟨rfl,.slice (some ⟨b1,0,none⟩) g.length g.length,rfl,?_⟩
    unfold VR
    exact ⟨b1,_,g.length,g.length,r1,rfl,Nat.le_refl _,by unfold maxLen; omega,by omega,e30⟩
  | 1 =>
    simp only [List.getElem?_cons_succ,List.getElem?_cons_zero,Option.some.injEq] at hi
    subst hi
    refine ⟨rfl,.int .i64 (cnt:Int),rfl,?_⟩
    unfold si VR
    exact congrArg (Value.int .i64) e31.symm
  | i+2=>simp at hi
 ·exact ZiI (b:=b1) hl0.is
 ·refine VRs.cons ?_ (VRs.cons (VR.Zc6 rfl) (VRs.cons (VR.Zc6 rfl) VRs.nil))
  unfold VR
  exact ⟨b0,_,r0,rfl⟩
 ·rintro e w' ⟨fs',ok',a,p0,p1,ρ',y,o0',o1',⟨rfl,hp⟩,rfl,q0,q1,hv,T0,T1,h'⟩
  simp only [ZlE,List.cons.injEq,Prod.mk.injEq,true_and,and_true] at hp
  obtain ⟨rfl,rfl⟩:=hp
  letI N':Zac:=nums FillTab.gs [] roN (sgW V g) ΩW fs' ok'
  have hv:=VR.shut hv (by rfl)
  have h1:=ZdW (n:=g.length) hl0 rfl (by rw [← hsz]; exact T1)
  obtain ⟨cur,c1,c2,c3,c4⟩:=T0
  simp only [Option.some.injEq] at c1
  subst c1
  obtain ⟨-,y0,hy0,hz0⟩:=c4 0 _ rfl
  obtain ⟨-,y1,hy1,hz1⟩:=c4 1 _ rfl
  unfold VR at hz0
  unfold si VR at hz1
  obtain ⟨b,z,len,cc,hb,rfl,d1,d2,d3,d4⟩:=hz0
  rw [q1] at hb
  cases hb
  have d4':(g.length:Int)=len:=e30.symm.trans d4
  have d3':cc * 1=g.length:=d3.trans hsz
  have hlen:len=g.length:=by omega
  have hcc:cc=g.length:=by omega
  subst hlen
  subst hcc
  have hcur:cur=#[.slice (some ⟨b1,0,none⟩) g.length g.length,.int .i64 ((cnt:Nat):Int)]:=by
   apply Array.ext
   ·exact c2
   ·intro i hi1 hi2
    match i with
    | 0 =>
      rw [Array.getElem?_eq_getElem hi1] at hy0
      exact Option.some.inj hy0
    | 1 =>
      rw [Array.getElem?_eq_getElem hi1] at hy1
      rw [Option.some.inj hy1,hz1]
      exact congrArg (Value.int .i64) e31
    | i+2 =>
      have:cur.size=2:=c2
      omega
  subst hcur
  subst h1
  refine ⟨?_,h'⟩
  rw [hv]
  rfl
end
end Go.Proofs.YtfcpdlbkmkhhcaaGreatDoor.Cw

namespace Go.Proofs.YtfcpdlbkmkhhcaaGreatDoor.Cw
open Go Ex Mem See
open Go.RowKit
section
structure Zkp (f:FuncId)(c:Ch)(mn cp:Nat)(t:Tk)(g:List Nat):Prop where
 go:∀ {W w:World} {m:List (Nat×Obj)} {b0 b1 cnt:Nat},cnt<1000000000→ZdY FillTab.gs w→(∀ b l,Zec b FillTab.gs=some l→b<W.heap.size)→Own W (mB b0 b1 g.length cnt::wB b1 g::m) w →
  Calls Tryz.prog f #[.pointer (some ⟨b0,0,none⟩),chW c mn cp,tkV t] w fun e w'=>e = .returned (.tuple #[tkV tk0,.int .i64 292])∧Own W (mB b0 b1 g.length cnt::wB b1 g::m) w'
variable {c:Ch}{mn cp:Nat}{t:Tk}{g:List Nat}
theorem Zmx {f:FuncId}(h:ZaU c mn cp t g)(hr:ZkZ f t.pc=true):Zkp f c mn cp t g:=by
 refine ⟨fun {W w m b0 b1 cnt} hc hgs hgW hO => ?_⟩
 have e:∀ i,i<2048→(v i).ev (sgW (vOf c mn cp t g.length cnt (fun _=>0)) g)=vOf c mn cp t g.length cnt (fun _=>0) i:=fun i hi=>Zbp hi
 have hC:=h.C
 have hS:=h.S
 have hOo:=h.O
 have hmn:=h.mn
 have hcp:=h.cp
 have hcpu:=h.cpu
 have hlen:=h.len
 have hfC:Facts (sgW (vOf c mn cp t g.length cnt (fun _=>0)) g) fC:=by
  unfold fC
  refine Facts.app (Facts.app (Facts.app (Facts.app (Facts.app (Facts.app (Facts.app (Facts.app (Facts.app ?_ ?_) ?_) ?_) ?_) ?_) ?_) ?_) ?_) ?_
  ·exact Zdm (e 0 (by omega)) (by simp only [vOf]; omega)
  ·exact Zdm (e 1 (by omega)) (by simp only [vOf]; omega)
  ·exact Zdm (e 2 (by omega)) (by simp only [vOf]; omega)
  ·exact Zdm (e 3 (by omega)) (by simp only [vOf]; omega)
  ·exact Zdm (e 4 (by omega)) (by simp only [vOf]; omega)
  ·exact Zdm (e 11 (by omega)) (by simp only [vOf]; omega)
  ·exact Zor (e 11 (by omega)) (e 0 (by omega)) (by simp only [vOf]; omega)
  ·exact Zdm (e 30 (by omega)) (by simp only [vOf]; omega)
  ·exact Zdm Zjp (by omega)
  ·exact Zdm (e 31 (by omega)) (by simp only [vOf]; omega)
 refine Zpf (V:=vOf c mn cp t g.length cnt (fun _=>0)) hr hfC rfl rfl hc hlen.2 hgs hgW hO ?_ ?_
 ·simp only [chW,chF,si,su,Ex.valOf,Ex.Zar,e _ (show 0<2048 by omega),e _ (show 1<2048 by omega),e _ (show 2<2048 by omega),e _ (show 3<2048 by omega),e _ (show 4<2048 by omega),e _ (show 5<2048 by omega),vOf]
 ·have hfin:=h.fin
  have hwant:=h.want
  simp only [tkV,ZiF,si,su,Ex.valOf,Ex.Zar,e 10 (by omega),e 11 (by omega),e 15 (by omega),e 16 (by omega),e 17 (by omega),e 18 (by omega),e 19 (by omega),e 20 (by omega),e 21 (by omega),e 22 (by omega),e 23 (by omega),e 24 (by omega),e 25 (by omega),e 26 (by omega),vOf,hfin,hwant]
theorem Zmw {f:FuncId}{n:Nat}{a p:Int}(hl:((List.range n).all fun i=>ZkZ f (a+(i:Int)))=true)(h1:a≤p)(h2:p<a+n):ZkZ f p=true:=by
 have:=List.all_eq_true.1 hl (p - a).toNat (List.mem_range.2 (by omega))
 rw [show a+(((p - a).toNat:Nat):Int)=p by omega] at this
 exact this
end
end Go.Proofs.YtfcpdlbkmkhhcaaGreatDoor.Cw

namespace Go.Proofs.YtfcpdlbkmkhhcaaGreatDoor.Cw
open Go Mem See
open Go.RowKit
section
variable {W w:World}{m:List (Nat×Obj)}{bc b0 b1 bt b:Nat}{c:Ch}{mn cp cnt:Nat}{t t':Tk}{g g':List Nat}{es:Array MapEntry}{ck n:Nat}{f:Int→Option Value}{i:Nat}
theorem Zao {α:Type}{a b:List α}(h:∀ (_:DecidableEq α) (q:α),a.count q=b.count q):a.Perm b:=by
 classical
 exact List.perm_iff_count.2 (h _)
theorem Zea {gs:List (Nat×List Int)}(hT:Ex.ZdY gs W)(h:Own W m w):Ex.ZdY gs w:=fun b l hb=>by
 obtain ⟨e,q,hh⟩:=hT b l hb
 exact ⟨e,q,(h.below.block b (Zcg hh)).trans hh⟩
theorem Zk9 {gs:List (Nat×List Int)}(hT:Ex.ZdY gs W):∀ b l,Ex.Zec b gs=some l→b<W.heap.size:=fun b l hb=>by
 obtain ⟨e,q,hh⟩:=hT b l hb
 exact Zcg hh
def Zlb (f:Int→Option Value)(t:Tk):Int→Option Value:=if t.fin=0 then ZlZ f t.cpu (tkV t) else ZpW (ZlZ f t.cpu (tkV t)) t.cpu
theorem Zdj (h:Own W (crB bc b0 bt c mn cp::(bt,.map es ck)::m) w)(hv:VM es ck n f)(hi:t.cpu<9) :
 Calls Tryz.prog 31 #[.pointer (some ⟨bc,0,Option.none⟩),tkV t,.int .i64 0] w fun e w'=>∃ es' ck',e = .returned (.tuple #[tkV t,.int .i64 0])∧VM es' ck' (n+1) (Zlb f t)∧Own W (crB bc b0 bt c mn cp::(bt,.map es' ck')::m) w':=by
 unfold Zlb
 by_cases hf:t.fin=0
 ·rw [if_pos hf]
  exact Zl9 h hv hi hf
 ·rw [if_neg hf]
  exact Zl8 h hv hi hf
end
end Go.Proofs.YtfcpdlbkmkhhcaaGreatDoor.Cw

namespace Go.Proofs.YtfcpdlbkmkhhcaaGreatDoor.Cv
open See Cw
inductive Ct where
 | none
 | first
 | head (k:Nat)
 | ZaB (k:Nat)
 | out
deriving DecidableEq
inductive Own where
 | dead
 | full
 | shelf
 | head (k:Nat)
 | part (k:Nat)
 | chain (k:Nat)
 | mine (k:Nat)
deriving DecidableEq
def Ct.listed:Ct→Bool
 | .first | .head _ | .ZaB _=>true
 | _=>false
def Own.listed:Own→Bool
 | .dead | .full=>false
 | _=>true
structure St where
 ol:Nat→Ct→List Nat
 loc:Nat→Nat→Ct
 sl:Own→List Nat
 own:Nat→Own
 lv:Nat→Bool
 frz:Nat→Bool
 cut:Option Nat
 hold:Option Nat
 held:Nat
 ht:Nat→Nat
 pt:Nat→Nat
 nx:Nat→Nat
 lk:Nat→Nat→Nat
 n:Nat
 tk:Nat→Option Tk
def ZcP:List Nat→Int→Int
 | [],e=>e
 | a::_,_=>(a:Int)
def ZeC (l:List Nat):Int:=match l.getLast? with
 | none => -1
 | some a=>(a:Int)
theorem ZhD {l:List Nat}{a:Nat}:ZeC (l++[a])=(a:Int):=by simp [ZeC]
theorem Zny {l:List Nat}(h:ZeC l = -1):l=[]:=by
 unfold ZeC at h
 split at h
 ·rename_i e
  exact List.getLast?_eq_none_iff.1 e
 ·omega
theorem Zfz {l:List Nat}(h:ZeC l ≠ -1):∃ (p:List Nat) (a:Nat),l=p++[a]∧ZeC l=(a:Int):=by
 rcases List.eq_nil_or_concat l with rfl | ⟨p,a,rfl⟩
 ·exact absurd rfl h
 ·exact ⟨p,a,by simp,by simp [ZeC]⟩
theorem Zez {l:List Nat}{e:Int}(h : -1≤e) : -1≤ZcP l e:=by
 cases l <;> simp [ZcP] <;> omega
theorem Zh6 {l:List Nat}(h:ZcP l (-1)<0):l=[]:=by
 cases l
 ·rfl
 ·simp [ZcP] at h; omega
theorem Zni {l:List Nat}(h:0≤ZcP l (-1)):∃ a r,l=a::r∧ZcP l (-1)=(a:Int):=by
 cases l
 ·simp [ZcP] at h
 ·exact ⟨_,_,rfl,rfl⟩
def lkd (f:Nat→Nat)(key:Nat):List Nat→Int→Prop
 | [],_=>True
 | a::l,e=>f a=ZaR (ZcP l e) key a∧lkd f key l e
theorem Ze4 {f g:Nat→Nat}{key:Nat}:∀ {l:List Nat} {e:Int},(∀ o∈l,g o=f o)→lkd f key l e→lkd g key l e
 | [],_,_,_=>trivial
 | a::_l,_e,h,⟨h1,h2⟩=>⟨(h a List.mem_cons_self).trans h1,Ze4 (fun o ho=>h o (List.mem_cons_of_mem _ ho)) h2⟩
theorem Zc5 {f:Nat→Nat}{key:Nat}:∀ {l1 l2:List Nat} {e:Int},lkd f key (l1++l2) e↔lkd f key l1 (ZcP l2 e)∧lkd f key l2 e
 | [],l2,e=>by simp [lkd]
 | a::l1,l2,e=>by
   have e1:ZcP (l1++l2) e=ZcP l1 (ZcP l2 e):=by cases l1 <;> rfl
   simp only [List.cons_append,lkd,e1,Zc5 (l1:=l1),and_assoc]
def pw:List Nat→Nat
 | []=>0
 | a::l=>ZdG (a:Int) ((l.length+1:Nat):Int)
def sw:List Nat→Nat
 | []=>0
 | a::_=>a+1
def chP (nx:Nat→Nat):List Nat→Prop
 | []=>True
 | a::l=>nx a=pw l∧chP nx l
def chS (nx:Nat→Nat):List Nat→Prop
 | []=>True
 | a::l=>nx a=sw l∧chS nx l
theorem ZeW {f g:Nat→Nat}:∀ {l:List Nat},(∀ o∈l,g o=f o)→chP f l→chP g l
 | [],_,_=>trivial
 | a::_l,h,⟨h1,h2⟩=>⟨(h a List.mem_cons_self).trans h1,ZeW (fun o ho=>h o (List.mem_cons_of_mem _ ho)) h2⟩
theorem ZeX {f g:Nat→Nat}:∀ {l:List Nat},(∀ o∈l,g o=f o)→chS f l→chS g l
 | [],_,_=>trivial
 | a::_l,h,⟨h1,h2⟩=>⟨(h a List.mem_cons_self).trans h1,ZeX (fun o ho=>h o (List.mem_cons_of_mem _ ho)) h2⟩
theorem Zlj {f:Nat→Nat}:∀ {p q:List Nat},chS f (p++q)→chS f q
 | [],_,h=>h
 | _::_,_,⟨_,h⟩=>Zlj h
theorem Zli {f:Nat→Nat}{p q:List Nat}{a:Nat}(h:chS f (p++a::q)):f a=sw q:=(Zlj h).1
def hw (st:St)(k:Nat):Nat:=match st.sl (.head k) with
 | []=>0
 | s::_=>headW (s:Int) (ZcP (st.ol s (.head k)) (-1))
def fw:List Nat→Nat
 | []=>0
 | a::_=>a+1
def fr (st:St)(s:Nat):Nat:=fw (st.ol s .first)
def ct (c:Ch)(st:St)(s:Nat):Nat:=if st.lv s=true then Zat (c.O - (st.ol s .first).length) c.O (st.frz s) true else 0
def lw (st:St):Nat:=if st.hold.isSome then 1 else 0
inductive Ix where
 | hd (k:Nat)
 | ht (k:Nat)
 | pd (k:Nat)
 | pt (k:Nat)
 | lock
 | shelf
 | held
 | fr (s:Nat)
 | ct (s:Nat)
 | nx (s:Nat)
 | lk (s o:Nat)
deriving DecidableEq
def Ix.ok (c:Ch):Ix→Prop
 | .hd k | .ht k | .pd k | .pt k=>k<c.C
 | .lock | .shelf | .held=>True
 | .fr s | .ct s | .nx s=>s<c.S
 | .lk s o=>s<c.S∧o<c.O
def Ix.at_ (c:Ch):Ix→Nat
 | .hd k=>ZbV k
 | .ht k=>ZbV k+1
 | .pd k=>ZcH k
 | .pt k=>ZcH k+1
 | .lock=>Zbl c
 | .shelf=>ZbR c
 | .held=>Zdo c
 | .fr s=>ZbU c s
 | .ct s=>ZbU c s+1
 | .nx s=>Zgb c s
 | .lk s o=>ZhF c s o
def val (c:Ch)(st:St):Ix→Nat
 | .hd k=>hw st k
 | .ht k=>st.ht k
 | .pd k=>pw (st.sl (.part k))
 | .pt k=>st.pt k
 | .lock=>lw st
 | .shelf=>sw (st.sl .shelf)
 | .held=>st.held
 | .fr s=>fr st s
 | .ct s=>ct c st s
 | .nx s=>st.nx s
 | .lk s o=>st.lk s o
theorem ZnI {s S o O:Nat}(hs:s<S)(ho:o<O):s * O+o<S * O:=by
 have h1:(s+1) * O≤S * O:=Nat.mul_le_mul_right O hs
 rw [Nat.succ_mul] at h1
 omega
theorem Ix.lt {c:Ch}{i:Ix}(h:i.ok c):i.at_ c<c.words:=by
 unfold Ch.words
 cases i <;> simp only [Ix.ok] at h <;> simp only [Ix.at_,ZbV,ZcH,Zbl,ZbR,Zdo,ZbU,Zgb,ZhF] <;> try omega
 have:=ZnI h.1 h.2
 omega
theorem Zq0 {s s' o o' O:Nat}(ho:o<O)(ho':o'<O)(h:s * O+o=s' * O+o'):s=s'∧o=o':=by
 have h1:s=s':=by
  have a:=Nat.add_mul_div_right o s (Nat.lt_of_le_of_lt (Nat.zero_le o) ho)
  have b:=Nat.add_mul_div_right o' s' (Nat.lt_of_le_of_lt (Nat.zero_le o) ho)
  rw [Nat.div_eq_of_lt ho,Nat.zero_add] at a
  rw [Nat.div_eq_of_lt ho',Nat.zero_add] at b
  rw [← a,← b,Nat.add_comm o,Nat.add_comm o',h]
 subst h1
 exact ⟨rfl,by omega⟩
theorem Ix.inj {c:Ch}{i j:Ix}(hi:i.ok c)(hj:j.ok c)(h:i.at_ c=j.at_ c):i=j:=by
 cases i <;> cases j <;> simp only [Ix.ok] at hi hj <;> simp only [Ix.at_,ZbV,ZcH,Zbl,ZbR,Zdo,ZbU,Zgb,ZhF] at h <;> first
  | (exfalso; omega)
  | (congr 1; omega)
  | rfl
  | (rename_i s o s' o'; obtain ⟨h1,h2⟩:=Zq0 (s:=s) (s':=s') hi.2 hj.2 (by omega); rw [h1,h2])
structure Enc (c:Ch)(st:St)(g:List Nat):Prop where
 len:g.length=c.words
 val:∀ i:Ix,i.ok c→g[i.at_ c]?=some (val c st i)
theorem Enc.same {c:Ch}{st st':St}{g:List Nat}(E:Enc c st g)(h:∀ j:Ix,j.ok c→Cv.val c st' j=Cv.val c st j):Enc c st' g:=⟨E.len,fun j hj=>by rw [E.val j hj,h j hj]⟩
theorem Enc.set {c:Ch}{st st':St}{g:List Nat}{i:Ix}{x:Nat}(E:Enc c st g)(hi:i.ok c)(h:∀ j:Ix,j.ok c→j≠i→Cv.val c st' j=Cv.val c st j)(hx:Cv.val c st' i=x):Enc c st' (g.set (i.at_ c) x):=by
 refine ⟨by rw [List.length_set]; exact E.len,fun j hj => ?_⟩
 rw [List.getElem?_set]
 split
 ·rename_i e
  have:=Ix.inj hi hj e
  subst this
  rw [if_pos (by rw [E.len]; exact Ix.lt hi),hx]
 ·rename_i e
  rw [E.val j hj,h j hj (fun e2=>e (by rw [e2]))]
theorem Enc.set2 {c:Ch}{st st':St}{g:List Nat}{i i2:Ix}{x y:Nat}(E:Enc c st g)(hi:i.ok c)(hi2:i2.ok c)(_hne:i≠i2)(h:∀ j:Ix,j.ok c→j≠i→j≠i2→Cv.val c st' j=Cv.val c st j)(hx:Cv.val c st' i=x)(hy:Cv.val c st' i2=y):Enc c st' ((g.set (i.at_ c) x).set (i2.at_ c) y):=by
 refine ⟨by rw [List.length_set,List.length_set]; exact E.len,fun j hj => ?_⟩
 rw [List.getElem?_set,List.length_set]
 split
 ·rename_i e
  have:=Ix.inj hi2 hj e
  subst this
  rw [if_pos (by rw [E.len]; exact Ix.lt hi2),hy]
 ·rename_i e
  rw [List.getElem?_set]
  split
  ·rename_i e1
   have:=Ix.inj hi hj e1
   subst this
   rw [if_pos (by rw [E.len]; exact Ix.lt hi),hx]
  ·rename_i e1
   rw [E.val j hj,h j hj (fun e2=>e1 (by rw [e2])) (fun e2=>e (by rw [e2]))]
theorem Zal {g:List Nat}{i x:Nat}(h:W64 g)(hx:x<18446744073709551616):W64 (g.set i x):=fun y hy=>by
 rcases List.mem_or_eq_of_mem_set hy with h1 | h1
 ·exact h y h1
 ·rw [h1]
  exact hx
def Zcj (pc:Int):Bool:=(35≤pc&&pc≤39)||(46≤pc&&pc≤49)||(56≤pc&&pc≤59)||(64≤pc&&pc≤68)||pc==76||pc==77||pc==81||(84≤pc&&pc≤94)||(96≤pc&&pc≤103)
def ZfV (c:Ch)(st:St):Nat:=(st.sl .shelf).countP fun s=>(st.ol s .first).length==c.O && !st.frz s
structure Zbc (c:Ch)(mn cp:Nat)(st:St):Prop where
 om:∀ s x,x.listed=true→∀ o,o∈st.ol s x↔st.loc s o=x
 od:∀ s x,x.listed=true→(st.ol s x).Nodup
 ob:∀ s o,st.loc s o≠.none→s<c.S∧o<c.O
 oh:∀ s o k,st.loc s o = .head k→st.own s = .head k
 sm:∀ x,x.listed=true→∀ s,s∈st.sl x↔st.own s=x
 sd:∀ x,x.listed=true→(st.sl x).Nodup
 sb:∀ s,st.own s≠.dead→s<c.S
 s1:∀ k,(st.sl (.head k)).length≤1∧(st.sl (.mine k)).length≤1
 sk:∀ s k,st.own s = .head k∨st.own s = .part k∨st.own s = .chain k∨st.own s = .mine k→k<c.C
 live:∀ s o,s<c.S→o<c.O→(st.loc s o = .none↔st.own s = .dead)
 dead:∀ s,st.own s = .dead→st.lv s=false
 making:∀ s k,st.own s = .mine k→st.lv s=false→∀ o,o<c.O→st.loc s o = .ZaB k
 full:∀ s,st.own s = .full→st.lv s=true∧st.frz s=false∧st.ol s .first=[]
 shelf:∀ s,st.own s = .shelf→st.lv s=true∧(st.cut≠some s→st.frz s=false∧st.ol s .first≠[])
 cuts:∀ s,st.cut=some s→st.own s = .shelf∧st.frz s=true
 hpc:∀ s k,st.own s = .head k∨st.own s = .part k∨st.own s = .chain k→st.lv s=true∧st.frz s=true
 l1:∀ s,lkd (st.lk s) (See.keyOf c.key s) (st.ol s .first) (-1)
 l2:∀ s k,lkd (st.lk s) (See.keyOf c.key s) (st.ol s (.head k)) (-1)
 cP:∀ k,chP st.nx (st.sl (.part k))∧chP st.nx (st.sl (.chain k))
 cS:chS st.nx (st.sl .shelf)
 cap:∀ k,(st.sl (.part k)).length≤cp
 rest:st.hold=none→st.cut=none∧st.held=(st.sl .shelf).length∧ZfV c st≤mn
 turn:∀ k,st.ht k≤st.n∧st.pt k≤st.n
 nxb:∀ s,st.nx s<18446744073709551616
 hn:∀ k,st.hold=some k→k<c.C
def Has (st:St)(k:Nat)(ms:List Nat)(s:Nat)(l:List Nat)(ch:List Nat):Prop:=st.sl (.mine k)=ms∧(∀ x,st.ol x (.ZaB k)=if x=s then l else [])∧st.sl (.chain k)=ch
theorem Has.ms {st:St}{k s:Nat}{ms l ch:List Nat}(h:Has st k ms s l ch):st.sl (.mine k)=ms:=h.1
theorem Has.ob {st:St}{k s:Nat}{ms l ch:List Nat}(h:Has st k ms s l ch):∀ x,st.ol x (.ZaB k)=if x=s then l else []:=h.2.1
theorem Has.ch {st:St}{k s:Nat}{ms l ch:List Nat}(h:Has st k ms s l ch):st.sl (.chain k)=ch:=h.2.2
end Go.Proofs.YtfcpdlbkmkhhcaaGreatDoor.Cv
