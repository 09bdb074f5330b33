/-
  Texts of this claim, joined. No condition.
-/
import Derived.Test.YtfcpdlbkmkhhcaaGreatDoorCn24
import Derived.Test.YtfcpdlbkmkhhcaaGreatDoorCn23
import Derived.Deep.MidRow
import Derived.Test.YtfcpdlbkmkhhcaaGreatDoorCn14
namespace Go.Proofs.YtfcpdlbkmkhhcaaGreatDoor.Cw
open Go Ex Mem See
open Go.RowKit
section
noncomputable def gvT:List AV:=[si (v 10),si (v 11),.int .i64 78,.int .i64 0,.int .i64 2,si (v 15),si (v 16),su (v 17),su (v 18),su (v 19),su (v 20),su (v 21),si (v 22),si (v 23),si (v 24),si (v 25),si (v 26)]
noncomputable def gvR (pc fin:Int):List AV:=[si (v 10),si (v 11),.int .i64 pc,.int .i64 fin,.int .i64 0,si (v 15),si (v 16),su (v 17),su (v 18),su (v 19),su (v 20),su (v 21),si (v 22),si (v 23),si (v 24),si (v 25),si (v 26)]
noncomputable def Zmm (fs:List (Cnd×Bool))(pc fin:Int):Bool:=Zho Tryz.prog FillTab.gs [] (kgs []) [] 40 42 [.agg gvT] ⟨[],ZlE (v 31) (.lvar 0),⟨60,1,0,3004⟩⟩ (.is (.tup [.agg (gvR pc fin),.int .i64 0]) (ZlE (v 31) (.lvar 0))) fs
theorem gv1:Zmm [(.eq (v 25) (l 79),false),(.eq (v 25) (l 73),false),(.eq (v 25) (l 95),false),(.eq (v 25) (l 0),true)] 78 1=true:=by kernel_rfl
theorem gv2:Zmm [(.eq (v 25) (l 79),false),(.eq (v 25) (l 73),true)] 73 0=true:=by kernel_rfl
theorem gv3:Zmm [(.eq (v 25) (l 79),false),(.eq (v 25) (l 73),false),(.eq (v 25) (l 95),true)] 95 0=true:=by kernel_rfl
theorem gv4:Zmm [(.eq (v 25) (l 79),true),(.eq (v 17) (l 0),true)] 78 1=true:=by kernel_rfl
theorem gv5:Zmm [(.eq (v 25) (l 79),true),(.eq (v 17) (l 0),false)] 79 0=true:=by kernel_rfl
theorem Zk6 {f:FuncId}{args:List AV}{res:AV}{fs:List (Cnd×Bool)}(hr:Zho Tryz.prog FillTab.gs [] (kgs []) [] 40 f args ⟨[],ZlE (v 31) (.lvar 0),⟨60,1,0,3004⟩⟩ (.is res (ZlE (v 31) (.lvar 0))) fs=true)(hsa:AV.shuts args=true)(hsr:res.shut=true)
 {V:Nat→Int} {g:List Nat} {cnt:Nat} (ok:∀ q∈fs,q.1.ev (sgW V g)=q.2)
 (h30:V 30=(g.length:Int)) (h31:V 31=(cnt:Int)) (hgm:g.length≤4096)
 {W w:World} {m:List (Nat×Obj)} {b0 b1:Nat} (hgs:ZdY FillTab.gs w) (hgW:∀ b l,Zec b FillTab.gs=some l→b<W.heap.size) (hO:Own W (mB b0 b1 g.length cnt::wB b1 g::m) w) :
 Calls Tryz.prog f (Ex.Zar (sgW V g) args).toArray w fun e w'=>e = .returned (Ex.valOf (sgW V g) res)∧Own W (mB b0 b1 g.length cnt::wB b1 g::m) w':=by
 have hk:Zl1 FillTab.gs [] roN Tryz.prog (sgW V g) ΩW (kgs []):=fun fs ok args k hk=>by cases hk
 letI N:Zac:=nums FillTab.gs [] roN (sgW V g) ΩW fs ok
 have e30:(v 30).ev (sgW V g)=(g.length:Int):=(Zbp (by omega)).trans h30
 have e31:(v 31).ev (sgW V g)=(cnt:Int):=(Zbp (by omega)).trans h31
 have hsz:(Zf1 g).size=g.length:=by simp [Zf1,words]
 have hl0:ZbM (sgW V g) (.lvar 0) (one (Zb0 g)):=ZbM.var (by omega)
 have r0:ZjR 3002 3003 b0 2 b1 (Zf1 g).size 3002=some (b0,2):=if_pos rfl
 have r1:ZjR 3002 3003 b0 2 b1 (Zf1 g).size 3003=some (b1,(Zf1 g).size):=by
  unfold ZjR
  rw [if_neg (by omega),if_pos rfl]
 refine (Zhb (by kernel_rfl) hk (by omega) (by show 3002<3004; omega) (by show 3003<3004; omega) (by show 3004≤1000000; omega) ok hr
  (K:=fun a post=>a=res∧post=ZlE (v 31) (.lvar 0)) ⟨_,_,rfl,rfl,rfl⟩ hgs hgW hO ?_ ?_ ?_).mono ?_
 ·refine ⟨_,rfl,rfl,Nat.le_refl _,fun i v hi => ?_⟩
  match i with
  | 0 =>
    simp only [List.getElem?_cons_zero,Option.some.injEq] at hi
    subst hi
    refine ⟨rfl,.slice (some ⟨b1,0,none⟩) g.length g.length,rfl,?_⟩
    unfold VR
    exact ⟨b1,_,g.length,g.length,r1,rfl,Nat.le_refl _,by unfold maxLen; omega,by omega,e30⟩
  | 1 =>
    simp only [List.getElem?_cons_succ,List.getElem?_cons_zero,Option.some.injEq] at hi
    subst hi
    refine ⟨rfl,.int .i64 (cnt:Int),rfl,?_⟩
    unfold si VR
    exact congrArg (Value.int .i64) e31.symm
  | i+2=>simp at hi
 ·exact ZiI (b:=b1) hl0.is
 ·exact VRs.Zc6 hsa
 ·rintro e w' ⟨fs',ok',a,p0,p1,ρ',y,o0',o1',⟨rfl,hp⟩,rfl,q0,q1,hv,T0,T1,h'⟩
  simp only [ZlE,List.cons.injEq,Prod.mk.injEq,true_and,and_true] at hp
  obtain ⟨rfl,rfl⟩:=hp
  letI N':Zac:=nums FillTab.gs [] roN (sgW V g) ΩW fs' ok'
  have hv:=VR.shut hv hsr
  have h1:=ZdW (n:=g.length) hl0 rfl (by rw [← hsz]; exact T1)
  obtain ⟨cur,c1,c2,c3,c4⟩:=T0
  simp only [Option.some.injEq] at c1
  subst c1
  obtain ⟨-,y0,hy0,hz0⟩:=c4 0 _ rfl
  obtain ⟨-,y1,hy1,hz1⟩:=c4 1 _ rfl
  unfold VR at hz0
  unfold si VR at hz1
  obtain ⟨b,z,len,cc,hb,rfl,d1,d2,d3,d4⟩:=hz0
  rw [q1] at hb
  cases hb
  have d4':(g.length:Int)=len:=e30.symm.trans d4
  have d3':cc * 1=g.length:=d3.trans hsz
  have hlen:len=g.length:=by omega
  have hcc:cc=g.length:=by omega
  subst hlen
  subst hcc
  have hcur:cur=#[.slice (some ⟨b1,0,none⟩) g.length g.length,.int .i64 ((cnt:Nat):Int)]:=by
   apply Array.ext
   ·exact c2
   ·intro i hi1 hi2
    match i with
    | 0 =>
      rw [Array.getElem?_eq_getElem hi1] at hy0
      exact Option.some.inj hy0
    | 1 =>
      rw [Array.getElem?_eq_getElem hi1] at hy1
      rw [Option.some.inj hy1,hz1]
      exact congrArg (Value.int .i64) e31
    | i+2 =>
      have:cur.size=2:=c2
      omega
  subst hcur
  subst h1
  exact ⟨by rw [hv]; rfl,h'⟩
variable {t t':Tk}{g:List Nat}
theorem Ze1 {fs:List (Cnd×Bool)}{pc fin:Int}(hr:Zmm fs pc fin=true)(hfs:∀ n cnt,Facts (sgW (vOf ⟨0,0,0,0⟩ 0 0 t n cnt (fun _=>0)) g) fs)(h1:t.pc=78)(h2:t.fin=0)(h3:t.want=2)(hgm:g.length≤4096)
 {W w:World} {m:List (Nat×Obj)} {b0 b1 cnt:Nat} (hgs:ZdY FillTab.gs w) (hgW:∀ b l,Zec b FillTab.gs=some l→b<W.heap.size) (hO:Own W (mB b0 b1 g.length cnt::wB b1 g::m) w) :
 Calls Tryz.prog 42 #[tkV t] w fun e w'=>e = .returned (.tuple #[tkV { t with want:=0,pc:=pc,fin:=fin },.int .i64 0])∧Own W (mB b0 b1 g.length cnt::wB b1 g::m) w':=by
 have e:∀ i,i<2048→(v i).ev (sgW (vOf ⟨0,0,0,0⟩ 0 0 t g.length cnt (fun _=>0)) g)=vOf ⟨0,0,0,0⟩ 0 0 t g.length cnt (fun _=>0) i:=fun i hi=>Zbp hi
 have:=Zk6 (V:=vOf ⟨0,0,0,0⟩ 0 0 t g.length cnt (fun _=>0)) hr rfl rfl (hfs _ _) rfl rfl hgm hgs hgW hO
 have ea:(Ex.Zar (sgW (vOf ⟨0,0,0,0⟩ 0 0 t g.length cnt (fun _=>0)) g) [AV.agg gvT]).toArray=#[tkV t]:=by
  simp only [tkV,gvT,si,su,Ex.valOf,Ex.Zar,e 10 (by omega),e 11 (by omega),e 15 (by omega),e 16 (by omega),e 17 (by omega),e 18 (by omega),e 19 (by omega),e 20 (by omega),e 21 (by omega),e 22 (by omega),e 23 (by omega),e 24 (by omega),e 25 (by omega),e 26 (by omega),vOf,h1,h2,h3]
 have er:Ex.valOf (sgW (vOf ⟨0,0,0,0⟩ 0 0 t g.length cnt (fun _=>0)) g) (.tup [.agg (gvR pc fin),.int .i64 0]) = .tuple #[tkV { t with want:=0,pc:=pc,fin:=fin },.int .i64 0]:=by
  simp only [tkV,gvR,si,su,Ex.valOf,Ex.Zar,e 10 (by omega),e 11 (by omega),e 15 (by omega),e 16 (by omega),e 17 (by omega),e 18 (by omega),e 19 (by omega),e 20 (by omega),e 21 (by omega),e 22 (by omega),e 23 (by omega),e 24 (by omega),e 25 (by omega),e 26 (by omega),vOf]
 rw [ea,er] at this
 exact this
theorem ZtQ {pc:Int}(h:t.fin=0):({ t with want:=0,pc:=pc,fin:=0 }:Tk)={ t with want:=0,pc:=pc }:=by
 cases t
 simp only at h
 subst h
 rfl
theorem Zt3 {fin:Int}(h:t.pc=78):({ t with want:=0,pc:=78,fin:=fin }:Tk)={ t with want:=0,fin:=fin }:=by
 cases t
 simp only at h
 subst h
 rfl
theorem Zml (hg:Zb2 { t with want:=0 }=some t')(h1:t.pc=78)(h2:t.fin=0)(h3:t.want=2)(hgm:g.length≤4096)
 {W w:World} {m:List (Nat×Obj)} {b0 b1 cnt:Nat} (hgs:ZdY FillTab.gs w) (hgW:∀ b l,Zec b FillTab.gs=some l→b<W.heap.size) (hO:Own W (mB b0 b1 g.length cnt::wB b1 g::m) w) :
 Calls Tryz.prog 42 #[tkV t] w fun e w'=>e = .returned (.tuple #[tkV t',.int .i64 0])∧Own W (mB b0 b1 g.length cnt::wB b1 g::m) w':=by
 have e25:∀ n cnt,(v 25).ev (sgW (vOf ⟨0,0,0,0⟩ 0 0 t n cnt (fun _=>0)) g)=t.back:=fun n cnt=>Zbp (by omega)
 have e17:∀ n cnt,(v 17).ev (sgW (vOf ⟨0,0,0,0⟩ 0 0 t n cnt (fun _=>0)) g)=(t.H:Int):=fun n cnt=>Zbp (by omega)
 unfold Zb2 at hg
 dsimp only at hg
 by_cases q0:t.back=0
 ·rw [if_pos q0] at hg
  cases hg
  have:=Ze1 (t:=t) (g:=g) gv1 (fun n cnt=>Facts.app (ZpG (e25 n cnt) Zf9 (by omega)) (Facts.app (ZpG (e25 n cnt) Zf9 (by omega)) (Facts.app (ZpG (e25 n cnt) Zf9 (by omega)) (Zqg (e25 n cnt) Zf9 (by omega))))) h1 h2 h3 hgm hgs hgW hO
  rw [Zt3 h1] at this
  exact this
 ·rw [if_neg q0] at hg
  by_cases q1:t.back=73
  ·rw [if_pos q1] at hg
   cases hg
   have:=Ze1 (t:=t) (g:=g) gv2 (fun n cnt=>Facts.app (ZpG (e25 n cnt) Zf9 (by omega)) (Zqg (e25 n cnt) Zf9 (by omega))) h1 h2 h3 hgm hgs hgW hO
   rw [ZtQ h2] at this
   exact this
  ·rw [if_neg q1] at hg
   by_cases q2:t.back=95
   ·rw [if_pos q2] at hg
    cases hg
    have:=Ze1 (t:=t) (g:=g) gv3 (fun n cnt=>Facts.app (ZpG (e25 n cnt) Zf9 (by omega)) (Facts.app (ZpG (e25 n cnt) Zf9 (by omega)) (Zqg (e25 n cnt) Zf9 (by omega)))) h1 h2 h3 hgm hgs hgW hO
    rw [ZtQ h2] at this
    exact this
   ·rw [if_neg q2] at hg
    by_cases q3:t.back=79
    ·rw [if_pos q3] at hg
     by_cases q4:t.H=0
     ·rw [if_pos q4] at hg
      cases hg
      have:=Ze1 (t:=t) (g:=g) gv4 (fun n cnt=>Facts.app (Zqg (e25 n cnt) Zf9 (by omega)) (Zqg (e17 n cnt) Zf9 (by omega))) h1 h2 h3 hgm hgs hgW hO
      rw [Zt3 h1] at this
      exact this
     ·rw [if_neg q4] at hg
      cases hg
      have:=Ze1 (t:=t) (g:=g) gv5 (fun n cnt=>Facts.app (Zqg (e25 n cnt) Zf9 (by omega)) (ZpG (e17 n cnt) Zf9 (by omega))) h1 h2 h3 hgm hgs hgW hO
      rw [ZtQ h2] at this
      exact this
    ·rw [if_neg q3] at hg
     cases hg
end
end Go.Proofs.YtfcpdlbkmkhhcaaGreatDoor.Cw

namespace Go.Proofs.YtfcpdlbkmkhhcaaGreatDoor.Cw
open Go Mem See
open Go.RowKit
attribute [local go_sem ↓] Go.wp_at_zero Go.wp_at_succ
section
variable {W w:World}{m:List (Nat×Obj)}{bc b0 b1 bt b:Nat}{c:Ch}{mn cp cnt:Nat}{t t':Tk}{g g':List Nat}{es:Array MapEntry}{ck n:Nat}{f:Int→Option Value}{i:Nat}
set_option maxRecDepth 100000 in
set_option maxHeartbeats 8000000 in
theorem Zkz (h:Own W (crB bc b0 bt c mn cp::(bt,.map es ck)::mB b0 b1 g.length cnt::wB b1 g::m) w)(hT:Ex.ZdY FillTab.gs W)(hC:c.C≤8)(hgm:g.length≤4096)(hv:VM es ck n f)(hi:i<c.C)(hf:f i=some (tkV t))
 (hp:t.pc=78) (hfin:t.fin=0) (hw:t.want=2) (hg:Zb2 { t with want:=0 }=some t') (hi':t'.cpu<9) :
 Calls Tryz.prog 25 #[.pointer (some ⟨bc,0,Option.none⟩),.int .i64 (i:Int)] w fun e w'=>∃ es' ck',e = .returned (.tuple #[tkV t',.int .i64 0])∧VM es' ck' (n+1) (Zlb f t')∧Own W (crB bc b0 bt c mn cp::(bt,.map es' ck')::mB b0 b1 g.length cnt::wB b1 g::m) w':=by
 have h1:Own W ((w.heap.size,z17)::crB bc b0 bt c mn cp::(bt,.map es ck)::mB b0 b1 g.length cnt::wB b1 g::m) (w.alloc z17):=h.new z17
 obtain ⟨B,hB⟩:∃ B,w.heap.size=B:=⟨_,rfl⟩
 rw [hB] at h1
 have h1:Own W (crB bc b0 bt c mn cp::(bt,.map es ck)::(B,z17)::mB b0 b1 g.length cnt::wB b1 g::m) (w.alloc z17):=h1.perm (up2 _ _ _ _).symm
 obtain ⟨wa,hwa⟩:∃ wa,w.alloc z17=wa:=⟨_,rfl⟩
 rw [hwa] at h1
 have HV:=Lib.hid hv
 have hm:=ZfF h1 hC hv hi hf
 rw [hw] at hm
 have HM:=Lib.hid hm
 have HG:Hid (∀ {w:World} {m:List (Nat×Obj)},Own W (mB b0 b1 g.length cnt::wB b1 g::m) w→Calls Tryz.prog 42 #[tkV t] w fun e w'=>e = .returned (.tuple #[tkV t',.int .i64 0])∧Own W (mB b0 b1 g.length cnt::wB b1 g::m) w'):=fun h=>Zml hg hp hfin hw hgm (Zea hT h) (Zk9 hT) h
 have HI:=Lib.hid hi'
 clear h h1 hv hf hi hw hm hT hgm hp hfin hg hi'
 go_enter Tryz.func25,Tryz.ntmps25
 go_wp2_with fail
 refine HM.out.mono ?_
 rintro e w2 ⟨rfl,h2⟩
 have h3:Own W ((w2.heap.size,z17)::crB bc b0 bt c mn cp::(bt,.map es ck)::(B,z17)::mB b0 b1 g.length cnt::wB b1 g::m) (w2.alloc z17):=h2.new z17
 obtain ⟨B2,hB2⟩:∃ B,w2.heap.size=B:=⟨_,rfl⟩
 rw [hB2] at h3
 have H3:=Lib.hid h3
 have HT:=Lib.hid (ZaE t)
 clear h2 h3 HM hwa hB
 go_wp2_with (first
  | (refine Zab (t:=59) (new:=tkA t) rfl _ _ rfl rfl rfl Zap H3.out rfl HT.out ?_; intro w3 hS; have HX:Hid (Own W (tB B2 t::crB bc b0 bt c mn cp::(bt,.map es ck)::(B,z17)::mB b0 b1 g.length cnt::wB b1 g::m) w3):=hS; clear hS hB2)
  | (refine Zaq (t:=59) (old:=tkA t) rfl _ rfl rfl Tryz.underlying59 HX.out Zap ?_))
 have H4:Hid (Own W (mB b0 b1 g.length cnt::wB b1 g::tB B2 t::crB bc b0 bt c mn cp::(bt,.map es ck)::(B,z17)::m) w3):=HX.out.perm (Zao fun _ q=>by simp only [List.count_cons]; omega)
 refine (HG.out H4.out).mono ?_
 rintro e w5 ⟨rfl,h5⟩
 have H5:Hid (Own W (crB bc b0 bt c mn cp::(bt,.map es ck)::mB b0 b1 g.length cnt::wB b1 g::tB B2 t::(B,z17)::m) w5):=h5.perm (Zao fun _ q=>by simp only [List.count_cons]; omega)
 clear h5 H4 HX H3
 go_wp2_with fail
 refine (Zdj H5.out HV.out HI.out).mono ?_
 rintro e w9 ⟨es',ck',rfl,k1,h9⟩
 have K1:=Lib.hid k1
 have H9:Hid (Own W ((B,z17)::crB bc b0 bt c mn cp::(bt,.map es' ck')::mB b0 b1 g.length cnt::wB b1 g::tB B2 t::m) w9):=h9.perm (Zao fun _ q=>by simp only [List.count_cons]; omega)
 have HT':=Lib.hid (ZaE t')
 clear k1 h9
 go_wp2_with (first
  | (refine Zab (t:=59) (new:=tkA t') rfl _ _ rfl rfl rfl Zap H9.out rfl HT'.out ?_; intro w10 hT))
 obtain ⟨⟨x0,x1,x2,x3,x4,x5,x6,x7,x8,x9,x10,x11,x12,x13,x14,x15,x16⟩,-⟩:=Za8 (t:=t') hT
 have hT:Own W (tB B t'::crB bc b0 bt c mn cp::(bt,.map es' ck')::mB b0 b1 g.length cnt::wB b1 g::tB B2 t::m) w10:=hT
 have hT:Own W (tB B t'::tB B2 t::crB bc b0 bt c mn cp::(bt,.map es' ck')::mB b0 b1 g.length cnt::wB b1 g::m) w10:=hT.perm (Zao fun _ q=>by simp only [List.count_cons]; omega)
 exact bodyPost_ret (v:=.tuple #[tkV t',.int .i64 0]) (by simp [results,Tryz.f25,go_sem,x0,x1,x2,x3,x4,x5,x6,x7,x8,x9,x10,x11,x12,x13,x14,x15,x16,tkV]) rfl ⟨es',ck',rfl,K1.out,hT.skip.skip⟩
end
end Go.Proofs.YtfcpdlbkmkhhcaaGreatDoor.Cw

namespace Go.Proofs.YtfcpdlbkmkhhcaaGreatDoor.Cw
open Go Mem See
open Go.RowKit
attribute [local go_sem ↓] Go.wp_at_zero Go.wp_at_succ
section
variable {W w:World}{m:List (Nat×Obj)}{t:Tk}{s:Int}
set_option maxRecDepth 100000 in
set_option maxHeartbeats 1000000 in
theorem Zmh (h:Own W m w)(hf:t.fin=0)(hw:t.want=1) :
 Calls Tryz.prog 32 #[tkV t,.bool false,.int .i64 s] w fun e w'=>e = .returned (.tuple #[tkV { t with want:=0,fin:=2 },.int .i64 0])∧Own W m w':=by
 obtain ⟨jb,cpu,pc,fin,want,slab,obj,Hh,Tt,Ff,Kk,Nn,last,many,to_,back,for_⟩:=t
 simp only at hf hw
 subst hf hw
 have h1:=h.new (tB 0 ⟨jb,cpu,pc,0,1,slab,obj,Hh,Tt,Ff,Kk,Nn,last,many,to_,back,for_⟩).2
 have h2:=h1.new z17
 rw [World.size_alloc] at h2
 obtain ⟨B,hB⟩:∃ B,w.heap.size=B:=⟨_,rfl⟩
 rw [hB] at h2
 have h2:Own W ((B+1,z17)::tB B ⟨jb,cpu,pc,0,1,slab,obj,Hh,Tt,Ff,Kk,Nn,last,many,to_,back,for_⟩::m) _:=h2
 obtain ⟨wa,hwa⟩:∃ wa,(w.alloc (tB 0 ⟨jb,cpu,pc,0,1,slab,obj,Hh,Tt,Ff,Kk,Nn,last,many,to_,back,for_⟩).2).alloc z17=wa:=⟨_,rfl⟩
 rw [hwa] at h2
 obtain ⟨⟨x0,x1,x2,x3,x4,x5,x6,x7,x8,x9,x10,x11,x12,x13,x14,x15,x16⟩,fz⟩:=Za8 (t:=⟨jb,cpu,pc,0,1,slab,obj,Hh,Tt,Ff,Kk,Nn,last,many,to_,back,for_⟩) h2.skip
 have fz3:=fz 3
 have fz4:=fz 4
 have h3:=((h2.perm (sw _ _ _)).set 4 (.int .i64 0)).set 3 (.int .i64 2)
 have h4:Own W ((B+1,z17)::tB B ⟨jb,cpu,pc,2,0,slab,obj,Hh,Tt,Ff,Kk,Nn,last,many,to_,back,for_⟩::m) _:=h3.perm (sw _ _ _)
 have h3:Own W (tB B ⟨jb,cpu,pc,2,0,slab,obj,Hh,Tt,Ff,Kk,Nn,last,many,to_,back,for_⟩::(B+1,z17)::m) _:=h3
 have H4:=Lib.hid h4
 have HX:=Lib.hid h3
 have HT:=Lib.hid (ZaE ⟨jb,cpu,pc,2,0,slab,obj,Hh,Tt,Ff,Kk,Nn,last,many,to_,back,for_⟩)
 simp only at x3 x4
 clear h h1 h2 h3 h4 fz x0 x1 x2 x5 x6 x7 x8 x9 x10 x11 x12 x13 x14 x15 x16
 simp only [tB,tkA] at hwa
 unfold tkV
 simp only
 go_enter Tryz.func32,Tryz.ntmps32
 go_wp2_with (first
  | (refine Zaq (t:=59) (old:=tkA ⟨jb,cpu,pc,2,0,slab,obj,Hh,Tt,Ff,Kk,Nn,last,many,to_,back,for_⟩) rfl _ rfl rfl Tryz.underlying59 HX.out Zap ?_)
  | (refine Zab (t:=59) (new:=tkA ⟨jb,cpu,pc,2,0,slab,obj,Hh,Tt,Ff,Kk,Nn,last,many,to_,back,for_⟩) rfl _ _ rfl rfl rfl Zap H4.out rfl HT.out ?_; intro w4 hT))
 obtain ⟨⟨x0,x1,x2,x3,x4,x5,x6,x7,x8,x9,x10,x11,x12,x13,x14,x15,x16⟩,-⟩:=Za8 (t:=⟨jb,cpu,pc,2,0,slab,obj,Hh,Tt,Ff,Kk,Nn,last,many,to_,back,for_⟩) hT
 exact bodyPost_ret (v:=.tuple #[tkV ⟨jb,cpu,pc,2,0,slab,obj,Hh,Tt,Ff,Kk,Nn,last,many,to_,back,for_⟩,.int .i64 0]) (by simp [results,Tryz.f32,go_sem,x0,x1,x2,x3,x4,x5,x6,x7,x8,x9,x10,x11,x12,x13,x14,x15,x16,tkV]) rfl ⟨rfl,hT.skip.skip⟩
end
end Go.Proofs.YtfcpdlbkmkhhcaaGreatDoor.Cw

namespace Go.Proofs.YtfcpdlbkmkhhcaaGreatDoor.Cw
open Go Mem See
open Go.RowKit
attribute [local go_sem ↓] Go.wp_at_zero Go.wp_at_succ
section
variable {W w:World}{m:List (Nat×Obj)}{t:Tk}{s:Int}
set_option maxRecDepth 100000 in
set_option maxHeartbeats 8000000 in
theorem ZkD (h:Own W m w)(hs:0≤s∧s<32)(hf:t.fin=0)(hw:t.want=1) :
 Calls Tryz.prog 32 #[tkV t,.bool true,.int .i64 s] w fun e w'=>e = .returned (.tuple #[tkV { t with want:=0,slab:=s,many:=0,pc:=43 },.int .i64 0])∧Own W m w':=by
 obtain ⟨jb,cpu,pc,fin,want,slab,obj,Hh,Tt,Ff,Kk,Nn,last,many,to_,back,for_⟩:=t
 simp only at hf hw
 subst hf hw
 have h1:=h.new (tB 0 ⟨jb,cpu,pc,0,1,slab,obj,Hh,Tt,Ff,Kk,Nn,last,many,to_,back,for_⟩).2
 have h2:=h1.new z17
 rw [World.size_alloc] at h2
 obtain ⟨B,hB⟩:∃ B,w.heap.size=B:=⟨_,rfl⟩
 rw [hB] at h2
 have h2:Own W ((B+1,z17)::tB B ⟨jb,cpu,pc,0,1,slab,obj,Hh,Tt,Ff,Kk,Nn,last,many,to_,back,for_⟩::m) _:=h2
 obtain ⟨wa,hwa⟩:∃ wa,(w.alloc (tB 0 ⟨jb,cpu,pc,0,1,slab,obj,Hh,Tt,Ff,Kk,Nn,last,many,to_,back,for_⟩).2).alloc z17=wa:=⟨_,rfl⟩
 rw [hwa] at h2
 obtain ⟨⟨x0,x1,x2,x3,x4,x5,x6,x7,x8,x9,x10,x11,x12,x13,x14,x15,x16⟩,fz⟩:=Za8 (t:=⟨jb,cpu,pc,0,1,slab,obj,Hh,Tt,Ff,Kk,Nn,last,many,to_,back,for_⟩) h2.skip
 have fz2:=fz 2
 have fz5:=fz 5
 have fz13:=fz 13
 have d1:¬ s<0:=by omega
 have d2:¬ 32≤s:=by omega
 have fz4:=fz 4
 have h3:=((h2.perm (sw _ _ _)).set 4 (.int .i64 0)).set 5 (.int .i64 s) |>.set 13 (.int .i64 0) |>.set 2 (.int .i64 43)
 have h4:Own W ((B+1,z17)::tB B ⟨jb,cpu,43,0,0,s,obj,Hh,Tt,Ff,Kk,Nn,last,0,to_,back,for_⟩::m) _:=h3.perm (sw _ _ _)
 have h3:Own W (tB B ⟨jb,cpu,43,0,0,s,obj,Hh,Tt,Ff,Kk,Nn,last,0,to_,back,for_⟩::(B+1,z17)::m) _:=h3
 have H4:=Lib.hid h4
 have HX:=Lib.hid h3
 have HT:=Lib.hid (ZaE ⟨jb,cpu,43,0,0,s,obj,Hh,Tt,Ff,Kk,Nn,last,0,to_,back,for_⟩)
 simp only at x2 x3 x4 x5 x13
 clear h h1 h2 h3 h4 fz x0 x1 x6 x7 x8 x9 x10 x11 x12 x14 x15 x16
 simp only [tB,tkA] at hwa
 unfold tkV
 simp only
 go_enter Tryz.func32,Tryz.ntmps32
 go_wp2_with (first
  | (refine Zaq (t:=59) (old:=tkA ⟨jb,cpu,43,0,0,s,obj,Hh,Tt,Ff,Kk,Nn,last,0,to_,back,for_⟩) rfl _ rfl rfl Tryz.underlying59 HX.out Zap ?_)
  | (refine Zab (t:=59) (new:=tkA ⟨jb,cpu,43,0,0,s,obj,Hh,Tt,Ff,Kk,Nn,last,0,to_,back,for_⟩) rfl _ _ rfl rfl rfl Zap H4.out rfl HT.out ?_; intro w4 hT))
 obtain ⟨⟨x0,x1,x2,x3,x4,x5,x6,x7,x8,x9,x10,x11,x12,x13,x14,x15,x16⟩,-⟩:=Za8 (t:=⟨jb,cpu,43,0,0,s,obj,Hh,Tt,Ff,Kk,Nn,last,0,to_,back,for_⟩) hT
 exact bodyPost_ret (v:=.tuple #[tkV ⟨jb,cpu,43,0,0,s,obj,Hh,Tt,Ff,Kk,Nn,last,0,to_,back,for_⟩,.int .i64 0]) (by simp [results,Tryz.f32,go_sem,x0,x1,x2,x3,x4,x5,x6,x7,x8,x9,x10,x11,x12,x13,x14,x15,x16,tkV]) rfl ⟨rfl,hT.skip.skip⟩
end
end Go.Proofs.YtfcpdlbkmkhhcaaGreatDoor.Cw

namespace Go.Proofs.YtfcpdlbkmkhhcaaGreatDoor
open Go.RowKit
section
variable {P:Program}{W w:World}{m:List (Nat×Obj)}{b:Nat}{pre old new post:List Value}{e t:TypeId}{v:Value}
theorem Zeq {d:TypeDesc}(h:Own W ((b,.cells (pre++old++post).toArray e)::m) w)(hu:P.underlying t=some d)(hd:d.isRow=true)(hs:Ex.Za2 P t=some old.length) :
 (Instr.loadAt t (.pointer (some ⟨b,pre.length,none⟩))).run P w = .ok (.agg old.toArray) w:=by
 have hcur:=h.get (List.mem_cons_self)
 have hrange:w.rangeAt b pre.length old:=fun j z hz=>by
  have hj:j<old.length:=(List.getElem?_eq_some_iff.1 hz).1
  simp only [World.cell?,hcur]
  rw [List.getElem?_toArray,List.append_assoc,List.getElem?_append_right (by omega),Nat.add_sub_cancel_left,List.getElem?_append_left hj]
  exact hz
 exact run_loadAt_mid (P:=P) w b pre.length t old d hrange hu hd (by rw [Ex.Zd9 hs])
end
end Go.Proofs.YtfcpdlbkmkhhcaaGreatDoor

namespace Go.Proofs.YtfcpdlbkmkhhcaaGreatDoor
open Go.RowKit
section
variable {P:Program}
theorem Zrk (t:TypeId)(i:TypeInfo)(z:Value)(hi:P.info? t=some i)(hz:i.zero=some z)(w:World) :
 (Instr.alloc t true (.tuple #[])).run P w = .ok (.pointer (some ⟨w.heap.size,0,none⟩)) (w.alloc (.cells z.cells t)):=by
 unfold Instr.alloc
 simp [zeroValue,newVar,newRow,typeInfo,hi,hz,go_sem]
end
end Go.Proofs.YtfcpdlbkmkhhcaaGreatDoor
