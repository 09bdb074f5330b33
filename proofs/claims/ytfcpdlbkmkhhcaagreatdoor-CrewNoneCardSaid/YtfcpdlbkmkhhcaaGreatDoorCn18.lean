/-
  Texts of this claim, joined. No condition.
-/
import Derived.Test.YtfcpdlbkmkhhcaaGreatDoorCn17
import Derived.Test.YtfcpdlbkmkhhcaaGreatDoorCn16
import Derived.Test.YtfcpdlbkmkhhcaaGreatDoorCn15
import Derived.Test.YtfcpdlbkmkhhcaaGreatDoorCn14
namespace Go.Proofs.YtfcpdlbkmkhhcaaGreatDoor.See
open Go.RowKit
open chartPlaces (Ok)
attribute [local go_sem ↓] Go.wp_at_zero Go.wp_at_succ
section
variable {W w:World}{M m:List (Nat×Obj)}{B o N k b ck n:Nat}{g:List Nat}{c:Ch}{d e:Int}{es:Array MapEntry}{f:Int→Option Int}
def seen (out:List Int):Int→Option Int:=fun s=>if s∈out then some 1 else none
end
end Go.Proofs.YtfcpdlbkmkhhcaaGreatDoor.See



namespace Go.Proofs.YtfcpdlbkmkhhcaaGreatDoor.See
open Go.RowKit
open chartPlaces (Ok)
attribute [local go_sem ↓] Go.wp_at_zero Go.wp_at_succ
section
variable {W w:World}{M m:List (Nat×Obj)}{B o N k b:Nat}{g:List Nat}{c:Ch}{d e:Int}
def Zuk (b:Nat)(a o:Int)(f l:Bool)(v:Value):Nat×Obj:=(b,.cells #[.int .i64 a,.int .i64 o,.bool f,.bool l,v] 49)
end
end Go.Proofs.YtfcpdlbkmkhhcaaGreatDoor.See

namespace Go.Proofs.YtfcpdlbkmkhhcaaGreatDoor.See
open Go.RowKit
structure ZrB where
 x:ZrC
 lv:Value
 lb:List (Nat×Obj)
 pv:Value
 pb:List (Nat×Obj)
def ZrB.cells (s:ZrB):List Value:=[.int .i64 s.x.slab,s.lv,.int .u64 s.x.turn,s.pv]
structure Zrz where
 x:ZrA
 v:Value
 b:List (Nat×Obj)
def Zrz.cells (s:Zrz):List Value:=[.int .i64 s.x.counts.inuse,.int .i64 s.x.counts.objects,.bool s.x.counts.frozen,.bool s.x.counts.live,s.v]
section
variable {P:Program}{W w:World}{m bs:List (Nat×Obj)}{v xv:Value}{xs news:List Value}{e size n k bytes:Nat}
end
end Go.Proofs.YtfcpdlbkmkhhcaaGreatDoor.See

namespace Go.Proofs.YtfcpdlbkmkhhcaaGreatDoor.See
open Go.RowKit
open Apart (chV chB ZrX Ztj)
open chartPlaces (Ok)
attribute [local go_sem ↓] Go.wp_at_zero Go.wp_at_succ
section
variable {W w:World}{M m:List (Nat×Obj)}{B o N k b:Nat}{g:List Nat}{c:Ch}{d e:Int}
theorem Zpv (c:Ch):4 * (c.C:Int)+4+4 * (c.S:Int)+(c.S:Int) * (c.O:Int)=(c.words:Int):=by
 unfold Ch.words
 push_cast
 rfl
end
end Go.Proofs.YtfcpdlbkmkhhcaaGreatDoor.See

namespace Go.Proofs.YtfcpdlbkmkhhcaaGreatDoor.Ex
open Go Mem See
open Go.RowKit
section
structure Sh where
 slots:List (Bool×Bool)
 shelf:Bool
 ZjW:List Bool
def Sh.n (s:Sh):Nat:=s.slots.length
def Zt8 (σ:Nat→Int)(q:Nat)(L:List Int):Prop:=(σ (ln q)).toNat=L.length∧∀ (i:Nat) x,L[i]?=some x→σ (lc q i 0)=x
def Ztl (ρ:Ren)(nm:Nat)(ds:List (Nat×Obj)):Prop:=∀ (i:Nat) d,ds[i]?=some d→ρ (nm+i)=some (d.1,Zay d.2)
def Zot [Zac](ρ:Ren):List TB→List (Nat×Obj)→Prop
 | [],[]=>True
 | t::ts,d::ds=>TR ρ t (Zay d.2) (some d.2)∧Zot ρ ts ds
 | _,_=>False
theorem Zot.get [Zac]{ρ:Ren}:∀ {a:List TB} {x:List (Nat×Obj)},Zot ρ a x→∀ (i:Nat) t d,a[i]?=some t→x[i]?=some d→TR ρ t (Zay d.2) (some d.2)
 | [],[],_,_,_,_,h,_=>by simp at h
 | [],_::_,h,_,_,_,_,_=>h.elim
 | _::_,[],h,_,_,_,_,_=>h.elim
 | t::a,d::x,h,0,_,_,h1,h2=>by
   simp only [List.getElem?_cons_zero,Option.some.injEq] at h1 h2
   subst h1; subst h2
   exact h.1
 | t::a,d::x,h,i+1,_,_,h1,h2=>Zot.get h.2 i _ _ (by simpa using h1) (by simpa using h2)
variable [Zac]
variable {c:Ch}{g:List Nat}{K:Zru}{s:Sh}{b q qW nW:Nat}
end
end Go.Proofs.YtfcpdlbkmkhhcaaGreatDoor.Ex

namespace Go.Proofs.YtfcpdlbkmkhhcaaGreatDoor.Ex
open Go Mem See Fast
open Go.RowKit
section
abbrev Zb0 (g:List Nat):List Int:=g.map fun (x:Nat)=>(x:Int)
theorem ZjE {g:List Nat}{i x:Nat}(h:g[i]?=some x):(Zb0 g)[i]?=some (x:Int):=by simp [Zb0,h]
theorem ZdQ (g:List Nat):(Zb0 g).length=g.length:=by simp [Zb0]
variable [Zac]
structure ZtT (σ:Nat→Int)(L:SE)(g:List Int):Prop where
 len:L.evN σ=g.length
 at_:∀ (i:Nat) x,g[i]?=some x→L.evA σ i 0=x
theorem ZiI {ρ:Ren}{L:SE}{b:Nat}{g:List Nat}(h:ZtT Zac.σ L (Zb0 g)):TR ρ (.recs L [.int .u64] 22) (Zay (wB b g).2) (some (wB b g).2):=by
 refine ⟨Zf1 g,rfl,rfl,?_,fun r j k hr hk => ?_⟩
 ·simp only [h.len,List.length_cons,List.length_nil,Nat.zero_add,Nat.mul_one,ZdQ]
  simp [Zay,wB,Zf1,words]
 ·rw [h.len,ZdQ] at hr
  have hj:j=0:=by
   have:=(List.getElem?_eq_some_iff.1 hk).1
   simp only [List.length_cons,List.length_nil] at this
   omega
  subst hj
  simp only [List.getElem?_cons_zero,Option.some.injEq] at hk
  subst hk
  simp only [List.length_cons,List.length_nil,Nat.zero_add,Nat.mul_one,Nat.add_zero]
  rw [h.at_ r _ (ZjE (List.getElem?_eq_getElem hr)),ZiK (List.getElem?_eq_getElem hr)]
  rfl
end
end Go.Proofs.YtfcpdlbkmkhhcaaGreatDoor.Ex

namespace Go.Proofs.YtfcpdlbkmkhhcaaGreatDoor.Ex
open Go
def one (L:List Int):List (List Int):=L.map fun x=>[x]
theorem Zin (L:List Int):(one L).length=L.length:=by simp [one]
theorem ZlL (L:List Int)(e j:Nat):(((one L)[e]?).getD [])[j]?.getD 0=if j=0 then L.getD e 0 else 0:=by
 unfold one
 rw [List.getElem?_map,List.getD_eq_getElem?_getD]
 cases h:L[e]? with
 | none=>cases j <;> simp
 | some x=>cases j <;> simp
structure ZbM (σ:Nat→Int)(L:SE)(g:List (List Int)):Prop where
 len:L.evN σ=g.length
 at_:∀ e j,j<64→L.evA σ e j=((g[e]?).getD [])[j]?.getD 0
section
variable {v v':Nat→Int}{l l':Nat→List (List Int)}{σ:Nat→Int}{g:List Int}{L:SE}
theorem ZbM.is (h:ZbM σ L (one g)):ZtT σ L g :=
 ⟨by rw [h.len,Zin],fun i x hx=>by rw [h.at_ i 0 (by omega),ZlL,if_pos rfl,List.getD_eq_getElem?_getD,hx]; rfl⟩
theorem ZbM.var {q:Nat}(hq:q<64):ZbM (sg v l) (.lvar q) (l q) :=
 ⟨by simp only [SE.evN]; rw [ZtJ hq,Int.toNat_natCast],fun e j hj=>by simp only [SE.evA]; rw [ZtI hq hj]⟩
theorem ZbM.set {e x:SE}{i:Nat}{y:Int}(h:ZbM σ L (one g))(he:e.ev σ=(i:Int))(hx:x.ev σ=y)(hi:i<g.length):ZbM σ (.lset L e 0 x) (one (g.set i y)):=by
 refine ⟨by simp only [SE.evN,h.len,Zin,List.length_set],fun a j hj => ?_⟩
 simp only [SE.evA,he,hx,Int.toNat_natCast]
 rw [ZlL,h.at_ a j hj,ZlL,List.getD_eq_getElem?_getD,List.getD_eq_getElem?_getD,List.getElem?_set]
 by_cases hj0:j=0
 ·by_cases ha:a=i
  ·subst ha
   rw [if_pos ⟨rfl,hj0⟩,if_pos hj0,if_pos rfl,if_pos hi]
   rfl
  ·rw [if_neg (show ¬ (a=i∧j=0) from fun h=>ha h.1),if_neg (show ¬ i=a from fun h=>ha h.symm)]
 ·rw [if_neg (fun h=>hj0 h.2),if_neg hj0,if_neg hj0]
end
theorem Zbe {x:Int}(h0 : -9223372036854775808≤x)(h1:x<9223372036854775808):IntKind.i64.wrap x=x:=by
 rw [IntKind.wrap_i64]
 omega
theorem Zok {x:Int}(h0:0≤x)(h1:x<18446744073709551616):IntKind.u64.wrap x=x:=by
 rw [IntKind.wrap_u64]
 omega
end Go.Proofs.YtfcpdlbkmkhhcaaGreatDoor.Ex

namespace Go.Proofs.YtfcpdlbkmkhhcaaGreatDoor.Cw
open Go Ex Mem
open Go.RowKit
section
theorem ZdW [Zac]{ρ:Ren}{L:SE}{n:Nat}{g':List Nat}{o:Obj}(hL:ZbM Zac.σ L (one (Zb0 g')))(hn:g'.length=n)(h:TR ρ (.recs L [.int .u64] 22) n (some o)):o=(wB 0 g').2:=by
 obtain ⟨cur,h1,h2,h3,h4⟩:=h
 simp only [Option.some.injEq] at h1
 subst h1
 have hl:L.evN Zac.σ=n:=by rw [hL.len,Zin,ZdQ,hn]
 have:cur=Zf1 g':=by
  apply Array.ext
  ·rw [h2,← hn]
   simp [Zf1,words]
  ·intro i hi1 hi2
   have hig:i<g'.length:=by rw [hn,← h2]; exact hi1
   have h5:=h4 i 0 (.int .u64) (by rw [hl]; omega) rfl
   simp only [List.length_cons,List.length_nil,Nat.zero_add,Nat.mul_one,Nat.add_zero] at h5
   rw [hL.is.at_ i _ (ZjE (List.getElem?_eq_getElem hig))] at h5
   have h6:=ZiK (List.getElem?_eq_getElem hig)
   rw [Array.getElem?_eq_getElem hi1] at h5
   rw [Array.getElem?_eq_getElem hi2] at h6
   rw [Option.some.inj h5,Option.some.inj h6]
   rfl
 rw [this]
 rfl
noncomputable def sgW (V:Nat→Int)(g:List Nat):Nat→Int:=sg V fun _=>one (Zb0 g)
theorem Zbp {V:Nat→Int}{g:List Nat}{i:Nat}(h:i<2048):(v i).ev (sgW V g)=V i:=by simp only [v,SE.ev,sgW,Zuf h]
abbrev ΩW:Nat→Nat→Nat→Obj→Prop:=fun _ _ _ _=>True
theorem Wy.calls {x:Wy}(hr:x.run=true){V:Nat→Int}{g g':List Nat}{cnt:Nat}(hk:Zl1 FillTab.gs [] roN Tryz.prog (sgW V g) ΩW (kgs x.kcs))(ok:∀ q∈x.fs++fC,q.1.ev (sgW V g)=q.2)(hsh:AV.shuts x.res=true)
 (h30:V 30=(g.length:Int)) (h31:V 31=(cnt:Int)) (hc:cnt<1000000000) (hgm:g.length≤4096) (hL:ZbM (sgW V g) x.g (one (Zb0 g'))) (hgl:g'.length=g.length)
 {W w:World} {m:List (Nat×Obj)} {b0 b1:Nat} (hgs:ZdY FillTab.gs w) (hgW:∀ b l,Zec b FillTab.gs=some l→b<W.heap.size) (hO:Own W (mB b0 b1 g.length cnt::wB b1 g::m) w)
 {c t:Value} (hcv:c=Ex.valOf (sgW V g) chF) (htv:t=Ex.valOf (sgW V g) (.agg (ZiF x.pc))) :
 Calls Tryz.prog x.f #[.pointer (some ⟨b0,0,none⟩),c,t] w fun e w'=>e = .returned (.tuple #[.agg (Ex.Zar (sgW V g) x.res).toArray,.int .i64 0])∧Own W (mB b0 b1 g.length (cnt+1)::wB b1 g'::m) w':=by
 subst hcv
 subst htv
 letI N:Zac:=nums FillTab.gs [] roN (sgW V g) ΩW (x.fs++fC) ok
 have e30:(v 30).ev (sgW V g)=(g.length:Int):=(Zbp (by omega)).trans h30
 have e31:(v 31).ev (sgW V g)=(cnt:Int):=(Zbp (by omega)).trans h31
 have e31':(add (v 31) (l 1)).ev (sgW V g)=((cnt+1:Nat):Int):=by
  show IntKind.i64.wrap ((v 31).ev (sgW V g)+1)=_
  rw [e31,Zbe (by omega) (by omega)]
  omega
 have hsz:(Zf1 g).size=g.length:=by simp [Zf1,words]
 have hl0:ZbM (sgW V g) (.lvar 0) (one (Zb0 g)):=ZbM.var (by omega)
 have r0:ZjR 3002 3003 b0 2 b1 (Zf1 g).size 3002=some (b0,2):=if_pos rfl
 have r1:ZjR 3002 3003 b0 2 b1 (Zf1 g).size 3003=some (b1,(Zf1 g).size):=by
  unfold ZjR
  rw [if_neg (by omega),if_pos rfl]
 refine (Zhb (by kernel_rfl) hk (by omega) (by show 3002<3004; omega) (by show 3003<3004; omega) (by show 3004≤1000000; omega) ok hr
  (K:=fun a post=>a = .tup [.agg x.res,.int .i64 0]∧post=ZlE (add (v 31) (l 1)) x.g) ⟨_,_,rfl,rfl,rfl⟩ hgs hgW hO ?_ ?_ ?_).mono ?_
 ·refine ⟨_,rfl,rfl,Nat.le_refl _,fun i v hi => ?_⟩
  match i with
  | 0 =>
    simp only [List.getElem?_cons_zero,Option.some.injEq] at hi
    subst hi
    refine ⟨rfl,.slice (some ⟨b1,0,none⟩) g.length g.length,rfl,?_⟩
    unfold VR
    exact ⟨b1,_,g.length,g.length,r1,rfl,Nat.le_refl _,by unfold maxLen; omega,by omega,e30⟩
  | 1 =>
    simp only [List.getElem?_cons_succ,List.getElem?_cons_zero,Option.some.injEq] at hi
    subst hi
    refine ⟨rfl,.int .i64 (cnt:Int),rfl,?_⟩
    unfold si VR
    exact congrArg (Value.int .i64) e31.symm
  | i+2=>simp at hi
 ·exact ZiI (b:=b1) hl0.is
 ·refine VRs.cons ?_ (VRs.cons (VR.Zc6 rfl) (VRs.cons (VR.Zc6 rfl) VRs.nil))
  unfold VR
  exact ⟨b0,_,r0,rfl⟩
 ·rintro e w' ⟨fs',ok',a,p0,p1,ρ',y,o0',o1',⟨rfl,hp⟩,rfl,q0,q1,hv,T0,T1,h'⟩
  simp only [ZlE,List.cons.injEq,Prod.mk.injEq,true_and,and_true] at hp
  obtain ⟨rfl,rfl⟩:=hp
  letI N':Zac:=nums FillTab.gs [] roN (sgW V g) ΩW fs' ok'
  have hv:=VR.shut hv (by simp only [AV.shut,AV.shuts,hsh])
  have h1:=ZdW (n:=g.length) hL hgl (by rw [← hsz]; exact T1)
  obtain ⟨cur,c1,c2,c3,c4⟩:=T0
  simp only [Option.some.injEq] at c1
  subst c1
  obtain ⟨-,y0,hy0,hz0⟩:=c4 0 _ rfl
  obtain ⟨-,y1,hy1,hz1⟩:=c4 1 _ rfl
  unfold VR at hz0
  unfold si VR at hz1
  obtain ⟨b,z,len,cc,hb,rfl,d1,d2,d3,d4⟩:=hz0
  rw [q1] at hb
  cases hb
  have d4':(g.length:Int)=len:=e30.symm.trans d4
  have d3':cc * 1=g.length:=d3.trans hsz
  have hlen:len=g.length:=by omega
  have hcc:cc=g.length:=by omega
  subst hlen
  subst hcc
  have hcur:cur=#[.slice (some ⟨b1,0,none⟩) g.length g.length,.int .i64 ((cnt+1:Nat):Int)]:=by
   apply Array.ext
   ·exact c2
   ·intro i hi1 hi2
    match i with
    | 0 =>
      rw [Array.getElem?_eq_getElem hi1] at hy0
      exact Option.some.inj hy0
    | 1 =>
      rw [Array.getElem?_eq_getElem hi1] at hy1
      rw [Option.some.inj hy1,hz1]
      exact congrArg (Value.int .i64) e31'
    | i+2 =>
      have:cur.size=2:=c2
      omega
  subst hcur
  subst h1
  refine ⟨?_,h'⟩
  rw [hv]
  rfl
end
end Go.Proofs.YtfcpdlbkmkhhcaaGreatDoor.Cw

namespace Go.Proofs.YtfcpdlbkmkhhcaaGreatDoor.Cw
open Go Ex Mem See
open Go.RowKit
section
variable {σ:Nat→Int}{x y:SE}{a b:Nat}{V:Nat→Int}{g:List Nat}
theorem Zf9 {n:Int}:(l n).ev σ=n:=by simp only [l,SE.ev]
theorem ZpC {p q:Int}(hx:x.ev σ=p)(hy:y.ev σ=q)(h0 : -1000000000000≤p+q)(h1:p+q<1000000000000):(add x y).ev σ=p+q:=by
 simp only [add,SE.ev,hx,hy]
 exact Zbe (by omega) (by omega)
theorem addN (hx:x.ev σ=(a:Int))(hy:y.ev σ=(b:Int))(ha:a≤100000000000)(hb:b≤100000000000):(add x y).ev σ=((a+b:Nat):Int):=by
 rw [ZpC hx hy (by omega) (by omega)]
 omega
theorem lN {n:Nat}:(l (n:Int)).ev σ=(n:Int):=Zf9
theorem Zq7 (hx:x.ev σ=(a:Int))(ha:a≤100000000000):(add x (l 1)).ev σ=((a+1:Nat):Int):=addN hx (lN (n:=1)) ha (by omega)
theorem mulN {p q:Nat}(hx:x.ev σ=(p:Int))(hy:y.ev σ=(q:Int))(ha:p≤100000)(hb:q≤100000):(SE.bin .mul x y).ev σ=((p * q:Nat):Int):=by
 simp only [SE.ev,hx,hy]
 have:p * q≤100000 * 100000:=Nat.mul_le_mul ha hb
 have h2:(p:Int) * (q:Int)=((p * q:Nat):Int):=by push_cast; rfl
 rw [h2]
 exact Zbe (by omega) (by omega)
theorem Znm (hx:x.ev σ=(a:Int))(ha:a≤100000):(ZqM x).ev σ=((4 * a:Nat):Int):=mulN (lN (n:=4)) hx (by omega) ha
theorem Zra (hx:x.ev σ=(a:Int))(ha:a≤100000):(ZsS x).ev σ=((4 * a+2:Nat):Int):=addN (Znm hx ha) (lN (n:=2)) (by omega) (by omega)
theorem Zgk (h0:(v 0).ev σ=(a:Int))(ha:a≤8):Zl5.ev σ=((4 * a:Nat):Int):=mulN (lN (n:=4)) h0 (by omega) (by omega)
theorem Zpl (h0:(v 0).ev σ=(a:Int))(ha:a≤8):ZpT.ev σ=((4 * a+1:Nat):Int):=addN (Zgk h0 ha) (lN (n:=1)) (by omega) (by omega)
theorem ZqO (h0:(v 0).ev σ=(a:Int))(ha:a≤8):ZsA.ev σ=((4 * a+2:Nat):Int):=addN (Zgk h0 ha) (lN (n:=2)) (by omega) (by omega)
theorem Zlm (h0:(v 0).ev σ=(a:Int))(ha:a≤8)(hx:x.ev σ=(b:Int))(hb:b≤1000):(Znd x).ev σ=((4 * a+4+4 * b:Nat):Int):=addN (addN (Zgk h0 ha) (lN (n:=4)) (by omega) (by omega)) (mulN (lN (n:=4)) hx (by omega) (by omega)) (by omega) (by omega)
theorem Zq1 (h0:(v 0).ev σ=(a:Int))(ha:a≤8)(hx:x.ev σ=(b:Int))(hb:b≤1000):(ZsQ x).ev σ=((4 * a+4+4 * b+2:Nat):Int):=addN (Zlm h0 ha hx hb) (lN (n:=2)) (by omega) (by omega)
theorem ZqS {S O o:Nat}(h0:(v 0).ev σ=(a:Int))(ha:a≤8)(h1:(v 1).ev σ=(S:Int))(hS:S≤32)(h2:(v 2).ev σ=(O:Int))(hO:O≤16)(hx:x.ev σ=(b:Int))(hb:b≤1000)(hy:y.ev σ=(o:Int))(ho:o≤1000) :
 (ZsG x y).ev σ=((4 * a+4+4 * S+b * O+o:Nat):Int):=by
 have hm:b * O≤1000 * 16:=Nat.mul_le_mul hb hO
 exact addN (addN (addN (addN (Zgk h0 ha) (lN (n:=4)) (by omega) (by omega)) (mulN (lN (n:=4)) h1 (by omega) (by omega)) (by omega) (by omega)) (mulN hx h2 (by omega) (by omega)) (by omega) (by omega)) hy (by omega) (by omega)
theorem ZsD {key:Nat}(h5:(v 5).ev σ=(key:Int))(hx:x.ev σ=(b:Int))(_hb:b≤1000):(Zty x).ev σ=(See.keyOf key b:Nat):=by
 simp only [Zty,l,SE.ev,h5,hx,IntKind.wrap_u64]
 unfold See.keyOf
 omega
theorem Zuj (hx:x.ev (sgW V g)=(a:Int)):(w x).ev (sgW V g)=((g.getD a 0:Nat):Int):=by
 have h0:ZbM (sgW V g) (.lvar 0) (one (Zb0 g)):=ZbM.var (by omega)
 show (SE.lvar 0).evA (sgW V g) (x.ev (sgW V g)).toNat 0=_
 rw [hx,Int.toNat_natCast,h0.at_ a 0 (by omega),ZlL,if_pos rfl,List.getD_eq_getElem?_getD,List.getD_eq_getElem?_getD]
 cases h:g[a]? with
 | none=>simp [Zb0,h]
 | some z=>simp [Zb0,h]
def Facts (σ:Nat→Int)(fs:List (Cnd×Bool)):Prop:=∀ q∈fs,q.1.ev σ=q.2
theorem Facts.nil:Facts σ []:=fun _ h=>by cases h
theorem Facts.app {f1 f2:List (Cnd×Bool)}(h1:Facts σ f1)(h2:Facts σ f2):Facts σ (f1++f2):=fun q hq=>(List.mem_append.1 hq).elim (h1 q) (h2 q)
theorem Facts.cons {p:Cnd×Bool}{f:List (Cnd×Bool)}(h1:p.1.ev σ=p.2)(h2:Facts σ f):Facts σ (p::f):=fun q hq=>(List.mem_cons.1 hq).elim (fun h=>h ▸ h1) (h2 q)
theorem Zor {p q:Int}(hx:x.ev σ=p)(hy:y.ev σ=q)(h:p<q):Facts σ [(.lt x y,true)]:=Facts.cons (by simp only [Cnd.ev,hx,hy,decide_eq_true_eq]; exact h) Facts.nil
theorem Zqh {p q:Int}(hx:x.ev σ=p)(hy:y.ev σ=q)(h:q≤p):Facts σ [(.lt x y,false)]:=Facts.cons (by simp only [Cnd.ev,hx,hy,decide_eq_false_iff_not]; omega) Facts.nil
theorem Zqg {p q:Int}(hx:x.ev σ=p)(hy:y.ev σ=q)(h:p=q):Facts σ [(.eq x y,true)]:=Facts.cons (by simp only [Cnd.ev,hx,hy,h,beq_self_eq_true]) Facts.nil
theorem ZpG {p q:Int}(hx:x.ev σ=p)(hy:y.ev σ=q)(h:p≠q):Facts σ [(.eq x y,false)]:=Facts.cons (by simp only [Cnd.ev,hx,hy]; exact beq_eq_false_iff_ne.2 h) Facts.nil
theorem Zdm {p q r:Int}(hx:x.ev σ=p)(h:q≤p∧p<r):Facts σ (rng x q r):=Facts.app (f1:=[_]) (f2:=[_]) (Zqh hx Zf9 h.1) (Zor hx Zf9 h.2)
theorem Zjp:(SE.len (.lvar 0)).ev (sgW V g)=(g.length:Int):=by
 have h0:ZbM (sgW V g) (.lvar 0) (one (Zb0 g)):=ZbM.var (by omega)
 show ((SE.evN (sgW V g) (.lvar 0):Nat):Int)=_
 rw [h0.len,Zin,ZdQ]
theorem ZlW {p q:Int}(hx:x.ev σ=p)(hy:y.ev σ=q)(h0 : -1000000000000≤p - q)(h1:p - q<1000000000000):(SE.bin .sub x y).ev σ=p - q:=by
 simp only [SE.ev,hx,hy]
 exact Zbe (by omega) (by omega)
theorem Zr4 (h30:(v 30).ev (sgW V g)=(g.length:Int))(hg:g.length≤4096)(hx:x.ev (sgW V g)=(a:Int))(ha:a<g.length):Facts (sgW V g) (acc x 1) :=
 Facts.app (f2:=[]) (Facts.app (f1:=[_]) (Zqh hx Zf9 (by omega)) (Facts.app (f1:=[_]) (Zqh (ZlW h30 Zf9 (by omega) (by omega)) hx (by omega)) (Facts.app (f1:=[_]) (Zor hx h30 (by omega)) (Zor hx Zjp (by omega))))) Facts.nil
theorem Zr5 (h30:(v 30).ev (sgW V g)=(g.length:Int))(hg:g.length≤4096)(hx:x.ev (sgW V g)=(a:Int))(ha:a+1<g.length):Facts (sgW V g) (acc x 2) :=
 have h1:=Zq7 hx (by omega)
 Facts.app (Facts.app (f1:=[_]) (Zqh hx Zf9 (by omega)) (Facts.app (f1:=[_]) (Zqh (ZlW h30 Zf9 (by omega) (by omega)) hx (by omega)) (Facts.app (f1:=[_]) (Zor hx h30 (by omega)) (Zor hx Zjp (by omega)))))
  (Facts.app (f1:=[_]) (Zqh h1 Zf9 (by omega)) (Facts.app (f1:=[_]) (Zor h1 h30 (by omega)) (Zor h1 Zjp (by omega))))
theorem Zk3 {L:SE}{g1:List Nat}{z:Nat}(hL:ZbM σ L (one (Zb0 g1)))(hx:x.ev σ=(a:Int))(hy:y.ev σ=(z:Int))(ha:a<g1.length):ZbM σ (.lset L x 0 y) (one (Zb0 (g1.set a z))):=by
 have:=hL.set hx hy (by rw [ZdQ]; exact ha)
 have e:(Zb0 g1).set a (z:Int)=Zb0 (g1.set a z):=by
  unfold Zb0
  rw [List.map_set]
 rw [e] at this
 exact this
theorem ls0:ZbM (sgW V g) (.lvar 0) (one (Zb0 g)):=ZbM.var (by omega)
end
end Go.Proofs.YtfcpdlbkmkhhcaaGreatDoor.Cw

namespace Go.Proofs.YtfcpdlbkmkhhcaaGreatDoor.Cw
open Go See
structure Tk where
 job:Int
 cpu:Nat
 pc:Int
 fin:Int:=0
 want:Int:=0
 slab:Int:=0
 obj:Int:=0
 H:Nat:=0
 T:Nat:=0
 F:Nat:=0
 K:Nat:=0
 N:Nat:=0
 last:Int:=0
 many:Int:=0
 to_:Int:=0
 back:Int:=0
 for_:Int:=0
deriving DecidableEq,Repr
abbrev Out:=Option (Tk×List Nat)
abbrev M64:Nat:=18446744073709551616
def rd (g:List Nat)(i:Nat)(k:Nat→Out):Out:=match g[i]? with
 | some x=>k x
 | none=>none
def need (p:Prop)[Decidable p](k:Out):Out:=if p then k else none
theorem rd_some {g:List Nat}{i:Nat}{k:Nat→Out}{r:Tk×List Nat}(h:rd g i k=some r):∃ x,g[i]?=some x∧k x=some r:=by
 unfold rd at h
 split at h
 ·exact ⟨_,by assumption,h⟩
 ·cases h
theorem Zad {p:Prop}[Decidable p]{k:Out}{r:Tk×List Nat}(h:need p k=some r):p∧k=some r:=by
 unfold need at h
 split at h
 ·exact ⟨by assumption,h⟩
 ·cases h
def Zf3 (g:List Nat)(i old sec x y:Nat)(yes no:Tk):Out:=rd g i fun p=>rd g (i+1) fun q=>if p=old∧q=sec then some (yes,(g.set i x).set (i+1) y) else some (no,g)
def wr (g:List Nat)(i x:Nat)(t:Tk):Out:=rd g i fun _=>some (t,g.set i x)
section
variable (c:Ch)(mn cp:Nat)(g:List Nat)(t:Tk)
abbrev Zbl:Nat:=4 * c.C
abbrev ZbR:Nat:=4 * c.C+1
abbrev Zdo:Nat:=4 * c.C+2
abbrev ZbV (a:Nat):Nat:=4 * a
abbrev ZcH (a:Nat):Nat:=4 * a+2
abbrev ZbU (s:Nat):Nat:=4 * c.C+4+4 * s
abbrev Zgb (s:Nat):Nat:=ZbU c s+2
abbrev ZhF (s o:Nat):Nat:=4 * c.C+4+4 * c.S+s * c.O+o
def Za9 (k:Nat→Out):Out:=need (0≤t.slab∧t.slab<c.S) (k t.slab.toNat)
def Zmq (x:Int)(k:Nat→Out):Out:=need (0≤x∧x<c.O) (k x.toNat)
def Zh8 (w:Nat)(k:Int→Int→Out):Out:=match ZdD w with
 | some p=>k p.1 p.2
 | none=>none
def ZeH (w:Nat)(k:Int→Int→Out):Out:=match partOf w with
 | some p=>k p.1 p.2
 | none=>none
def Zkk (w:Nat)(k:Nat→Nat→Bool→Out):Out:=match ZbA w with
 | some p=>if p.live=true∧1≤p.objects then k p.inuse p.objects p.frozen else none
 | none=>none
def ZeO (i:Nat)(pc:Int):Out:=rd g i fun T=>some ({ t with T:=T,pc:=pc },g)
def Zbq:Out:=match t.pc with
 | 0=>ZeO g t (ZbV t.cpu+1) 1
 | 1=>rd g (ZbV t.cpu) fun H=>Zh8 H fun s o=>if s = -1 then need (o = -1) (some ({ t with H:=H,slab := -1,obj := -1,pc:=30 },g)) else need (0≤s∧s<c.S) (if o = -1 then some ({ t with H:=H,slab:=s,obj := -1,pc:=20 },g) else need (0≤o∧o<c.O) (some ({ t with H:=H,slab:=s,obj:=o,pc:=2 },g)))
 | 2=>Za9 c t fun s=>Zmq c t.obj fun o=>rd g (ZhF c s o) fun x=>match Zdc x (See.keyOf c.key s) o with
   | none=>some ({ t with pc:=0 },g)
   | some y=>if y<c.O then some ({ t with last:=y,pc:=3 },g) else some ({ t with pc:=0 },g)
 | 3=>Za9 c t fun s=>need (-1≤t.last∧t.last<16) (Zf3 g (ZbV t.cpu) t.H t.T (headW s t.last) ((t.T+1) % M64) { t with fin:=1 } { t with pc:=0 })
 | 10=>ZeO g t (ZbV t.cpu+1) 11
 | 11=>rd g (ZbV t.cpu) fun H=>Zh8 H fun s o=>need (s<c.S∧o<c.O) (if s=t.slab then some ({ t with H:=H,last:=o,pc:=12 },g) else some ({ t with H:=H,pc:=50 },g))
 | 12=>Za9 c t fun s=>Zmq c t.obj fun o=>need (-1≤t.last∧t.last<16) (wr g (ZhF c s o) (ZaR t.last (See.keyOf c.key s) o) { t with pc:=13 })
 | 13=>Za9 c t fun s=>Zmq c t.obj fun o=>Zf3 g (ZbV t.cpu) t.H t.T (headW s o) ((t.T+1) % M64) { t with fin:=1 } { t with pc:=10 }
 | _=>none
def ZgD (s o:Nat)(fz fz2:Bool)(yes no:Nat→Tk):Out:=Zkk t.K fun iu ob f=>need (f=fz∧1≤iu) (Zf3 g (ZbU c s) t.F t.K (o+1) (Zat (iu - 1) ob fz2 true) (yes (Zat (iu - 1) ob fz2 true)) (no (Zat (iu - 1) ob fz2 true)))
def ZaD:Out:=match t.pc with
 | 50=>Za9 c t fun s=>rd g (ZbU c s) fun F=>need (F≤c.O) (some ({ t with F:=F,pc:=51 },g))
 | 51=>Za9 c t fun s=>rd g (ZbU c s+1) fun K=>Zkk K fun iu _ _=>need (1≤iu) (some ({ t with K:=K,pc:=52 },g))
 | 52=>Za9 c t fun s=>Zmq c t.obj fun o=>need (t.F≤c.O) (Zkk t.K fun iu _ fz=>need (1≤iu)
   (wr g (ZhF c s o) (ZaR ((t.F:Int) - 1) (See.keyOf c.key s) o) { t with pc:=if fz=true then 53 else if t.F=0 then 54 else if 1<iu then 53 else 55 }))
 | 53=>Za9 c t fun s=>Zmq c t.obj fun o=>Zkk t.K fun _ _ fz=>ZgD c g t s o fz fz (fun _=>{ t with fin:=1 }) fun _=>{ t with pc:=50 }
 | 54=>Za9 c t fun s=>Zmq c t.obj fun o=>ZgD c g t s o false true (fun _=>{ t with pc:=60 }) fun _=>{ t with pc:=50 }
 | 55=>rd g (Zbl c) fun x=>if x=0 then wr g (Zbl c) 1 { t with pc:=56 } else some (t,g)
 | 56=>Za9 c t fun s=>Zmq c t.obj fun o=>ZgD c g t s o false false (fun K=>{ t with pc:=58,F:=o+1,K:=K }) fun _=>{ t with pc:=57 }
 | 57=>wr g (Zbl c) 0 { t with pc:=50 }
 | 58=>rd g (Zdo c) fun x=>if mn<x then some ({ t with pc:=64 },g) else some ({ t with pc:=59 },g)
 | 59=>wr g (Zbl c) 0 { t with fin:=1 }
 | 60=>ZeO g t (ZcH t.cpu+1) 61
 | 61=>rd g (ZcH t.cpu) fun N=>ZeH N fun s m=>need (s<c.S) (if m<cp then some ({ t with N:=N,pc:=62 },g) else some ({ t with N:=N,obj := -1,many:=0,back:=0,pc:=80 },g))
 | 62=>Za9 c t fun s=>wr g (Zgb c s) t.N { t with pc:=63 }
 | 63=>Za9 c t fun s=>ZeH t.N fun s' m=>need (s'<c.S∧m<63) (Zf3 g (ZcH t.cpu) t.N t.T (ZdG s (m+1)) ((t.T+1) % M64) { t with fin:=1 } { t with pc:=60 })
 | 64=>Za9 c t fun s=>rd g (ZbR c) fun x=>need (1≤x∧x≤c.S) (if x=s+1 then some ({ t with to_ := -1,pc:=66 },g) else some ({ t with to_:=(x:Int) - 1,pc:=65 },g))
 | 65=>Za9 c t fun s=>need (0≤t.to_∧t.to_<c.S) (rd g (Zgb c t.to_.toNat) fun x=>need (1≤x∧x≤c.S) (if x=s+1 then some ({ t with pc:=66 },g) else some ({ t with to_:=(x:Int) - 1,pc:=65 },g)))
 | 66=>Za9 c t fun s=>rd g (Zgb c s) fun x=>need (x≤c.S) (some ({ t with N:=x,pc:=67 },g))
 | 67=>if t.to_ = -1 then wr g (ZbR c) t.N { t with pc:=68 } else need (0≤t.to_∧t.to_<c.S) (wr g (Zgb c t.to_.toNat) t.N { t with pc:=68 })
 | 68=>rd g (Zdo c) fun x=>wr g (Zdo c) ((x+18446744073709551615) % M64) { t with back:=0,pc:=76 }
 | _=>none
def Zhn (s:Nat)(fz fz2:Bool)(full:Bool)(yes no:Tk):Out:=Zkk t.K fun iu ob f=>need (f=fz) (Zf3 g (ZbU c s) t.F t.K 0 (Zat (if full=true then ob else iu) ob fz2 true) yes no)
def Zas:Out:=match t.pc with
 | 20=>Zf3 g (ZbV t.cpu) t.H t.T 0 ((t.T+1) % M64) { t with pc:=21 } { t with pc:=0 }
 | 21=>Za9 c t fun s=>rd g (ZbU c s) fun F=>need (F≤c.O) (some ({ t with F:=F,pc:=22 },g))
 | 22=>Za9 c t fun s=>rd g (ZbU c s+1) fun K=>Zkk K fun _ _ fz=>need (fz=true) (some ({ t with K:=K,pc:=if t.F=0 then 24 else 23 },g))
 | 23=>Za9 c t fun s=>need (1≤t.F∧t.F≤c.O) (Zhn c g t s true true true { t with obj:=(t.F:Int) - 1,pc:=40 } { t with pc:=21 })
 | 24=>Za9 c t fun s=>need (t.F=0) (Zhn c g t s true false false { t with pc:=30 } { t with pc:=21 })
 | 30=>ZeO g t (ZcH t.cpu+1) 31
 | 31=>rd g (ZcH t.cpu) fun N=>ZeH N fun s m=>if s = -1 then need (m=0) (some ({ t with N:=N,pc:=34 },g)) else need (0≤s∧s<c.S) (some ({ t with N:=N,slab:=s,pc:=32 },g))
 | 32=>Za9 c t fun s=>rd g (Zgb c s) fun x=>match partOf x with
   | none=>some ({ t with pc:=30 },g)
   | some (s',_)=>if s'<c.S then some ({ t with F:=x,pc:=33 },g) else some ({ t with pc:=30 },g)
 | 33=>Zf3 g (ZcH t.cpu) t.N t.T t.F ((t.T+1) % M64) { t with pc:=21 } { t with pc:=30 }
 | 34=>rd g (Zbl c) fun x=>if x=0 then wr g (Zbl c) 1 { t with pc:=35 } else some (t,g)
 | 35=>rd g (ZbR c) fun x=>need (x≤c.S) (if x=0 then some ({ t with N:=x,pc:=36 },g) else some ({ t with N:=x,slab:=(x:Int) - 1,pc:=37 },g))
 | 36=>wr g (Zbl c) 0 { t with want:=1,pc:=43 }
 | 37=>Za9 c t fun s=>rd g (ZbU c s) fun F=>need (1≤F∧F≤c.O) (some ({ t with F:=F,pc:=38 },g))
 | 38=>Za9 c t fun s=>rd g (ZbU c s+1) fun K=>Zkk K fun _ _ fz=>need (fz=false) (some ({ t with K:=K,pc:=39 },g))
 | 39=>Za9 c t fun s=>need (1≤t.F∧t.F≤c.O) (Zhn c g t s false true true { t with obj:=(t.F:Int) - 1,pc:=46 } { t with pc:=37 })
 | 46=>Za9 c t fun s=>rd g (Zgb c s) fun x=>need (x≤c.S) (some ({ t with N:=x,pc:=47 },g))
 | 47=>wr g (ZbR c) t.N { t with pc:=48 }
 | 48=>rd g (Zdo c) fun x=>wr g (Zdo c) ((x+18446744073709551615) % M64) { t with pc:=49 }
 | 49=>wr g (Zbl c) 0 { t with pc:=40 }
 | 40=>Za9 c t fun s=>Zmq c t.obj fun o=>rd g (ZhF c s o) fun x=>match Zdc x (See.keyOf c.key s) o with
   | none=>none
   | some y=>need (y<c.O) (some ({ t with last:=y,pc:=41 },g))
 | 41=>ZeO g t (ZbV t.cpu+1) 42
 | 42=>Za9 c t fun s=>need (-1≤t.last∧t.last<16) (Zf3 g (ZbV t.cpu) 0 t.T (headW s t.last) ((t.T+1) % M64) { t with fin:=1 } { t with pc:=41 })
 | 43=>Za9 c t fun s=>Zmq c t.many fun o=>wr g (ZhF c s o) (ZaR (if t.many+1<c.O then t.many+1 else -1) (See.keyOf c.key s) o) { t with many:=t.many+1,pc:=if t.many+1<c.O then 43 else 44 }
 | 44=>Za9 c t fun s=>wr g (ZbU c s+1) (Zat c.O c.O true true) { t with obj:=0,pc:=40 }
 | _=>none
def Zb2 (t:Tk):Option Tk:=if t.back=0 then some { t with fin:=1 } else if t.back=73 then some { t with pc:=73 } else if t.back=95 then some { t with pc:=95 } else if t.back=79 then (if t.H=0 then some { t with fin:=1 } else some { t with pc:=79 }) else none
def Zaf:Out:=match t.pc with
 | 70=>need (0≤t.for_∧t.for_<c.C) (ZeO g t (ZbV t.for_.toNat+1) 71)
 | 71=>need (0≤t.for_∧t.for_<c.C) (rd g (ZbV t.for_.toNat) fun H=>Zh8 H fun s o=>if s = -1 then need (o = -1) (some ({ t with H:=H,slab := -1,obj := -1,pc:=73 },g)) else need (0≤s∧s<c.S∧o<c.O) (some ({ t with H:=H,slab:=s,obj:=o,pc:=72 },g)))
 | 72=>need (0≤t.for_∧t.for_<c.C) (Zf3 g (ZbV t.for_.toNat) t.H t.T 0 ((t.T+1) % M64) { t with many:=0,back:=73,pc:=80 } { t with pc:=70 })
 | 73=>need (0≤t.for_∧t.for_<c.C) (ZeO g t (ZcH t.for_.toNat+1) 74)
 | 74=>need (0≤t.for_∧t.for_<c.C) (rd g (ZcH t.for_.toNat) fun N=>ZeH N fun s m=>if s = -1 then need (m=0) (some ({ t with N:=N,fin:=1 },g)) else need (0≤s∧s<c.S) (some ({ t with N:=N,pc:=75 },g)))
 | 75=>need (0≤t.for_∧t.for_<c.C) (Zf3 g (ZcH t.for_.toNat) t.N t.T 0 ((t.T+1) % M64) { t with H:=t.N,pc:=79 } { t with pc:=73 })
 | 79=>ZeH t.H fun s _=>need (0≤s∧s<c.S) (rd g (Zgb c s.toNat) fun x=>ZeH x fun s' _=>need (s'<c.S) (some ({ t with H:=x,slab:=s,obj := -1,many:=0,back:=79,pc:=80 },g)))
 | 80=>rd g (Zbl c) fun x=>if x=0 then (if t.obj<0 then wr g (Zbl c) 1 { t with pc:=84 } else wr g (Zbl c) 1 { t with last:=t.obj,pc:=81 }) else some (t,g)
 | 81=>Za9 c t fun s=>Zmq c t.last fun o=>need (0≤t.many∧t.many<16) (rd g (ZhF c s o) fun x=>match Zdc x (See.keyOf c.key s) o with
   | none=>none
   | some y=>if y = -1 then some ({ t with many:=t.many+1,pc:=84 },g) else need (0≤y∧y<c.O) (some ({ t with many:=t.many+1,last:=y,pc:=81 },g)))
 | 84=>Za9 c t fun s=>rd g (ZbU c s) fun F=>need (F≤c.O) (some ({ t with F:=F,pc:=85 },g))
 | 85=>Za9 c t fun s=>rd g (ZbU c s+1) fun K=>Zkk K fun iu _ fz=>need (fz=true∧0≤t.many∧t.many≤iu) (some ({ t with K:=K,pc:=if t.obj<0 then 87 else 86 },g))
 | 86=>Za9 c t fun s=>Zmq c t.last fun o=>need (t.F≤c.O) (wr g (ZhF c s o) (ZaR ((t.F:Int) - 1) (See.keyOf c.key s) o) { t with pc:=87 })
 | 87=>Za9 c t fun s=>Zkk t.K fun iu ob fz=>need (fz=true∧0≤t.many∧t.many≤iu ∧ -1≤t.obj∧t.obj<c.O∧t.F≤c.O)
   (Zf3 g (ZbU c s) t.F t.K (if t.obj<0 then t.F else (t.obj+1).toNat) (Zat (iu - t.many.toNat) ob false true)
     { t with K:=Zat (iu - t.many.toNat) ob false true,F:=if t.obj<0 then t.F else (t.obj+1).toNat,pc:=if t.obj<0∧t.F=0 then 94 else if iu - t.many.toNat=0 then 88 else 90 } { t with pc:=84 })
 | 88=>rd g (Zdo c) fun x=>if x<mn then some ({ t with pc:=90 },g) else some ({ t with pc:=76 },g)
 | 90=>rd g (ZbR c) fun x=>need (x≤c.S) (some ({ t with N:=x,pc:=91 },g))
 | 91=>Za9 c t fun s=>wr g (Zgb c s) t.N { t with pc:=92 }
 | 92=>Za9 c t fun s=>wr g (ZbR c) (s+1) { t with pc:=93 }
 | 93=>rd g (Zdo c) fun x=>wr g (Zdo c) ((x+1) % M64) { t with pc:=94 }
 | 94=>match Zb2 t with
   | some t'=>wr g (Zbl c) 0 t'
   | none=>none
 | 76=>Za9 c t fun s=>rd g (ZbU c s) fun p=>rd g (ZbU c s+1) fun q=>need (p=t.F∧q=t.K) (some ({ t with pc:=77 },(g.set (ZbU c s) 0).set (ZbU c s+1) 0))
 | 77=>wr g (Zbl c) 0 { t with want:=2,pc:=78 }
 | 95=>rd g (Zbl c) fun x=>if x=0 then wr g (Zbl c) 1 { t with pc:=96 } else some (t,g)
 | 96=>rd g (ZbR c) fun x=>need (x≤c.S) (if x=0 then some ({ t with N:=x,to_ := -1,pc:=99 },g) else some ({ t with N:=x,to_ := -1,slab:=(x:Int) - 1,pc:=97 },g))
 | 97=>Za9 c t fun s=>rd g (ZbU c s+1) fun K=>Zkk K fun iu _ _=>some ({ t with K:=K,pc:=if iu=0 then 100 else 98 },g)
 | 98=>Za9 c t fun s=>rd g (Zgb c s) fun x=>need (x≤c.S) (if x=0 then some ({ t with N:=x,to_:=t.slab,pc:=99 },g) else some ({ t with N:=x,to_:=t.slab,slab:=(x:Int) - 1,pc:=97 },g))
 | 99=>wr g (Zbl c) 0 { t with fin:=1 }
 | 100=>Za9 c t fun s=>rd g (ZbU c s) fun F=>some ({ t with F:=F,pc:=101 },g)
 | 101=>Za9 c t fun s=>rd g (Zgb c s) fun x=>need (x≤c.S) (some ({ t with N:=x,pc:=102 },g))
 | 102=>if t.to_ = -1 then wr g (ZbR c) t.N { t with pc:=103 } else need (0≤t.to_∧t.to_<c.S) (wr g (Zgb c t.to_.toNat) t.N { t with pc:=103 })
 | 103=>rd g (Zdo c) fun x=>wr g (Zdo c) ((x+18446744073709551615) % M64) { t with back:=95,pc:=76 }
 | _=>none
end
end Go.Proofs.YtfcpdlbkmkhhcaaGreatDoor.Cw
