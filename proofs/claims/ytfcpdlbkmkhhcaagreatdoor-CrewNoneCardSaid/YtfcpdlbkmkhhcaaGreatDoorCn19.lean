/-
  Texts of this claim, joined. No condition.
-/
import Derived.Test.YtfcpdlbkmkhhcaaGreatDoorCn18
namespace Go.Proofs.YtfcpdlbkmkhhcaaGreatDoor.Cw
open Go Ex Mem See
open Go.RowKit
section
theorem Zng:ZiQ Tryz.prog 52:=⟨Tryz.f52,_,Tryz.func52,by kernel_rfl,rfl⟩
theorem Zjj:ZiQ Tryz.prog 72:=⟨Tryz.f72,_,Tryz.func72,by kernel_rfl,rfl⟩
theorem Znf:ZiQ Tryz.prog 57:=⟨Tryz.f57,_,Tryz.func57,by kernel_rfl,rfl⟩
theorem ZqL:ZiQ Tryz.prog 139:=⟨Tryz.f139,_,Tryz.func139,by kernel_rfl,rfl⟩
theorem ZoO:ZiQ Tryz.prog 69:=⟨Tryz.f69,_,Tryz.func69,by kernel_rfl,rfl⟩
theorem ZoP:ZiQ Tryz.prog 122:=⟨Tryz.f122,_,Tryz.func122,by kernel_rfl,rfl⟩
theorem Znh:ZiQ Tryz.prog 120:=⟨Tryz.f120,_,Tryz.func120,by kernel_rfl,rfl⟩
theorem ZqK:ZiQ Tryz.prog 128:=⟨Tryz.f128,_,Tryz.func128,by kernel_rfl,rfl⟩
variable {N:Zac}
structure Says (σ:Nat→Int)(a:AV)(x:Value):Prop where
 shut:a.shut=true
 val:Ex.valOf σ a=x
theorem Says.si {σ:Nat→Int}{e:SE}{x:Int}(h:e.ev σ=x):Says σ (.sym .i64 e) (.int .i64 x):=⟨rfl,by unfold Ex.valOf; rw [h]⟩
theorem Says.su {σ:Nat→Int}{e:SE}{x:Int}(h:e.ev σ=x):Says σ (.sym .u64 e) (.int .u64 x):=⟨rfl,by unfold Ex.valOf; rw [h]⟩
theorem Says.li {σ:Nat→Int}{x:Int}:Says σ (.int .i64 x) (.int .i64 x):=⟨rfl,by unfold Ex.valOf; rfl⟩
theorem Says.bool {σ:Nat→Int}{b:Bool}:Says σ (.bool b) (.bool b):=⟨rfl,by unfold Ex.valOf; rfl⟩
theorem Says.ZdH {σ:Nat→Int}{c:Cnd}{p b:Bool}(h:(c.ev σ==p)=b):Says σ (.ZdH c p) (.bool b):=⟨rfl,by unfold Ex.valOf; rw [h]⟩
theorem ZcB {X:SE}{n:Nat}{a b:AV}{p q:Int}(hx:X.ev Zac.σ=(n:Int))(hn:n<18446744073709551616)(h:ZdD n=some (p,q))(ha:Says Zac.σ a (.int .i64 p))(hb:Says Zac.σ b (.int .i64 q)) :
 ZiS Tryz.prog { f:=52,args:=[.sym .u64 X],res:=.tup [a,b,.bool true] }:=by
 refine ZcZ rfl (by simp only [AV.shut,AV.shuts,ha.shut,hb.shut]) rfl rfl rfl Zng fun _ W w m hO => ?_
 rw [show (Zar Zac.σ [.sym .u64 X]).toArray=#[.int .u64 (n:Int)] from by simp only [Zar,Ex.valOf,hx]]
 refine (ZkK n hn w).mono ?_
 rintro e w' ⟨rfl,rfl⟩
 refine ⟨?_,hO⟩
 simp only [Ex.valOf,Zar,ha.val,hb.val,ZqN,h]
theorem Zbf {X:SE}{n:Nat}{a b:AV}{p q:Int}(hx:X.ev Zac.σ=(n:Int))(hn:n<18446744073709551616)(h:partOf n=some (p,q))(ha:Says Zac.σ a (.int .i64 p))(hb:Says Zac.σ b (.int .i64 q)) :
 ZiS Tryz.prog { f:=72,args:=[.sym .u64 X],res:=.tup [a,b,.bool true] }:=by
 refine ZcZ rfl (by simp only [AV.shut,AV.shuts,ha.shut,hb.shut]) rfl rfl rfl Zjj fun _ W w m hO => ?_
 rw [show (Zar Zac.σ [.sym .u64 X]).toArray=#[.int .u64 (n:Int)] from by simp only [Zar,Ex.valOf,hx]]
 refine (ZgZ n hn w).mono ?_
 rintro e w' ⟨rfl,rfl⟩
 refine ⟨?_,hO⟩
 simp only [Ex.valOf,Zar,ha.val,hb.val,Zpa,h]
theorem Znu {X:SE}{n:Nat}(hx:X.ev Zac.σ=(n:Int))(hn:n<18446744073709551616)(h:partOf n=none) :
 ZiS Tryz.prog { f:=72,args:=[.sym .u64 X],res:=.tup [.int .i64 (-1),.int .i64 0,.bool false] }:=by
 refine ZcZ rfl rfl rfl rfl rfl Zjj fun _ W w m hO => ?_
 rw [show (Zar Zac.σ [.sym .u64 X]).toArray=#[.int .u64 (n:Int)] from by simp only [Zar,Ex.valOf,hx]]
 refine (ZgZ n hn w).mono ?_
 rintro e w' ⟨rfl,rfl⟩
 refine ⟨?_,hO⟩
 simp only [Ex.valOf,Zar,Zpa,h]
theorem Zah {X:SE}{n:Nat}{a b f:AV}{k:Zfq}(hx:X.ev Zac.σ=(n:Int))(hn:n<18446744073709551616)(h:ZbA n=some k)(hl:k.live=true)(ha:Says Zac.σ a (.int .i64 k.inuse))(hb:Says Zac.σ b (.int .i64 k.objects))(hf:Says Zac.σ f (.bool k.frozen)) :
 ZiS Tryz.prog { f:=57,args:=[.sym .u64 X],res:=.tup [.agg [a,b,f,.bool true],.bool true] }:=by
 refine ZcZ rfl (by simp only [AV.shut,AV.shuts,ha.shut,hb.shut,hf.shut]) rfl rfl rfl Znf fun _ W w m hO => ?_
 rw [show (Zar Zac.σ [.sym .u64 X]).toArray=#[.int .u64 (n:Int)] from by simp only [Zar,Ex.valOf,hx]]
 refine (ZkC hO n hn).mono ?_
 rintro e w' ⟨rfl,h'⟩
 refine ⟨?_,h'⟩
 simp only [Ex.valOf,Zar,ha.val,hb.val,hf.val,ZkB,h,hl]
theorem Zaz {a b f:AV}{r:SE}{A B:Nat}{fz:Bool}(ha:Says Zac.σ a (.int .i64 A))(hb:Says Zac.σ b (.int .i64 B))(hf:Says Zac.σ f (.bool fz))(h1:A≤B)(h2:1≤B)(h3:B≤16)(hr:r.ev Zac.σ=(Zat A B fz true:Nat)) :
 ZiS Tryz.prog { f:=139,args:=[.agg [a,b,f,.bool true]],res:=.tup [.sym .u64 r,.int .i64 0] }:=by
 refine ZcZ (by simp only [AV.shut,AV.shuts,ha.shut,hb.shut,hf.shut]) rfl rfl rfl rfl ZqL fun _ W w m hO => ?_
 rw [show (Zar Zac.σ [.agg [a,b,f,.bool true]]).toArray=#[.agg #[.int .i64 (A:Int),.int .i64 (B:Int),.bool fz,.bool true]] from by simp only [Zar,Ex.valOf,ha.val,hb.val,hf.val]]
 refine (Zq9 hO A B (by omega) (by omega) fz true (by unfold ZqZ; exact decide_eq_true (.inl ⟨rfl,by omega,by omega,by omega,by omega⟩))).mono ?_
 rintro e w' ⟨rfl,h'⟩
 refine ⟨?_,h'⟩
 simp only [Ex.valOf,Zar,hr]
theorem Zdq {s o:AV}{r:SE}{x y:Int}(hs:Says Zac.σ s (.int .i64 x))(ho:Says Zac.σ o (.int .i64 y))(h:ZfJ x y)(hr:r.ev Zac.σ=(headW x y:Nat)):ZiS Tryz.prog { f:=69,args:=[s,o],res:=.tup [.sym .u64 r,.int .i64 0] }:=by
 refine ZcZ (by simp only [AV.shuts,hs.shut,ho.shut]) rfl rfl rfl rfl ZoO fun _ W w m hO => ?_
 rw [show (Zar Zac.σ [s,o]).toArray=#[.int .i64 x,.int .i64 y] from by simp only [Zar,hs.val,ho.val]]
 refine (Zno x y h w).mono ?_
 rintro e w' ⟨rfl,rfl⟩
 refine ⟨?_,hO⟩
 simp only [Ex.valOf,Zar,hr]
theorem ZkN {s o:AV}{r:SE}{x y:Int}(hs:Says Zac.σ s (.int .i64 x))(ho:Says Zac.σ o (.int .i64 y))(h:Zen x y)(hr:r.ev Zac.σ=(ZdG x y:Nat)):ZiS Tryz.prog { f:=122,args:=[s,o],res:=.tup [.sym .u64 r,.int .i64 0] }:=by
 refine ZcZ (by simp only [AV.shuts,hs.shut,ho.shut]) rfl rfl rfl rfl ZoP fun _ W w m hO => ?_
 rw [show (Zar Zac.σ [s,o]).toArray=#[.int .i64 x,.int .i64 y] from by simp only [Zar,hs.val,ho.val]]
 refine (ZnS x y h w).mono ?_
 rintro e w' ⟨rfl,rfl⟩
 refine ⟨?_,hO⟩
 simp only [Ex.valOf,Zar,hr]
theorem ZgL {x ky o:SE}{a:AV}{X key n:Nat}{s:Int}(hx:x.ev Zac.σ=(X:Int))(hX:X<18446744073709551616)(hk:ky.ev Zac.σ=(key:Int))(hk2:key<18446744073709551616)(hn:o.ev Zac.σ=(n:Int))(hn2:n<16)(h:Zdc X key n=some s)(ha:Says Zac.σ a (.int .i64 s)) :
 ZiS Tryz.prog { f:=120,args:=[.sym .u64 x,.sym .u64 ky,.sym .i64 o],res:=.tup [a,.bool true] }:=by
 refine ZcZ rfl (by simp only [AV.shut,AV.shuts,ha.shut]) rfl rfl rfl Znh fun _ W w m hO => ?_
 rw [show (Zar Zac.σ [.sym .u64 x,.sym .u64 ky,.sym .i64 o]).toArray=#[.int .u64 (X:Int),.int .u64 (key:Int),.int .i64 (n:Int)] from by simp only [Zar,Ex.valOf,hx,hk,hn]]
 refine (Zn9 X key n hX hk2 hn2 w).mono ?_
 rintro e w' ⟨rfl,rfl⟩
 refine ⟨?_,hO⟩
 simp only [Ex.valOf,Zar,ha.val,Zpm,h]
theorem Znv {x ky o:SE}{a:AV}{X key n:Nat}(hx:x.ev Zac.σ=(X:Int))(hX:X<18446744073709551616)(hk:ky.ev Zac.σ=(key:Int))(hk2:key<18446744073709551616)(hn:o.ev Zac.σ=(n:Int))(hn2:n<16)(h:Zdc X key n=none)(ha:Says Zac.σ a (.int .i64 0)) :
 ZiS Tryz.prog { f:=120,args:=[.sym .u64 x,.sym .u64 ky,.sym .i64 o],res:=.tup [a,.bool false] }:=by
 refine ZcZ rfl (by simp only [AV.shut,AV.shuts,ha.shut]) rfl rfl rfl Znh fun _ W w m hO => ?_
 rw [show (Zar Zac.σ [.sym .u64 x,.sym .u64 ky,.sym .i64 o]).toArray=#[.int .u64 (X:Int),.int .u64 (key:Int),.int .i64 (n:Int)] from by simp only [Zar,Ex.valOf,hx,hk,hn]]
 refine (Zn9 X key n hX hk2 hn2 w).mono ?_
 rintro e w' ⟨rfl,rfl⟩
 refine ⟨?_,hO⟩
 simp only [Ex.valOf,Zar,ha.val,Zpm,h]
theorem ZdO {i o:AV}{ky r:SE}{x:Int}{key n:Nat}(hi:Says Zac.σ i (.int .i64 x))(hk:ky.ev Zac.σ=(key:Int))(hk2:key<18446744073709551616)(ho:Says Zac.σ o (.int .i64 (n:Int)))(h1 : -1≤x∧x<16)(h2:n<16)(hr:r.ev Zac.σ=(ZaR x key n:Nat)) :
 ZiS Tryz.prog { f:=128,args:=[i,.sym .u64 ky,o],res:=.tup [.sym .u64 r,.int .i64 0] }:=by
 refine ZcZ (by simp only [AV.shut,AV.shuts,hi.shut,ho.shut]) rfl rfl rfl rfl ZqK fun _ W w m hO => ?_
 rw [show (Zar Zac.σ [i,.sym .u64 ky,o]).toArray=#[.int .i64 x,.int .u64 (key:Int),.int .i64 (n:Int)] from by simp only [Zar,Ex.valOf,hi.val,hk,ho.val]]
 refine (Znp x key n hk2 w).mono ?_
 rintro e w' ⟨rfl,rfl⟩
 refine ⟨?_,hO⟩
 unfold ZqP
 rw [if_pos ⟨h1,by omega,by omega⟩,Int.toNat_natCast]
 simp only [Ex.valOf,Zar,hr]
end
end Go.Proofs.YtfcpdlbkmkhhcaaGreatDoor.Cw

namespace Go.Proofs.YtfcpdlbkmkhhcaaGreatDoor.Cw
open Go Ex Mem See
open Go.RowKit
section
def tkV (t:Tk):Value:=.agg #[.int .i64 t.job,.int .i64 (t.cpu:Int),.int .i64 t.pc,.int .i64 t.fin,.int .i64 t.want,.int .i64 t.slab,.int .i64 t.obj,.int .u64 (t.H:Int),.int .u64 (t.T:Int),.int .u64 (t.F:Int),.int .u64 (t.K:Int),.int .u64 (t.N:Int),.int .i64 t.last,.int .i64 t.many,.int .i64 t.to_,.int .i64 t.back,.int .i64 t.for_]
def chW (c:Ch)(mn cp:Nat):Value:=.agg #[.int .i64 (c.C:Int),.int .i64 (c.S:Int),.int .i64 (c.O:Int),.int .i64 (mn:Int),.int .i64 (cp:Int),.int .u64 (c.key:Int)]
structure Zae (f:FuncId)(c:Ch)(mn cp:Nat)(t:Tk)(g:List Nat)(t':Tk)(g':List Nat):Prop where
 go:∀ {W w:World} {m:List (Nat×Obj)} {b0 b1 cnt:Nat},cnt<1000000000→ZdY FillTab.gs w→(∀ b l,Zec b FillTab.gs=some l→b<W.heap.size)→Own W (mB b0 b1 g.length cnt::wB b1 g::m) w →
  Calls Tryz.prog f #[.pointer (some ⟨b0,0,none⟩),chW c mn cp,tkV t] w fun e w'=>e = .returned (.tuple #[tkV t',.int .i64 0])∧Own W (mB b0 b1 g'.length (cnt+1)::wB b1 g'::m) w'
structure ZaU (c:Ch)(mn cp:Nat)(t:Tk)(g:List Nat):Prop where
 C:1≤c.C∧c.C≤8
 S:1≤c.S∧c.S≤32
 O:1≤c.O∧c.O≤16
 mn:mn≤32
 cp:cp≤32
 key:c.key<18446744073709551616
 cpu:t.cpu<c.C
 len:1≤g.length∧g.length≤4096
 w64:∀ x∈g,x<18446744073709551616
 fin:t.fin=0
 want:t.want=0
def vOf (c:Ch)(mn cp:Nat)(t:Tk)(n cnt:Nat)(z:Nat→Int)(i:Nat):Int :=
 match i with
 | 0=>c.C | 1=>c.S | 2=>c.O | 3=>mn | 4=>cp | 5=>c.key
 | 10=>t.job | 11=>t.cpu | 15=>t.slab | 16=>t.obj | 17=>t.H | 18=>t.T | 19=>t.F | 20=>t.K | 21=>t.N | 22=>t.last | 23=>t.many | 24=>t.to_ | 25=>t.back | 26=>t.for_
 | 30=>n | 31=>cnt | i=>z i
variable {c:Ch}{mn cp:Nat}{t t':Tk}{g g':List Nat}{z:Nat→Int}
theorem Wy.to {x:Wy}(hr:x.run=true)(h:ZaU c mn cp t g)(hpc:t.pc=x.pc)
 (hfs:∀ cnt,Facts (sgW (vOf c mn cp t g.length cnt z) g) x.fs) (hk:∀ cnt fs (ok:∀ f∈fs,f.1.ev (sgW (vOf c mn cp t g.length cnt z) g)=f.2),∀ k∈x.kcs,@ZiS (nums FillTab.gs [] roN (sgW (vOf c mn cp t g.length cnt z) g) ΩW fs ok) Tryz.prog k)
 (hsh:AV.shuts x.res=true) (hL:∀ cnt,ZbM (sgW (vOf c mn cp t g.length cnt z) g) x.g (one (Zb0 g'))) (hgl:g'.length=g.length)
 (hres:∀ cnt,Value.agg (Ex.Zar (sgW (vOf c mn cp t g.length cnt z) g) x.res).toArray=tkV t'):Zae x.f c mn cp t g t' g':=by
 refine ⟨fun {W w m b0 b1 cnt} hc hgs hgW hO => ?_⟩
 have e:∀ i,i<2048→(v i).ev (sgW (vOf c mn cp t g.length cnt z) g)=vOf c mn cp t g.length cnt z i:=fun i hi=>Zbp hi
 have hC:=h.C
 have hS:=h.S
 have hOo:=h.O
 have hmn:=h.mn
 have hcp:=h.cp
 have hcpu:=h.cpu
 have hlen:=h.len
 have hfC:Facts (sgW (vOf c mn cp t g.length cnt z) g) fC:=by
  unfold fC
  refine Facts.app (Facts.app (Facts.app (Facts.app (Facts.app (Facts.app (Facts.app (Facts.app (Facts.app ?_ ?_) ?_) ?_) ?_) ?_) ?_) ?_) ?_) ?_
  ·exact Zdm (e 0 (by omega)) (by simp only [vOf]; omega)
  ·exact Zdm (e 1 (by omega)) (by simp only [vOf]; omega)
  ·exact Zdm (e 2 (by omega)) (by simp only [vOf]; omega)
  ·exact Zdm (e 3 (by omega)) (by simp only [vOf]; omega)
  ·exact Zdm (e 4 (by omega)) (by simp only [vOf]; omega)
  ·exact Zdm (e 11 (by omega)) (by simp only [vOf]; omega)
  ·exact Zor (e 11 (by omega)) (e 0 (by omega)) (by simp only [vOf]; omega)
  ·exact Zdm (e 30 (by omega)) (by simp only [vOf]; omega)
  ·exact Zdm Zjp (by omega)
  ·exact Zdm (e 31 (by omega)) (by simp only [vOf]; omega)
 have hkk:Zl1 FillTab.gs [] roN Tryz.prog (sgW (vOf c mn cp t g.length cnt z) g) ΩW (kgs x.kcs):=fun fs ok args k hkm=>hk cnt fs ok k hkm
 refine (Wy.calls (V:=vOf c mn cp t g.length cnt z) hr hkk (Facts.app (hfs cnt) hfC) hsh rfl rfl hc hlen.2 (hL cnt) hgl hgs hgW hO ?_ ?_).mono ?_
 ·simp only [chW,chF,si,su,Ex.valOf,Ex.Zar,e _ (show 0<2048 by omega),e _ (show 1<2048 by omega),e _ (show 2<2048 by omega),e _ (show 3<2048 by omega),e _ (show 4<2048 by omega),e _ (show 5<2048 by omega),vOf]
 ·have hfin:=h.fin
  have hwant:=h.want
  simp only [tkV,ZiF,si,su,Ex.valOf,Ex.Zar,e 10 (by omega),e 11 (by omega),e 15 (by omega),e 16 (by omega),e 17 (by omega),e 18 (by omega),e 19 (by omega),e 20 (by omega),e 21 (by omega),e 22 (by omega),e 23 (by omega),e 24 (by omega),e 25 (by omega),e 26 (by omega),vOf,hfin,hwant,hpc]
 ·rintro r w' ⟨rfl,h'⟩
  rw [hgl]
  exact ⟨by rw [hres cnt],h'⟩
variable {cnt:Nat}
noncomputable abbrev σW (c:Ch) (mn cp:Nat) (t:Tk) (g:List Nat) (cnt:Nat) (z:Nat→Int):Nat→Int:=sgW (vOf c mn cp t g.length cnt z) g
theorem ZiN:(v 0).ev (σW c mn cp t g cnt z)=((c.C:Nat):Int):=Zbp (by omega)
theorem ZaH:(v 1).ev (σW c mn cp t g cnt z)=((c.S:Nat):Int):=Zbp (by omega)
theorem Za3:(v 2).ev (σW c mn cp t g cnt z)=((c.O:Nat):Int):=Zbp (by omega)
theorem Zpt:(v 3).ev (σW c mn cp t g cnt z)=((mn:Nat):Int):=Zbp (by omega)
theorem Zs3:(v 4).ev (σW c mn cp t g cnt z)=((cp:Nat):Int):=Zbp (by omega)
theorem Zs5:(v 5).ev (σW c mn cp t g cnt z)=((c.key:Nat):Int):=Zbp (by omega)
theorem Zak:(v 11).ev (σW c mn cp t g cnt z)=((t.cpu:Nat):Int):=Zbp (by omega)
theorem Zkn:(v 17).ev (σW c mn cp t g cnt z)=((t.H:Nat):Int):=Zbp (by omega)
theorem Zf0:(v 18).ev (σW c mn cp t g cnt z)=((t.T:Nat):Int):=Zbp (by omega)
theorem ZaG:(v 19).ev (σW c mn cp t g cnt z)=((t.F:Nat):Int):=Zbp (by omega)
theorem ZbH:(v 20).ev (σW c mn cp t g cnt z)=((t.K:Nat):Int):=Zbp (by omega)
theorem Zhp:(v 21).ev (σW c mn cp t g cnt z)=((t.N:Nat):Int):=Zbp (by omega)
theorem Zt4:(v 30).ev (σW c mn cp t g cnt z)=((g.length:Nat):Int):=Zbp (by omega)
theorem Zs4:(v 10).ev (σW c mn cp t g cnt z)=t.job:=Zbp (by omega)
theorem ZfE:(v 15).ev (σW c mn cp t g cnt z)=t.slab:=Zbp (by omega)
theorem ZaT:(v 16).ev (σW c mn cp t g cnt z)=t.obj:=Zbp (by omega)
theorem ZbF:(v 22).ev (σW c mn cp t g cnt z)=t.last:=Zbp (by omega)
theorem ZcN:(v 23).ev (σW c mn cp t g cnt z)=t.many:=Zbp (by omega)
theorem Zpu:(v 24).ev (σW c mn cp t g cnt z)=t.to_:=Zbp (by omega)
theorem ZdB:(v 25).ev (σW c mn cp t g cnt z)=t.back:=Zbp (by omega)
theorem ZpX:(v 26).ev (σW c mn cp t g cnt z)=t.for_:=Zbp (by omega)
theorem Zs6:(v 41).ev (σW c mn cp t g cnt z)=z 41:=Zbp (by omega)
theorem Zs7:(v 42).ev (σW c mn cp t g cnt z)=z 42:=Zbp (by omega)
theorem Zs8:(v 43).ev (σW c mn cp t g cnt z)=z 43:=Zbp (by omega)
theorem Zs9:(v 44).ev (σW c mn cp t g cnt z)=z 44:=Zbp (by omega)
theorem Zta:(v 45).ev (σW c mn cp t g cnt z)=z 45:=Zbp (by omega)
theorem Ztb:(v 46).ev (σW c mn cp t g cnt z)=z 46:=Zbp (by omega)
theorem Zam {x:SE}{a y:Nat}(hx:x.ev (σW c mn cp t g cnt z)=(a:Int))(h:g[a]?=some y):(w x).ev (σW c mn cp t g cnt z)=(y:Int):=by
 rw [Zuj hx,List.getD_eq_getElem?_getD,h]
 rfl
theorem Zaa {a y:Nat}(h:g[a]?=some y):a<g.length:=(List.getElem?_eq_some_iff.1 h).1
theorem ZaU.w {a y:Nat}(h:ZaU c mn cp t g)(hy:g[a]?=some y):y<18446744073709551616:=h.w64 y (List.mem_of_getElem? hy)
theorem k0 {P:Kc→Prop}:∀ x∈([]:List Kc),P x:=fun _ h=>by cases h
theorem k1 {P:Kc→Prop}{k:Kc}(h:P k):∀ x∈[k],P x:=fun x hx=>by
 rw [List.mem_singleton] at hx
 exact hx ▸ h
theorem k2 {P:Kc→Prop}{k k':Kc}(h:P k)(h':P k'):∀ x∈[k,k'],P x:=fun x hx=>by
 rcases List.mem_cons.1 hx with rfl | hx
 ·exact h
 ·exact k1 h' x hx
def zs (l:List Int):Nat→Int:=fun i=>l.getD (i - 41) 0
theorem ZaI {i old sec x y:Nat}{yes no:Tk}{r:Tk×List Nat}(h:Zf3 g i old sec x y yes no=some r) :
 ∃ p q,g[i]?=some p∧g[i+1]?=some q∧((p=old∧q=sec∧r=(yes,(g.set i x).set (i+1) y))∨(p≠old∧r=(no,g))∨(p=old∧q≠sec∧r=(no,g))):=by
 obtain ⟨p,hp,h⟩:=rd_some h
 obtain ⟨q,hq,h⟩:=rd_some h
 refine ⟨p,q,hp,hq,?_⟩
 split at h
 ·rename_i hb
  exact .inl ⟨hb.1,hb.2,(Option.some.inj h).symm⟩
 ·rename_i hb
  by_cases e:p=old
  ·exact .inr (.inr ⟨e,fun e2=>hb ⟨e,e2⟩,(Option.some.inj h).symm⟩)
  ·exact .inr (.inl ⟨e,(Option.some.inj h).symm⟩)
theorem Zaj {k:Nat→Out}{r:Tk×List Nat}(h:Za9 c t k=some r):∃ s:Nat,t.slab=(s:Int)∧s<c.S∧k s=some r:=by
 obtain ⟨hb,h⟩:=Zad h
 exact ⟨t.slab.toNat,by omega,by omega,h⟩
theorem Zbv {x:Int}{k:Nat→Out}{r:Tk×List Nat}(h:Zmq c x k=some r):∃ o:Nat,x=(o:Int)∧o<c.O∧k o=some r:=by
 obtain ⟨hb,h⟩:=Zad h
 exact ⟨x.toNat,by omega,by omega,h⟩
theorem ZaM {i x:Nat}{t':Tk}{r:Tk×List Nat}(h:wr g i x t'=some r):i<g.length∧r=(t',g.set i x):=by
 obtain ⟨y,hy,h⟩:=rd_some h
 exact ⟨(List.getElem?_eq_some_iff.1 hy).1,(Option.some.inj h).symm⟩
theorem ZdA {σ:Nat→Int}{x:SE}{a:Nat}(hx:x.ev σ=(a:Int)):(SE.ubin .add x (l 1)).ev σ=(((a+1) % M64:Nat):Int):=by
 simp only [SE.ev,l,hx,IntKind.wrap_u64]
 show ((a:Int)+1) % 18446744073709551616=(((a+1) % 18446744073709551616:Nat):Int)
 omega
theorem Zrl {σ:Nat→Int}{L x y1 y2:SE}{g1:List Nat}{a z1 z2:Nat}(hL:ZbM σ L (one (Zb0 g1)))(hx:x.ev σ=(a:Int))(h1:y1.ev σ=(z1:Int))(h2:y2.ev σ=(z2:Int))(ha:a+1<g1.length)(hb:a≤100000) :
 ZbM σ (.lset (.lset L x 0 y1) (add x (l 1)) 0 y2) (one (Zb0 ((g1.set a z1).set (a+1) z2))) :=
 Zk3 (Zk3 hL hx h1 (by omega)) (Zq7 hx (by omega)) h2 (by rw [List.length_set]; exact ha)
end
end Go.Proofs.YtfcpdlbkmkhhcaaGreatDoor.Cw

namespace Go.Proofs.YtfcpdlbkmkhhcaaGreatDoor.Cw
open Go Ex Mem See
open Go.RowKit
section
variable {c:Ch}{mn cp:Nat}{t t':Tk}{g g':List Nat}
theorem Zr3 {σ:Nat→Int}{x:SE}{a:Nat}(hx:x.ev σ=(a:Int))(ha:a<18446744073709551616):(SE.cv .u64 x).ev σ=(a:Int):=by
 simp only [SE.ev,hx]
 exact Zok (by omega) (by omega)
theorem Zr2 {σ:Nat→Int}{x:SE}{a:Nat}(hx:x.ev σ=(a:Int))(ha:a<9223372036854775808):(SE.cv .i64 x).ev σ=(a:Int):=by
 simp only [SE.ev,hx]
 exact Zbe (by omega) (by omega)
theorem Zro {σ:Nat→Int}{x y:SE}{a b:Nat}(hx:x.ev σ=(a:Int))(hy:y.ev σ=(b:Int))(h:b≤a)(ha:a≤100000000000):(SE.bin .sub x y).ev σ=((a - b:Nat):Int):=by
 rw [ZlW hx hy (by omega) (by omega)]
 omega
theorem ZkP {σ:Nat→Int}{x:SE}{a:Nat}(hx:x.ev σ=(a:Int)):(SE.ubin .add x (l 18446744073709551615)).ev σ=(((a+18446744073709551615) % M64:Nat):Int):=by
 simp only [SE.ev,l,hx,IntKind.wrap_u64]
 show ((a:Int)+18446744073709551615) % 18446744073709551616=(((a+18446744073709551615) % 18446744073709551616:Nat):Int)
 omega
theorem Za5 {w:Nat}{k:Nat→Nat→Bool→Out}{r:Tk×List Nat}(h:Zkk w k=some r):∃ p:Zfq,ZbA w=some p∧p.live=true∧p.inuse≤p.objects∧1≤p.objects∧p.objects≤16∧k p.inuse p.objects p.frozen=some r:=by
 unfold Zkk at h
 split at h
 ·rename_i p hp
  split at h
  ·rename_i hb
   refine ⟨p,hp,hb.1,?_,hb.2,?_,h⟩ <;>
   ·unfold ZbA at hp
    split at hp
    ·cases hp
     exact absurd hb.1 (by decide)
    ·split at hp
     ·cases hp
      dsimp only
      omega
     ·cases hp
  ·cases h
 ·cases h
theorem Zfw {w:Nat}{k:Int→Int→Out}{r:Tk×List Nat}(h:Zh8 w k=some r):∃ a b,ZdD w=some (a,b)∧k a b=some r:=by
 unfold Zh8 at h
 split at h
 ·exact ⟨_,_,by assumption,h⟩
 ·cases h
theorem Zcs {w:Nat}{k:Int→Int→Out}{r:Tk×List Nat}(h:ZeH w k=some r):∃ a b,partOf w=some (a,b)∧k a b=some r:=by
 unfold ZeH at h
 split at h
 ·exact ⟨_,_,by assumption,h⟩
 ·cases h
theorem ZgE {w:Nat}{s o:Int}(h:ZdD w=some (s,o)) : -1≤s∧s<32 ∧ -1≤o∧o<16:=by
 unfold ZdD at h
 split at h
 ·cases h; omega
 ·split at h
  ·cases h; omega
  ·cases h
theorem ZcI {w:Nat}{s m:Int}(h:partOf w=some (s,m)) : -1≤s∧s<32∧0≤m∧m<64:=by
 unfold partOf at h
 split at h
 ·cases h; omega
 ·split at h
  ·cases h; omega
  ·cases h
theorem ZlQ {w:Nat}{p:Int×Int}(h:partOf w=some p):w<18446744073709551616:=by
 unfold partOf at h
 split at h
 ·omega
 ·split at h
  ·omega
  ·cases h
theorem ZaJ {w:Nat}{p:Zfq}(h:ZbA w=some p):w<18446744073709551616:=by
 unfold ZbA at h
 split at h
 ·omega
 ·split at h
  ·omega
  ·cases h
theorem ZkH {σ:Nat→Int}{b:Bool}(h:(v 43).ev σ=if b=true then 1 else 0):Says σ (.ZdH (.eq (v 43) (l 1)) true) (.bool b):=Says.ZdH (by
 simp only [Cnd.ev,h,Zf9]
 cases b <;> rfl)
end
end Go.Proofs.YtfcpdlbkmkhhcaaGreatDoor.Cw

namespace Go.Proofs.YtfcpdlbkmkhhcaaGreatDoor.Cw
open Go Ex Mem See
open Go.RowKit
section
variable {c:Ch}{mn cp:Nat}{t t':Tk}{g g':List Nat}{z:Nat→Int}{cnt:Nat}{σ:Nat→Int}{x y:SE}{a b:Nat}
theorem hdE (hx:x.ev σ=(a:Int))(ha:a≤100000:=by omega):(ZqM x).ev σ=((4 * a:Nat):Int):=Znm hx ha
theorem ptE (hx:x.ev σ=(a:Int))(ha:a≤100000:=by omega):(ZsS x).ev σ=((4 * a+2:Nat):Int):=Zra hx ha
theorem baE (h:ZaU c mn cp t g):Zl5.ev (σW c mn cp t g cnt z)=((4 * c.C:Nat):Int):=Zgk ZiN h.C.2
theorem shE (h:ZaU c mn cp t g):ZpT.ev (σW c mn cp t g cnt z)=((4 * c.C+1:Nat):Int):=Zpl ZiN h.C.2
theorem heE (h:ZaU c mn cp t g):ZsA.ev (σW c mn cp t g cnt z)=((4 * c.C+2:Nat):Int):=ZqO ZiN h.C.2
theorem fiE (h:ZaU c mn cp t g)(hx:x.ev (σW c mn cp t g cnt z)=(b:Int))(hb:b≤1000:=by omega):(Znd x).ev (σW c mn cp t g cnt z)=((4 * c.C+4+4 * b:Nat):Int):=Zlm ZiN h.C.2 hx hb
theorem nxE (h:ZaU c mn cp t g)(hx:x.ev (σW c mn cp t g cnt z)=(b:Int))(hb:b≤1000:=by omega):(ZsQ x).ev (σW c mn cp t g cnt z)=((4 * c.C+4+4 * b+2:Nat):Int):=Zq1 ZiN h.C.2 hx hb
theorem liE (h:ZaU c mn cp t g)(hx:x.ev (σW c mn cp t g cnt z)=(a:Int))(hy:y.ev (σW c mn cp t g cnt z)=(b:Int))(ha:a≤1000:=by omega)(hb:b≤1000:=by omega) :
 (ZsG x y).ev (σW c mn cp t g cnt z)=((4 * c.C+4+4 * c.S+a * c.O+b:Nat):Int):=ZqS ZiN h.C.2 ZaH h.S.2 Za3 h.O.2 hx ha hy hb
theorem kyE (hx:x.ev (σW c mn cp t g cnt z)=(b:Int))(hb:b≤1000:=by omega):(Zty x).ev (σW c mn cp t g cnt z)=(See.keyOf c.key b:Nat):=ZsD Zs5 hx hb
theorem p1E (hx:x.ev σ=(a:Int))(ha:a≤100000000000:=by omega):(add x (l 1)).ev σ=((a+1:Nat):Int):=Zq7 hx ha
theorem adE {p q:Int}(hx:x.ev σ=p)(hy:y.ev σ=q)(h0 : -1000000000000≤p+q:=by omega)(h1:p+q<1000000000000:=by omega):(add x y).ev σ=p+q:=ZpC hx hy h0 h1
theorem sbE {p q:Int}(hx:x.ev σ=p)(hy:y.ev σ=q)(h0 : -1000000000000≤p - q:=by omega)(h1:p - q<1000000000000:=by omega):(SE.bin .sub x y).ev σ=p - q:=ZlW hx hy h0 h1
theorem sbN (hx:x.ev σ=(a:Int))(hy:y.ev σ=(b:Int))(h:b≤a:=by omega)(ha:a≤100000000000:=by omega):(SE.bin .sub x y).ev σ=((a - b:Nat):Int):=Zro hx hy h ha
theorem cuE (hx:x.ev σ=(a:Int))(ha:a<18446744073709551616:=by omega):(SE.cv .u64 x).ev σ=(a:Int):=Zr3 hx ha
theorem ciE (hx:x.ev σ=(a:Int))(ha:a<9223372036854775808:=by omega):(SE.cv .i64 x).ev σ=(a:Int):=Zr2 hx ha
theorem lE (n:Int):(l n).ev σ=n:=Zf9
theorem lM (n:Nat):(l (n:Int)).ev σ=(n:Int):=Zf9
theorem eSl {s:Nat}(e:t.slab=(s:Int)):(v 15).ev (σW c mn cp t g cnt z)=(s:Int):=ZfE.trans e
theorem eOb {s:Nat}(e:t.obj=(s:Int)):(v 16).ev (σW c mn cp t g cnt z)=(s:Int):=ZaT.trans e
theorem eLa {s:Nat}(e:t.last=(s:Int)):(v 22).ev (σW c mn cp t g cnt z)=(s:Int):=ZbF.trans e
theorem eMy {s:Nat}(e:t.many=(s:Int)):(v 23).ev (σW c mn cp t g cnt z)=(s:Int):=ZcN.trans e
theorem eMm (e:0≤t.many):(v 23).ev (σW c mn cp t g cnt z)=((t.many.toNat:Nat):Int):=ZcN.trans (by omega)
theorem eTo (e:0≤t.to_):(v 24).ev (σW c mn cp t g cnt z)=((t.to_.toNat:Nat):Int):=Zpu.trans (by omega)
theorem eFo (e:0≤t.for_):(v 26).ev (σW c mn cp t g cnt z)=((t.for_.toNat:Nat):Int):=ZpX.trans (by omega)
section
variable {p q r s u o:Int}{L:List Int}
theorem z1:(v 41).ev (σW c mn cp t g cnt (zs (p::L)))=p:=Zs6
theorem z2:(v 42).ev (σW c mn cp t g cnt (zs (q::p::L)))=p:=Zs7
theorem z3:(v 43).ev (σW c mn cp t g cnt (zs (r::q::p::L)))=p:=Zs8
theorem z4:(v 44).ev (σW c mn cp t g cnt (zs (s::r::q::p::L)))=p:=Zs9
theorem z5:(v 45).ev (σW c mn cp t g cnt (zs (u::s::r::q::p::L)))=p:=Zta
theorem z6:(v 46).ev (σW c mn cp t g cnt (zs (o::u::s::r::q::p::L)))=p:=Ztb
theorem rE (q r:Int)(hx:x.ev σ=p)(h:q≤p∧p<r:=by omega):Facts σ (rng x q r):=Zdm hx h
theorem ltE (hx:x.ev σ=p)(hy:y.ev σ=q)(h:p<q:=by omega):Facts σ [(.lt x y,true)]:=Zor hx hy h
theorem geE (hx:x.ev σ=p)(hy:y.ev σ=q)(h:q≤p:=by omega):Facts σ [(.lt x y,false)]:=Zqh hx hy h
theorem eqE (hx:x.ev σ=p)(hy:y.ev σ=q)(h:p=q:=by omega):Facts σ [(.eq x y,true)]:=Zqg hx hy h
theorem neE (hx:x.ev σ=p)(hy:y.ev σ=q)(h:p≠q:=by omega):Facts σ [(.eq x y,false)]:=ZpG hx hy h
theorem a1E (h:ZaU c mn cp t g)(hx:x.ev (σW c mn cp t g cnt z)=(a:Int))(ha:a<g.length):Facts (σW c mn cp t g cnt z) (acc x 1):=Zr4 Zt4 h.len.2 hx ha
theorem a2E (h:ZaU c mn cp t g)(hx:x.ev (σW c mn cp t g cnt z)=(a:Int))(ha:a+1<g.length):Facts (σW c mn cp t g cnt z) (acc x 2):=Zr5 Zt4 h.len.2 hx ha
theorem fap {f1 f2:List (Cnd×Bool)}(h1:Facts σ f1)(h2:Facts σ f2):Facts σ (f1++f2):=h1.app h2
end
def tkL (t:Tk):List Value:=[.int .i64 t.job,.int .i64 (t.cpu:Int),.int .i64 t.pc,.int .i64 t.fin,.int .i64 t.want,.int .i64 t.slab,.int .i64 t.obj,.int .u64 (t.H:Int),.int .u64 (t.T:Int),.int .u64 (t.F:Int),.int .u64 (t.K:Int),.int .u64 (t.N:Int),.int .i64 t.last,.int .i64 t.many,.int .i64 t.to_,.int .i64 t.back,.int .i64 t.for_]
structure Rs (σ:Nat→Int)(l:List AV)(vs:List Value):Prop where
 shut:AV.shuts l=true
 val:Ex.Zar σ l=vs
theorem rs0 (h:ZaU c mn cp t g)(n:Int):Rs (σW c mn cp t g cnt z) (ZiF n) (tkL { t with pc:=n }):=by
 refine ⟨rfl,?_⟩
 have hfin:=h.fin
 have hwant:=h.want
 simp only [tkL,ZiF,si,su,Ex.valOf,Ex.Zar,Zs4,Zak,ZfE,ZaT,Zkn,Zf0,ZaG,ZbH,Zhp,ZbF,ZcN,Zpu,ZdB,ZpX,hfin,hwant]
theorem rsS (h:ZaU c mn cp t g){n:Int}(hpc:t.pc=n):Rs (σW c mn cp t g cnt z) (ZiF n) (tkL t):=by
 have:=rs0 (cnt:=cnt) (z:=z) h n
 rw [← hpc] at this ⊢
 exact this
theorem Rs.set {l:List AV}{vs:List Value}{d:AV}{e:Value}(h:Rs σ l vs)(i:Nat)(s:Says σ d e):Rs σ (l.set i d) (vs.set i e):=by
 obtain ⟨h1,rfl⟩:=h
 induction l generalizing i with
 | nil=>exact ⟨rfl,by cases i <;> rfl⟩
 | cons k l ih =>
   have hk:k.shut=true:=by
    cases hk:k.shut with
    | true=>rfl
    | false=>simp only [AV.shuts,hk] at h1; cases h1
   have h2:AV.shuts l=true:=by simpa only [AV.shuts,hk] using h1
   cases i with
   | zero=>exact ⟨by simp only [List.set_cons_zero,AV.shuts,s.shut,h2],by simp only [List.set_cons_zero,Ex.Zar,s.val]⟩
   | succ i =>
     have:=ih i h2
     exact ⟨by simp only [List.set_cons_succ,AV.shuts,hk,this.shut],by simp only [List.set_cons_succ,Ex.Zar,this.val]⟩
theorem Rs.u {l:List AV}{vs:List Value}{n:Int}(h:Rs σ l vs)(i:Nat)(s:x.ev σ=n):Rs σ (l.set i (.sym .u64 x)) (vs.set i (.int .u64 n)):=h.set i (Says.su s)
theorem Rs.i {l:List AV}{vs:List Value}{n:Int}(h:Rs σ l vs)(i:Nat)(s:x.ev σ=n):Rs σ (l.set i (.sym .i64 x)) (vs.set i (.int .i64 n)):=h.set i (Says.si s)
theorem Rs.n {l:List AV}{vs:List Value}(h:Rs σ l vs)(i:Nat)(n:Int):Rs σ (l.set i (.int .i64 n)) (vs.set i (.int .i64 n)):=h.set i Says.li
theorem s1E {L:SE}{g1:List Nat}{z:Nat}(hL:ZbM σ L (one (Zb0 g1)))(hx:x.ev σ=(a:Int))(hy:y.ev σ=(z:Int))(ha:a<g1.length):ZbM σ (.lset L x 0 y) (one (Zb0 (g1.set a z))):=Zk3 hL hx hy ha
theorem s2E {L x y1 y2:SE}{g1:List Nat}{a z1 z2:Nat}(hL:ZbM σ L (one (Zb0 g1)))(hx:x.ev σ=(a:Int))(h1:y1.ev σ=(z1:Int))(h2:y2.ev σ=(z2:Int))(ha:a+1<g1.length)(hb:g1.length≤4096) :
 ZbM σ (.lset (.lset L x 0 y1) (add x (l 1)) 0 y2) (one (Zb0 ((g1.set a z1).set (a+1) z2))):=Zrl hL hx h1 h2 ha (by omega)
theorem toW {f:FuncId}{p:Int}{fs:List (Cnd×Bool)}{kcs:List Kc}{L:SE}{r:List AV}(l:List Int)(h:ZaU c mn cp t g)(hpc:t.pc=p)
 (hfs:∀ cnt,Facts (σW c mn cp t g cnt (zs l)) fs)
 (hk:∀ cnt fs (ok:∀ f∈fs,f.1.ev (σW c mn cp t g cnt (zs l))=f.2),∀ k∈kcs,@ZiS (nums FillTab.gs [] roN (σW c mn cp t g cnt (zs l)) ΩW fs ok) Tryz.prog k)
 (hL:∀ cnt,ZbM (σW c mn cp t g cnt (zs l)) L (one (Zb0 g')))
 (hr:∀ cnt,Rs (σW c mn cp t g cnt (zs l)) r (tkL t'))
 (run:(Wy.mk f p kcs fs r L).run=true:=by kernel_rfl) (hgl:g'.length=g.length:=by simp only [List.length_set]):Zae f c mn cp t g t' g' :=
 Wy.to (x:=Wy.mk f p kcs fs r L) run h hpc hfs hk (hr 0).shut hL hgl fun cnt=>by rw [(hr cnt).val]; rfl
end
end Go.Proofs.YtfcpdlbkmkhhcaaGreatDoor.Cw
