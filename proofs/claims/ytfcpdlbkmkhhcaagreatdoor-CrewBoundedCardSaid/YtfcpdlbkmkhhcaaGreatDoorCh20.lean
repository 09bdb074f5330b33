/-
  Texts of this claim, joined. No condition.
-/
import Derived.Test.YtfcpdlbkmkhhcaaGreatDoorCh1
import Derived.Test.YtfcpdlbkmkhhcaaGreatDoorCh19
namespace Go.Proofs.YtfcpdlbkmkhhcaaGreatDoor
set_option maxRecDepth 100000
set_option maxHeartbeats 40000000
namespace Cw
open Go Ex Mem See
open Go.RowKit
section
theorem Zng:rz Tryz.prog 52:=⟨Tryz.f52,_,Tryz.func52,by kernel_rfl,rfl⟩
theorem Y6:rz Tryz.prog 72:=⟨Tryz.f72,_,Tryz.func72,by kernel_rfl,rfl⟩
theorem Znf:rz Tryz.prog 57:=⟨Tryz.f57,_,Tryz.func57,by kernel_rfl,rfl⟩
theorem ZqL:rz Tryz.prog 139:=⟨Tryz.f139,_,Tryz.func139,by kernel_rfl,rfl⟩
theorem ZoO:rz Tryz.prog 69:=⟨Tryz.f69,_,Tryz.func69,by kernel_rfl,rfl⟩
theorem ZoP:rz Tryz.prog 122:=⟨Tryz.f122,_,Tryz.func122,by kernel_rfl,rfl⟩
theorem Z7:rz Tryz.prog 120:=⟨Tryz.f120,_,Tryz.func120,by kernel_rfl,rfl⟩
theorem ZqK:rz Tryz.prog 128:=⟨Tryz.f128,_,Tryz.func128,by kernel_rfl,rfl⟩
variable {N:au}
structure Says (σ:Nat→Int)(a:AV)(x:Value):Prop where
 shut:a.shut=true
 val:Ex.valOf σ a=x
theorem Says.si {σ:Nat→Int}{e:SE}{x:Int}(h:e.ev σ=x):Says σ (.sym .i64 e) (.int .i64 x):=⟨rfl,by unfold Ex.valOf;rw[h]⟩
theorem Says.su {σ:Nat→Int}{e:SE}{x:Int}(h:e.ev σ=x):Says σ (.sym .u64 e) (.int .u64 x):=⟨rfl,by unfold Ex.valOf;rw[h]⟩
theorem Says.li {σ:Nat→Int}{x:Int}:Says σ (.int .i64 x) (.int .i64 x):=⟨rfl,by unfold Ex.valOf;rfl⟩
theorem Says.bool {σ:Nat→Int}{b:Bool}:Says σ (.bool b) (.bool b):=⟨rfl,by unfold Ex.valOf;rfl⟩
theorem Says.jD {σ:Nat→Int}{c:dB}{p b:Bool}(h:(c.ev σ==p)=b):Says σ (.jD c p) (.bool b):=⟨rfl,by unfold Ex.valOf;rw[h]⟩
theorem Gd {X:SE}{n:Nat}{a b:AV}{p q:Int}(hx:X.ev au.σ=(n:Int))(hn:n<18446744073709551616)(h:sO n=some (p,q))(ha:Says au.σ a (.int .i64 p))(hb:Says au.σ b (.int .i64 q)) :
 rA Tryz.prog { f:=52,args:=[.sym .u64 X],res:=.gV [a,b,.bool true] }:=by
 refine BF rfl (by simp only[AV.shut,AV.shuts,ha.shut,hb.shut]) rfl rfl rfl Zng fun _ W w m hO => ?_;rw[show(eU au.σ [.sym .u64 X]).toArray=#[.int .u64 (n:Int)] from by simp only[eU,Ex.valOf,hx]];refine(Zf n hn w).mono ?_;rintro e w' ⟨rfl,rfl⟩;refine⟨?_,hO⟩;simp only[Ex.valOf,eU,ha.val,hb.val,QK,h]
theorem wT {X:SE}{n:Nat}{a b:AV}{p q:Int}(hx:X.ev au.σ=(n:Int))(hn:n<18446744073709551616)(h:partOf n=some (p,q))(ha:Says au.σ a (.int .i64 p))(hb:Says au.σ b (.int .i64 q)) :
 rA Tryz.prog { f:=72,args:=[.sym .u64 X],res:=.gV [a,b,.bool true] }:=by
 refine BF rfl (by simp only[AV.shut,AV.shuts,ha.shut,hb.shut]) rfl rfl rfl Y6 fun _ W w m hO => ?_;rw[show(eU au.σ [.sym .u64 X]).toArray=#[.int .u64 (n:Int)] from by simp only[eU,Ex.valOf,hx]];refine(Tf n hn w).mono ?_;rintro e w' ⟨rfl,rfl⟩;refine⟨?_,hO⟩;simp only[Ex.valOf,eU,ha.val,hb.val,Mo,h]
theorem Znu {X:SE}{n:Nat}(hx:X.ev au.σ=(n:Int))(hn:n<18446744073709551616)(h:partOf n=none) :
 rA Tryz.prog { f:=72,args:=[.sym .u64 X],res:=.gV [.int .i64 (-1),.int .i64 0,.bool false] }:=by
 refine BF rfl rfl rfl rfl rfl Y6 fun _ W w m hO => ?_;rw[show(eU au.σ [.sym .u64 X]).toArray=#[.int .u64 (n:Int)] from by simp only[eU,Ex.valOf,hx]];refine(Tf n hn w).mono ?_;rintro e w' ⟨rfl,rfl⟩;refine⟨?_,hO⟩;simp only[Ex.valOf,eU,Mo,h]
theorem gX {X:SE}{n:Nat}{a b f:AV}{k:Gt}(hx:X.ev au.σ=(n:Int))(hn:n<18446744073709551616)(h:sM n=some k)(hl:k.live=true)(ha:Says au.σ a (.int .i64 k.ay))(hb:Says au.σ b (.int .i64 k.objects))(hf:Says au.σ f (.bool k.frozen)) :
 rA Tryz.prog { f:=57,args:=[.sym .u64 X],res:=.gV [.agg [a,b,f,.bool true],.bool true] }:=by
 refine BF rfl (by simp only[AV.shut,AV.shuts,ha.shut,hb.shut,hf.shut]) rfl rfl rfl Znf fun _ W w m hO => ?_;rw[show(eU au.σ [.sym .u64 X]).toArray=#[.int .u64 (n:Int)] from by simp only[eU,Ex.valOf,hx]];refine(Ze hO n hn).mono ?_;rintro e w' ⟨rfl,h'⟩;refine⟨?_,h'⟩;simp only[Ex.valOf,eU,ha.val,hb.val,hf.val,Qi,h,hl]
theorem jo {a b f:AV}{r:SE}{A B:Nat}{fz:Bool}(ha:Says au.σ a (.int .i64 A))(hb:Says au.σ b (.int .i64 B))(hf:Says au.σ f (.bool fz))(h1:A≤B)(h2:1≤B)(h3:B≤16)(hr:r.ev au.σ=(dF A B fz true:Nat)) :
 rA Tryz.prog { f:=139,args:=[.agg [a,b,f,.bool true]],res:=.gV [.sym .u64 r,.int .i64 0] }:=by
 refine BF (by simp only[AV.shut,AV.shuts,ha.shut,hb.shut,hf.shut]) rfl rfl rfl rfl ZqL fun _ W w m hO => ?_;rw[show(eU au.σ [.agg [a,b,f,.bool true]]).toArray=#[.agg #[.int .i64 (A:Int),.int .i64 (B:Int),.bool fz,.bool true]] from by simp only[eU,Ex.valOf,ha.val,hb.val,hf.val]];refine(Zq9 hO A B (by omega) (by omega) fz true (by unfold GN;exact Zx8 (.inl ⟨rfl,by omega,by omega,by omega,by omega⟩))).mono ?_;rintro e w' ⟨rfl,h'⟩;refine⟨?_,h'⟩;simp only[Ex.valOf,eU,hr]
theorem Df {s o:AV}{r:SE}{x y:Int}(hs:Says au.σ s (.int .i64 x))(ho:Says au.σ o (.int .i64 y))(h:EM x y)(hr:r.ev au.σ=(headW x y:Nat)):rA Tryz.prog { f:=69,args:=[s,o],res:=.gV [.sym .u64 r,.int .i64 0] }:=by
 refine BF (by simp only[AV.shuts,hs.shut,ho.shut]) rfl rfl rfl rfl ZoO fun _ W w m hO => ?_;rw[show(eU au.σ [s,o]).toArray=#[.int .i64 x,.int .i64 y] from by simp only[eU,hs.val,ho.val]];refine(Cb x y h w).mono ?_;rintro e w' ⟨rfl,rfl⟩;refine⟨?_,hO⟩;simp only[Ex.valOf,eU,hr]
theorem Ue {s o:AV}{r:SE}{x y:Int}(hs:Says au.σ s (.int .i64 x))(ho:Says au.σ o (.int .i64 y))(h:BM x y)(hr:r.ev au.σ=(qF x y:Nat)):rA Tryz.prog { f:=122,args:=[s,o],res:=.gV [.sym .u64 r,.int .i64 0] }:=by
 refine BF (by simp only[AV.shuts,hs.shut,ho.shut]) rfl rfl rfl rfl ZoP fun _ W w m hO => ?_;rw[show(eU au.σ [s,o]).toArray=#[.int .i64 x,.int .i64 y] from by simp only[eU,hs.val,ho.val]];refine(Z0 x y h w).mono ?_;rintro e w' ⟨rfl,rfl⟩;refine⟨?_,hO⟩;simp only[Ex.valOf,eU,hr]
theorem LF {x ky o:SE}{a:AV}{X key n:Nat}{s:Int}(hx:x.ev au.σ=(X:Int))(hX:X<18446744073709551616)(hk:ky.ev au.σ=(key:Int))(NF:key<18446744073709551616)(hn:o.ev au.σ=(n:Int))(jT:n<16)(h:qG X key n=some s)(ha:Says au.σ a (.int .i64 s)) :
 rA Tryz.prog { f:=120,args:=[.sym .u64 x,.sym .u64 ky,.sym .i64 o],res:=.gV [a,.bool true] }:=by
 refine BF rfl (by simp only[AV.shut,AV.shuts,ha.shut]) rfl rfl rfl Z7 fun _ W w m hO => ?_;rw[show(eU au.σ [.sym .u64 x,.sym .u64 ky,.sym .i64 o]).toArray=#[.int .u64 (X:Int),.int .u64 (key:Int),.int .i64 (n:Int)] from by simp only[eU,Ex.valOf,hx,hk,hn]];refine(UB X key n hX NF jT w).mono ?_;rintro e w' ⟨rfl,rfl⟩;refine⟨?_,hO⟩;simp only[Ex.valOf,eU,ha.val,Mq,h]
theorem Znv {x ky o:SE}{a:AV}{X key n:Nat}(hx:x.ev au.σ=(X:Int))(hX:X<18446744073709551616)(hk:ky.ev au.σ=(key:Int))(NF:key<18446744073709551616)(hn:o.ev au.σ=(n:Int))(jT:n<16)(h:qG X key n=none)(ha:Says au.σ a (.int .i64 0)) :
 rA Tryz.prog { f:=120,args:=[.sym .u64 x,.sym .u64 ky,.sym .i64 o],res:=.gV [a,.bool false] }:=by
 refine BF rfl (by simp only[AV.shut,AV.shuts,ha.shut]) rfl rfl rfl Z7 fun _ W w m hO => ?_;rw[show(eU au.σ [.sym .u64 x,.sym .u64 ky,.sym .i64 o]).toArray=#[.int .u64 (X:Int),.int .u64 (key:Int),.int .i64 (n:Int)] from by simp only[eU,Ex.valOf,hx,hk,hn]];refine(UB X key n hX NF jT w).mono ?_;rintro e w' ⟨rfl,rfl⟩;refine⟨?_,hO⟩;simp only[Ex.valOf,eU,ha.val,Mq,h]
theorem EI {i o:AV}{ky r:SE}{x:Int}{key n:Nat}(hi:Says au.σ i (.int .i64 x))(hk:ky.ev au.σ=(key:Int))(NF:key<18446744073709551616)(ho:Says au.σ o (.int .i64 (n:Int)))(h1 : -1≤x∧x<16)(h2:n<16)(hr:r.ev au.σ=(fZ x key n:Nat)) :
 rA Tryz.prog { f:=128,args:=[i,.sym .u64 ky,o],res:=.gV [.sym .u64 r,.int .i64 0] }:=by
 refine BF (by simp only[AV.shut,AV.shuts,hi.shut,ho.shut]) rfl rfl rfl rfl ZqK fun _ W w m hO => ?_;rw[show(eU au.σ [i,.sym .u64 ky,o]).toArray=#[.int .i64 x,.int .u64 (key:Int),.int .i64 (n:Int)] from by simp only[eU,Ex.valOf,hi.val,hk,ho.val]];refine(Znp x key n NF w).mono ?_;rintro e w' ⟨rfl,rfl⟩;refine⟨?_,hO⟩;unfold UY;rw[if_pos ⟨h1,by omega,by omega⟩,Zx2];simp only[Ex.valOf,eU,hr]
end
end Cw
namespace Cw
open Go Ex Mem See
open Go.RowKit
section
def bH (t:Tk):Value:=.agg #[.int .i64 t.job,.int .i64 (t.aB:Int),.int .i64 t.pc,.int .i64 t.fin,.int .i64 t.want,.int .i64 t.aA,.int .i64 t.obj,.int .u64 (t.H:Int),.int .u64 (t.T:Int),.int .u64 (t.F:Int),.int .u64 (t.K:Int),.int .u64 (t.N:Int),.int .i64 t.last,.int .i64 t.many,.int .i64 t.bS,.int .i64 t.back,.int .i64 t.for_]
def qd (c:Ch)(mn cp:Nat):Value:=.agg #[.int .i64 (c.C:Int),.int .i64 (c.S:Int),.int .i64 (c.O:Int),.int .i64 (mn:Int),.int .i64 (cp:Int),.int .u64 (c.key:Int)]
structure cZ (f:FuncId)(c:Ch)(mn cp:Nat)(t:Tk)(g:List Nat)(t':Tk)(g':List Nat):Prop where
 go:∀ {W w:World} {m:List (Nat×Obj)} {b0 b1 cnt:Nat},cnt<1000000000→jR aJ.gs w→(∀ b l,sP b aJ.gs=some l→b<W.heap.size)→Own W (mB b0 b1 g.length cnt::wB b1 g::m) w →
  Calls Tryz.prog f #[.pointer (some ⟨b0,0,none⟩),qd c mn cp,bH t] w fun e w'=>e = .returned (.tuple #[bH t',.int .i64 0])∧Own W (mB b0 b1 g'.length (cnt+1)::wB b1 g'::m) w'
structure bL (c:Ch)(mn cp:Nat)(t:Tk)(g:List Nat):Prop where
 C:1≤c.C∧c.C≤8
 S:1≤c.S∧c.S≤32
 O:1≤c.O∧c.O≤16
 mn:mn≤32
 cp:cp≤32
 key:c.key<18446744073709551616
 aB:t.aB<c.C
 len:1≤g.length∧g.length≤4096
 CP:∀ x∈g,x<18446744073709551616
 fin:t.fin=0
 want:t.want=0
def iy (c:Ch)(mn cp:Nat)(t:Tk)(n cnt:Nat)(z:Nat→Int)(i:Nat):Int :=
 match i with
 |0=>c.C|1=>c.S|2=>c.O|3=>mn|4=>cp|5=>c.key
 |10=>t.job|11=>t.aB|15=>t.aA|16=>t.obj|17=>t.H|18=>t.T|19=>t.F|20=>t.K|21=>t.N|22=>t.last|23=>t.many|24=>t.bS|25=>t.back|26=>t.for_
 |30=>n|31=>cnt|i=>z i
variable {c:Ch}{mn cp:Nat}{t t':Tk}{g g':List Nat}{z:Nat→Int}
theorem Wy.to {x:Wy}(hr:x.run=true)(h:bL c mn cp t g)(hpc:t.pc=x.pc)
 (tJ:∀ cnt,Facts (eT (iy c mn cp t g.length cnt z) g) x.fs) (hk:∀ cnt fs (ok:∀ f∈fs,f.1.ev (eT (iy c mn cp t g.length cnt z) g)=f.2),∀ k∈x.pU,@rA (nums aJ.gs [] j6 (eT (iy c mn cp t g.length cnt z) g) ΩW fs ok) Tryz.prog k)
 (fE:AV.shuts x.res=true) (hL:∀ cnt,kD (eT (iy c mn cp t g.length cnt z) g) x.g (one (kS g'))) (Ag:g'.length=g.length)
 (xK:∀ cnt,Value.agg (Ex.eU (eT (iy c mn cp t g.length cnt z) g) x.res).toArray=bH t'):cZ x.f c mn cp t g t' g':=by
 refine⟨fun {W w m b0 b1 cnt} hc ql hgW hO => ?_⟩;have e:∀ i,i<2048→(v i).ev (eT (iy c mn cp t g.length cnt z) g)=iy c mn cp t g.length cnt z i:=fun i hi=>jk hi;have hC:=h.C;have hS:=h.S;have hOo:=h.O;have bP:=h.mn;have bN:=h.cp;have ai:=h.aB;have hlen:=h.len;have V8:Facts (eT (iy c mn cp t g.length cnt z) g) fC:=by
  unfold fC;refine Facts.app (Facts.app (Facts.app (Facts.app (Facts.app (Facts.app (Facts.app (Facts.app (Facts.app ?_ ?_) ?_) ?_) ?_) ?_) ?_) ?_) ?_) ?_
  ·exact p9 (e 0 (by omega)) (by simp only[iy];omega)
  ·exact p9 (e 1 (by omega)) (by simp only[iy];omega)
  ·exact p9 (e 2 (by omega)) (by simp only[iy];omega)
  ·exact p9 (e 3 (by omega)) (by simp only[iy];omega)
  ·exact p9 (e 4 (by omega)) (by simp only[iy];omega)
  ·exact p9 (e 11 (by omega)) (by simp only[iy];omega)
  ·exact Cf (e 11 (by omega)) (e 0 (by omega)) (by simp only[iy];omega)
  ·exact p9 (e 30 (by omega)) (by simp only[iy];omega)
  ·exact p9 Ma (by omega)
  ·exact p9 (e 31 (by omega)) (by simp only[iy];omega)
 have NG:Jy aJ.gs [] j6 Tryz.prog (eT (iy c mn cp t g.length cnt z) g) ΩW (FT x.pU):=fun fs ok args k Wp=>hk cnt fs ok k Wp;refine(Wy.calls (V:=iy c mn cp t g.length cnt z) hr NG (Facts.app (tJ cnt) V8) fE rfl rfl hc hlen.2 (hL cnt) Ag ql hgW hO ?_ ?_).mono ?_
 ·simp only[qd,JW,si,su,Ex.valOf,Ex.eU,e _ (show 0<2048 by omega),e _ (show 1<2048 by omega),e _ (show 2<2048 by omega),e _ (show 3<2048 by omega),e _ (show 4<2048 by omega),e _ (show 5<2048 by omega),iy]
 ·have aI:=h.fin
  have aC:=h.want;simp only[bH,Du,si,su,Ex.valOf,Ex.eU,e 10 (by omega),e 11 (by omega),e 15 (by omega),e 16 (by omega),e 17 (by omega),e 18 (by omega),e 19 (by omega),e 20 (by omega),e 21 (by omega),e 22 (by omega),e 23 (by omega),e 24 (by omega),e 25 (by omega),e 26 (by omega),iy,aI,aC,hpc]
 ·rintro r w' ⟨rfl,h'⟩
  rw[Ag];exact⟨by rw[xK cnt],h'⟩
variable {cnt:Nat}
noncomputable abbrev σW (c:Ch) (mn cp:Nat) (t:Tk) (g:List Nat) (cnt:Nat) (z:Nat→Int):Nat→Int:=eT (iy c mn cp t g.length cnt z) g
theorem qI:(v 0).ev (σW c mn cp t g cnt z)=((c.C:Nat):Int):=jk (by omega)
theorem bg:(v 1).ev (σW c mn cp t g cnt z)=((c.S:Nat):Int):=jk (by omega)
theorem cK:(v 2).ev (σW c mn cp t g cnt z)=((c.O:Nat):Int):=jk (by omega)
theorem QI:(v 3).ev (σW c mn cp t g cnt z)=((mn:Nat):Int):=jk (by omega)
theorem Zs3:(v 4).ev (σW c mn cp t g cnt z)=((cp:Nat):Int):=jk (by omega)
theorem Zs5:(v 5).ev (σW c mn cp t g cnt z)=((c.key:Nat):Int):=jk (by omega)
theorem bZ:(v 11).ev (σW c mn cp t g cnt z)=((t.aB:Nat):Int):=jk (by omega)
theorem tu:(v 17).ev (σW c mn cp t g cnt z)=((t.H:Nat):Int):=jk (by omega)
theorem l8:(v 18).ev (σW c mn cp t g cnt z)=((t.T:Nat):Int):=jk (by omega)
theorem aZ:(v 19).ev (σW c mn cp t g cnt z)=((t.F:Nat):Int):=jk (by omega)
theorem eO:(v 20).ev (σW c mn cp t g cnt z)=((t.K:Nat):Int):=jk (by omega)
theorem oH:(v 21).ev (σW c mn cp t g cnt z)=((t.N:Nat):Int):=jk (by omega)
theorem Zt4:(v 30).ev (σW c mn cp t g cnt z)=((g.length:Nat):Int):=jk (by omega)
theorem Zs4:(v 10).ev (σW c mn cp t g cnt z)=t.job:=jk (by omega)
theorem Jm:(v 15).ev (σW c mn cp t g cnt z)=t.aA:=jk (by omega)
theorem jQ:(v 16).ev (σW c mn cp t g cnt z)=t.obj:=jk (by omega)
theorem sN:(v 22).ev (σW c mn cp t g cnt z)=t.last:=jk (by omega)
theorem zz:(v 23).ev (σW c mn cp t g cnt z)=t.many:=jk (by omega)
theorem QJ:(v 24).ev (σW c mn cp t g cnt z)=t.bS:=jk (by omega)
theorem Da:(v 25).ev (σW c mn cp t g cnt z)=t.back:=jk (by omega)
theorem ZpX:(v 26).ev (σW c mn cp t g cnt z)=t.for_:=jk (by omega)
theorem Zs6:(v 41).ev (σW c mn cp t g cnt z)=z 41:=jk (by omega)
theorem Zs7:(v 42).ev (σW c mn cp t g cnt z)=z 42:=jk (by omega)
theorem Zs8:(v 43).ev (σW c mn cp t g cnt z)=z 43:=jk (by omega)
theorem Zs9:(v 44).ev (σW c mn cp t g cnt z)=z 44:=jk (by omega)
theorem Zta:(v 45).ev (σW c mn cp t g cnt z)=z 45:=jk (by omega)
theorem Ztb:(v 46).ev (σW c mn cp t g cnt z)=z 46:=jk (by omega)
theorem aD {x:SE}{a y:Nat}(hx:x.ev (σW c mn cp t g cnt z)=(a:Int))(h:g[a]?=some y):(w x).ev (σW c mn cp t g cnt z)=(y:Int):=by
 rw[Zuj hx,Zxx,h];rfl
theorem aQ {a y:Nat}(h:g[a]?=some y):a<g.length:=(List.getElem?_eq_some_iff.1 h).1
theorem bL.w {a y:Nat}(h:bL c mn cp t g)(hy:g[a]?=some y):y<18446744073709551616:=h.CP y (Zxz hy)
theorem k0 {P:Kc→Prop}:∀ x∈([]:List Kc),P x:=fun _ h=>by cases h
theorem k1 {P:Kc→Prop}{k:Kc}(h:P k):∀ x∈[k],P x:=fun x hx=>by
 rw[ZxE]at hx;exact hx ▸ h
theorem k2 {P:Kc→Prop}{k k':Kc}(h:P k)(h':P k'):∀ x∈[k,k'],P x:=fun x hx=>by
 rcases List.mem_cons.1 hx with rfl|hx
 ·exact h
 ·exact k1 h' x hx
def zs (l:List Int):Nat→Int:=fun i=>l.getD (i - 41) 0
theorem o5 {i old sec x y:Nat}{yes no:Tk}{r:Tk×List Nat}(h:mK g i old sec x y yes no=some r) :
 ∃ p q,g[i]?=some p∧g[i+1]?=some q∧((p=old∧q=sec∧r=(yes,(g.set i x).set (i+1) y))∨(p≠old∧r=(no,g))∨(p=old∧q≠sec∧r=(no,g))):=by
 obtain⟨p,hp,h⟩:=rd_some h;obtain⟨q,hq,h⟩:=rd_some h;refine⟨p,q,hp,hq,?_⟩;split at h
 ·rename_i hb
  exact .inl ⟨hb.1,hb.2,(ZxZ h).symm⟩
 ·rename_i hb
  by_cases e:p=old
  ·exact .inr (.inr ⟨e,fun e2=>hb ⟨e,e2⟩,(ZxZ h).symm⟩)
  ·exact .inr (.inl ⟨e,(ZxZ h).symm⟩)
theorem iZ {k:Nat→Out}{r:Tk×List Nat}(h:iN c t k=some r):∃ s:Nat,t.aA=(s:Int)∧s<c.S∧k s=some r:=by
 obtain⟨hb,h⟩:=eY h;exact⟨t.aA.toNat,by omega,by omega,h⟩
theorem zq {x:Int}{k:Nat→Out}{r:Tk×List Nat}(h:wZ c x k=some r):∃ o:Nat,x=(o:Int)∧o<c.O∧k o=some r:=by
 obtain⟨hb,h⟩:=eY h;exact⟨x.toNat,by omega,by omega,h⟩
theorem kR {i x:Nat}{t':Tk}{r:Tk×List Nat}(h:wr g i x t'=some r):i<g.length∧r=(t',g.set i x):=by
 obtain⟨y,hy,h⟩:=rd_some h;exact⟨(List.getElem?_eq_some_iff.1 hy).1,(ZxZ h).symm⟩
theorem C9 {σ:Nat→Int}{x:SE}{a:Nat}(hx:x.ev σ=(a:Int)):(SE.fH .add x (l 1)).ev σ=(((a+1) % jC:Nat):Int):=by
 simp only[SE.ev,l,hx,IntKind.wrap_u64];show((a:Int)+1) % 18446744073709551616=(((a+1) % 18446744073709551616:Nat):Int);omega
theorem Zrl {σ:Nat→Int}{L x y1 y2:SE}{g1:List Nat}{a z1 z2:Nat}(hL:kD σ L (one (kS g1)))(hx:x.ev σ=(a:Int))(h1:y1.ev σ=(z1:Int))(h2:y2.ev σ=(z2:Int))(ha:a+1<g1.length)(hb:a≤100000) :
 kD σ (.jY (.jY L x 0 y1) (add x (l 1)) 0 y2) (one (kS ((g1.set a z1).set (a+1) z2))) :=
 TU (TU hL hx h1 (by omega)) (UW hx (by omega)) h2 (by rw[List.length_set];exact ha)
end
end Cw
namespace Cw
open Go Ex Mem See
open Go.RowKit
section
variable {c:Ch}{mn cp:Nat}{t t':Tk}{g g':List Nat}
theorem Zr3 {σ:Nat→Int}{x:SE}{a:Nat}(hx:x.ev σ=(a:Int))(ha:a<18446744073709551616):(SE.cv .u64 x).ev σ=(a:Int):=by
 simp only[SE.ev,hx];exact Zok (by omega) (by omega)
theorem Zr2 {σ:Nat→Int}{x:SE}{a:Nat}(hx:x.ev σ=(a:Int))(ha:a<9223372036854775808):(SE.cv .i64 x).ev σ=(a:Int):=by
 simp only[SE.ev,hx];exact wS (by omega) (by omega)
theorem Zro {σ:Nat→Int}{x y:SE}{a b:Nat}(hx:x.ev σ=(a:Int))(hy:y.ev σ=(b:Int))(h:b≤a)(ha:a≤100000000000):(SE.iH .sub x y).ev σ=((a - b:Nat):Int):=by
 rw[Qr hx hy (by omega) (by omega)];omega
theorem Ug {σ:Nat→Int}{x:SE}{a:Nat}(hx:x.ev σ=(a:Int)):(SE.fH .add x (l 18446744073709551615)).ev σ=(((a+18446744073709551615) % jC:Nat):Int):=by
 simp only[SE.ev,l,hx,IntKind.wrap_u64];show((a:Int)+18446744073709551615) % 18446744073709551616=(((a+18446744073709551615) % 18446744073709551616:Nat):Int);omega
theorem vJ {w:Nat}{k:Nat→Nat→Bool→Out}{r:Tk×List Nat}(h:sW w k=some r):∃ p:Gt,sM w=some p∧p.live=true∧p.ay≤p.objects∧1≤p.objects∧p.objects≤16∧k p.ay p.objects p.frozen=some r:=by
 unfold sW at h;split at h
 ·rename_i p hp
  split at h
  ·rename_i hb
   refine⟨p,hp,hb.1,?_,hb.2,?_,h⟩ <;>
   ·unfold sM at hp
    split at hp
    ·cases hp
     exact absurd hb.1 (by decide)
    ·split at hp
     ·cases hp
      dsimp only;omega
     ·cases hp
  ·cases h
 ·cases h
theorem SS {w:Nat}{k:Int→Int→Out}{r:Tk×List Nat}(h:Dq w k=some r):∃ a b,sO w=some (a,b)∧k a b=some r:=by
 unfold Dq at h;split at h
 ·exact⟨_,_,by assumption,h⟩
 ·cases h
theorem Je {w:Nat}{k:Int→Int→Out}{r:Tk×List Nat}(h:ut w k=some r):∃ a b,partOf w=some (a,b)∧k a b=some r:=by
 unfold ut at h;split at h
 ·exact⟨_,_,by assumption,h⟩
 ·cases h
theorem LB {w:Nat}{s o:Int}(h:sO w=some (s,o)) : -1≤s∧s<32 ∧ -1≤o∧o<16:=by
 unfold sO at h;split at h
 ·cases h;omega
 ·split at h
  ·cases h;omega
  ·cases h
theorem Gf {w:Nat}{s m:Int}(h:partOf w=some (s,m)) : -1≤s∧s<32∧0≤m∧m<64:=by
 unfold partOf at h;split at h
 ·cases h;omega
 ·split at h
  ·cases h;omega
  ·cases h
theorem Qq {w:Nat}{p:Int×Int}(h:partOf w=some p):w<18446744073709551616:=by
 unfold partOf at h;split at h
 ·omega
 ·split at h
  ·omega
  ·cases h
theorem iY {w:Nat}{p:Gt}(h:sM w=some p):w<18446744073709551616:=by
 unfold sM at h;split at h
 ·omega
 ·split at h
  ·omega
  ·cases h
theorem Ua {σ:Nat→Int}{b:Bool}(h:(v 43).ev σ=if b=true then 1 else 0):Says σ (.jD (.eq (v 43) (l 1)) true) (.bool b):=Says.jD (by
 simp only[dB.ev,h,mM];cases b<;>rfl)
end
end Cw
namespace Cw
open Go Ex Mem See
open Go.RowKit
section
variable {c:Ch}{mn cp:Nat}{t t':Tk}{g g':List Nat}{z:Nat→Int}{cnt:Nat}{σ:Nat→Int}{x y:SE}{a b:Nat}
theorem dV (hx:x.ev σ=(a:Int))(ha:a≤100000:=by omega):(UX x).ev σ=((4 * a:Nat):Int):=Znm hx ha
theorem gP (hx:x.ev σ=(a:Int))(ha:a≤100000:=by omega):(ZsS x).ev σ=((4 * a+2:Nat):Int):=Zra hx ha
theorem iD (h:bL c mn cp t g):JA.ev (σW c mn cp t g cnt z)=((4 * c.C:Nat):Int):=LJ qI h.C.2
theorem iM (h:bL c mn cp t g):ZpT.ev (σW c mn cp t g cnt z)=((4 * c.C+1:Nat):Int):=Zpl qI h.C.2
theorem pF (h:bL c mn cp t g):ZsA.ev (σW c mn cp t g cnt z)=((4 * c.C+2:Nat):Int):=ZqO qI h.C.2
theorem aS (h:bL c mn cp t g)(hx:x.ev (σW c mn cp t g cnt z)=(b:Int))(hb:b≤1000:=by omega):(UH x).ev (σW c mn cp t g cnt z)=((4 * c.C+4+4 * b:Nat):Int):=ZA qI h.C.2 hx hb
theorem gT (h:bL c mn cp t g)(hx:x.ev (σW c mn cp t g cnt z)=(b:Int))(hb:b≤1000:=by omega):(ZsQ x).ev (σW c mn cp t g cnt z)=((4 * c.C+4+4 * b+2:Nat):Int):=Zq1 qI h.C.2 hx hb
theorem lq (h:bL c mn cp t g)(hx:x.ev (σW c mn cp t g cnt z)=(a:Int))(hy:y.ev (σW c mn cp t g cnt z)=(b:Int))(ha:a≤1000:=by omega)(hb:b≤1000:=by omega) :
 (ZsG x y).ev (σW c mn cp t g cnt z)=((4 * c.C+4+4 * c.S+a * c.O+b:Nat):Int):=ZqS qI h.C.2 bg h.S.2 cK h.O.2 hx ha hy hb
theorem wI (hx:x.ev (σW c mn cp t g cnt z)=(b:Int))(hb:b≤1000:=by omega):(Vh x).ev (σW c mn cp t g cnt z)=(See.keyOf c.key b:Nat):=ZsD Zs5 hx hb
theorem bV (hx:x.ev σ=(a:Int))(ha:a≤100000000000:=by omega):(add x (l 1)).ev σ=((a+1:Nat):Int):=UW hx ha
theorem MN {p q:Int}(hx:x.ev σ=p)(hy:y.ev σ=q)(h0 : -1000000000000≤p+q:=by omega)(h1:p+q<1000000000000:=by omega):(add x y).ev σ=p+q:=ZpC hx hy h0 h1
theorem tX {p q:Int}(hx:x.ev σ=p)(hy:y.ev σ=q)(h0 : -1000000000000≤p - q:=by omega)(h1:p - q<1000000000000:=by omega):(SE.iH .sub x y).ev σ=p - q:=Qr hx hy h0 h1
theorem jg (hx:x.ev σ=(a:Int))(hy:y.ev σ=(b:Int))(h:b≤a:=by omega)(ha:a≤100000000000:=by omega):(SE.iH .sub x y).ev σ=((a - b:Nat):Int):=Zro hx hy h ha
theorem fe (hx:x.ev σ=(a:Int))(ha:a<18446744073709551616:=by omega):(SE.cv .u64 x).ev σ=(a:Int):=Zr3 hx ha
theorem tH (hx:x.ev σ=(a:Int))(ha:a<9223372036854775808:=by omega):(SE.cv .i64 x).ev σ=(a:Int):=Zr2 hx ha
theorem lE (n:Int):(l n).ev σ=n:=mM
theorem lM (n:Nat):(l (n:Int)).ev σ=(n:Int):=mM
theorem ak {s:Nat}(e:t.aA=(s:Int)):(v 15).ev (σW c mn cp t g cnt z)=(s:Int):=Jm.trans e
theorem bK {s:Nat}(e:t.obj=(s:Int)):(v 16).ev (σW c mn cp t g cnt z)=(s:Int):=jQ.trans e
theorem uI {s:Nat}(e:t.last=(s:Int)):(v 22).ev (σW c mn cp t g cnt z)=(s:Int):=sN.trans e
theorem uJ {s:Nat}(e:t.many=(s:Int)):(v 23).ev (σW c mn cp t g cnt z)=(s:Int):=zz.trans e
theorem fP (e:0≤t.many):(v 23).ev (σW c mn cp t g cnt z)=((t.many.toNat:Nat):Int):=zz.trans (by omega)
theorem nJ (e:0≤t.bS):(v 24).ev (σW c mn cp t g cnt z)=((t.bS.toNat:Nat):Int):=QJ.trans (by omega)
theorem fI (e:0≤t.for_):(v 26).ev (σW c mn cp t g cnt z)=((t.for_.toNat:Nat):Int):=ZpX.trans (by omega)
section
variable {p q r s u o:Int}{L:List Int}
theorem z1:(v 41).ev (σW c mn cp t g cnt (zs (p::L)))=p:=Zs6
theorem z2:(v 42).ev (σW c mn cp t g cnt (zs (q::p::L)))=p:=Zs7
theorem z3:(v 43).ev (σW c mn cp t g cnt (zs (r::q::p::L)))=p:=Zs8
theorem z4:(v 44).ev (σW c mn cp t g cnt (zs (s::r::q::p::L)))=p:=Zs9
theorem z5:(v 45).ev (σW c mn cp t g cnt (zs (u::s::r::q::p::L)))=p:=Zta
theorem z6:(v 46).ev (σW c mn cp t g cnt (zs (o::u::s::r::q::p::L)))=p:=Ztb
theorem rE (q r:Int)(hx:x.ev σ=p)(h:q≤p∧p<r:=by omega):Facts σ (Bh x q r):=p9 hx h
theorem aN (hx:x.ev σ=p)(hy:y.ev σ=q)(h:p<q:=by omega):Facts σ [(.lt x y,true)]:=Cf hx hy h
theorem dN (hx:x.ev σ=p)(hy:y.ev σ=q)(h:q≤p:=by omega):Facts σ [(.lt x y,false)]:=GR hx hy h
theorem bU (hx:x.ev σ=p)(hy:y.ev σ=q)(h:p=q:=by omega):Facts σ [(.eq x y,true)]:=GQ hx hy h
theorem dU (hx:x.ev σ=p)(hy:y.ev σ=q)(h:p≠q:=by omega):Facts σ [(.eq x y,false)]:=E5 hx hy h
theorem bM (h:bL c mn cp t g)(hx:x.ev (σW c mn cp t g cnt z)=(a:Int))(ha:a<g.length):Facts (σW c mn cp t g cnt z) (acc x 1):=Zr4 Zt4 h.len.2 hx ha
theorem fA (h:bL c mn cp t g)(hx:x.ev (σW c mn cp t g cnt z)=(a:Int))(ha:a+1<g.length):Facts (σW c mn cp t g cnt z) (acc x 2):=Zr5 Zt4 h.len.2 hx ha
theorem af {f1 f2:List (dB×Bool)}(h1:Facts σ f1)(h2:Facts σ f2):Facts σ (f1++f2):=h1.app h2
end
def RG (t:Tk):List Value:=[.int .i64 t.job,.int .i64 (t.aB:Int),.int .i64 t.pc,.int .i64 t.fin,.int .i64 t.want,.int .i64 t.aA,.int .i64 t.obj,.int .u64 (t.H:Int),.int .u64 (t.T:Int),.int .u64 (t.F:Int),.int .u64 (t.K:Int),.int .u64 (t.N:Int),.int .i64 t.last,.int .i64 t.many,.int .i64 t.bS,.int .i64 t.back,.int .i64 t.for_]
structure Rs (σ:Nat→Int)(l:List AV)(vs:List Value):Prop where
 shut:AV.shuts l=true
 val:Ex.eU σ l=vs
theorem aT (h:bL c mn cp t g)(n:Int):Rs (σW c mn cp t g cnt z) (Du n) (RG { t with pc:=n }):=by
 refine⟨rfl,?_⟩;have aI:=h.fin;have aC:=h.want;simp only[RG,Du,si,su,Ex.valOf,Ex.eU,Zs4,bZ,Jm,jQ,tu,l8,aZ,eO,oH,sN,zz,QJ,Da,ZpX,aI,aC]
theorem Ei (h:bL c mn cp t g){n:Int}(hpc:t.pc=n):Rs (σW c mn cp t g cnt z) (Du n) (RG t):=by
 have:=aT (cnt:=cnt) (z:=z) h n;rw[← hpc]at this ⊢;exact this
theorem Rs.set {l:List AV}{vs:List Value}{d:AV}{e:Value}(h:Rs σ l vs)(i:Nat)(s:Says σ d e):Rs σ (l.set i d) (vs.set i e):=by
 obtain⟨h1,rfl⟩:=h
 induction l generalizing i with
 |nil=>exact⟨rfl,by cases i<;>rfl⟩
 |cons k l ih =>
  have hk:k.shut=true:=by
   cases hk:k.shut with
   |true=>rfl
   |false=>simp only[AV.shuts,hk]at h1;cases h1
  have h2:AV.shuts l=true:=by simpa only[AV.shuts,hk] using h1
  cases i with
  |zero=>exact⟨by simp only[Zqa,AV.shuts,s.shut,h2],by simp only[Zqa,Ex.eU,s.val]⟩
  |succ i =>
   have:=ih i h2;exact⟨by simp only[Zxo,AV.shuts,hk,this.shut],by simp only[Zxo,Ex.eU,this.val]⟩
theorem Rs.u {l:List AV}{vs:List Value}{n:Int}(h:Rs σ l vs)(i:Nat)(s:x.ev σ=n):Rs σ (l.set i (.sym .u64 x)) (vs.set i (.int .u64 n)):=h.set i (Says.su s)
theorem Rs.i {l:List AV}{vs:List Value}{n:Int}(h:Rs σ l vs)(i:Nat)(s:x.ev σ=n):Rs σ (l.set i (.sym .i64 x)) (vs.set i (.int .i64 n)):=h.set i (Says.si s)
theorem Rs.n {l:List AV}{vs:List Value}(h:Rs σ l vs)(i:Nat)(n:Int):Rs σ (l.set i (.int .i64 n)) (vs.set i (.int .i64 n)):=h.set i Says.li
theorem jB {L:SE}{g1:List Nat}{z:Nat}(hL:kD σ L (one (kS g1)))(hx:x.ev σ=(a:Int))(hy:y.ev σ=(z:Int))(ha:a<g1.length):kD σ (.jY L x 0 y) (one (kS (g1.set a z))):=TU hL hx hy ha
theorem oW {L x y1 y2:SE}{g1:List Nat}{a z1 z2:Nat}(hL:kD σ L (one (kS g1)))(hx:x.ev σ=(a:Int))(h1:y1.ev σ=(z1:Int))(h2:y2.ev σ=(z2:Int))(ha:a+1<g1.length)(hb:g1.length≤4096) :
 kD σ (.jY (.jY L x 0 y1) (add x (l 1)) 0 y2) (one (kS ((g1.set a z1).set (a+1) z2))):=Zrl hL hx h1 h2 ha (by omega)
theorem toW {f:FuncId}{p:Int}{fs:List (dB×Bool)}{pU:List Kc}{L:SE}{r:List AV}(l:List Int)(h:bL c mn cp t g)(hpc:t.pc=p)
 (tJ:∀ cnt,Facts (σW c mn cp t g cnt (zs l)) fs)
 (hk:∀ cnt fs (ok:∀ f∈fs,f.1.ev (σW c mn cp t g cnt (zs l))=f.2),∀ k∈pU,@rA (nums aJ.gs [] j6 (σW c mn cp t g cnt (zs l)) ΩW fs ok) Tryz.prog k)
 (hL:∀ cnt,kD (σW c mn cp t g cnt (zs l)) L (one (kS g')))
 (hr:∀ cnt,Rs (σW c mn cp t g cnt (zs l)) r (RG t'))
 (run:(Wy.mk f p pU fs r L).run=true:=by kernel_rfl) (Ag:g'.length=g.length:=by simp only[List.length_set]):cZ f c mn cp t g t' g' :=
 Wy.to (x:=Wy.mk f p pU fs r L) run h hpc tJ hk (hr 0).shut hL Ag fun cnt=>by rw[(hr cnt).val];rfl
end
end Cw
end Go.Proofs.YtfcpdlbkmkhhcaaGreatDoor
