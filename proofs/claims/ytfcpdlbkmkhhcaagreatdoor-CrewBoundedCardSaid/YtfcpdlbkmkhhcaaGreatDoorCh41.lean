/-
  Texts of this claim, joined. No condition.
-/
import Derived.Test.YtfcpdlbkmkhhcaaGreatDoorCh1
import Derived.Test.YtfcpdlbkmkhhcaaGreatDoorCh40
import Derived.Test.YtfcpdlbkmkhhcaaGreatDoorCh14
import Derived.BigQuiet
namespace Go.Proofs.YtfcpdlbkmkhhcaaGreatDoor
set_option maxRecDepth 100000
set_option maxHeartbeats 40000000
namespace Cw
open Go Mem See
open Go.RowKit
section
variable {W w w':World}{m l:List (Nat×Obj)}{br bc b0 b1 bt:Nat}{c:Ch}{mn cp cnt n:Nat}{g:List Nat}{tk:Nat→Option Tk}{x y:Nat×Obj}
def pI (l:List Nat):List Int:=l.map fun (n:Nat)=>(n:Int)
theorem wV {l:List Nat}:(pI l).length=l.length:=by simp[pI]
theorem ZpQ {l:List Nat}{i x:Nat}(h:l[i]?=some x):(pI l)[i]?=some (x:Int):=by simp[pI,h]
theorem Y3 (h:jF W bc b0 b1 bt c mn cp g tk cnt n (x::l) w):∃ M,Own W (x::M) w:=by
 obtain⟨es,ck,hv,h⟩:=h;exact⟨_,h.skip.skip.skip.skip⟩
theorem Zm4 (h:jF W bc b0 b1 bt c mn cp g tk cnt n l w)(k:Nat):jF W bc b0 b1 bt c mn cp g tk cnt n l (w.drewN k):=by
 obtain⟨es,ck,hv,h⟩:=h;exact⟨es,ck,hv,h.drewN k⟩
theorem Zy (h:jF W bc b0 b1 bt c mn cp g tk cnt n l w):jF W bc b0 b1 bt c mn cp g tk cnt n l w.drew:=by
 obtain⟨es,ck,hv,h⟩:=h;exact⟨es,ck,hv,h.drew⟩
theorem Tn {l':List (Nat×Obj)}(h:jF W bc b0 b1 bt c mn cp g tk cnt n l w)(hp:l.Perm l'):jF W bc b0 b1 bt c mn cp g tk cnt n l' w:=by
 obtain⟨es,ck,hv,h⟩:=h;exact⟨es,ck,hv,h.perm ((((hp.cons _).cons _).cons _).cons _)⟩
theorem Zqc {l':List (Nat×Obj)}(h:jF W bc b0 b1 bt c mn cp g tk cnt n l w)(hp:l'.Sublist l):jF W bc b0 b1 bt c mn cp g tk cnt n l' w:=by
 obtain⟨es,ck,hv,h⟩:=h;exact⟨es,ck,hv,h.sub ((((hp.cons_cons _).cons_cons _).cons_cons _).cons_cons _)⟩
theorem q9 (h:jF W bc b0 b1 bt c mn cp g tk cnt n (x::l) w)(f:∀ M,Own W (x::M) w→Own W (y::M) w'):jF W bc b0 b1 bt c mn cp g tk cnt n (y::l) w':=by
 obtain⟨es,ck,hv,h⟩:=h;have h1:=f (aY bc b0 bt c mn cp::(bt,.map es ck)::mB b0 b1 g.length cnt::wB b1 g::l) (h.perm (fO fun _ q=>by simp only[Zxv];omega));exact⟨es,ck,hv,h1.perm (fO fun _ q=>by simp only[Zxv];omega)⟩
theorem Zqb (h:jF W bc b0 b1 bt c mn cp g tk cnt n l w)(o:Obj):jF W bc b0 b1 bt c mn cp g tk cnt n ((w.heap.size,o)::l) (w.alloc o):=by
 obtain⟨es,ck,hv,h⟩:=h;exact⟨es,ck,hv,(h.new o).perm (fO fun _ q=>by simp only[Zxv];omega)⟩
theorem C8 (h:jF W bc b0 b1 bt c mn cp g tk cnt n l w):∃ M,Own W (l++M) w:=by
 obtain⟨es,ck,hv,h⟩:=h;exact⟨_,h.perm (m':=l++[aY bc b0 bt c mn cp,(bt,.map es ck),mB b0 b1 g.length cnt,wB b1 g]) (fO fun _ q=>by simp only[Zxv,ZxO,List.count_nil];omega)⟩
structure bE (W:World)(br bc b0 b1 bt:Nat)(c:Ch)(mn cp:Nat)(jv:Value)(r:Cv.Rn)(good:Bool)(cnt n:Nat)(pv:Value)(pb m:List (Nat×Obj))(w:World):Prop where
 p:lS true pv (pI r.pile) pb
 o:jF W bc b0 b1 bt c mn cp r.g r.tk cnt n (gJ br bc c mn cp jv r.next r.out pv r.none good::(pb++m)) w
variable {r:Cv.Rn}{good:Bool}{jv pv:Value}{pb:List (Nat×Obj)}
theorem bE.box (h:bE W br bc b0 b1 bt c mn cp jv r good cnt n pv pb m w) :
 (w.cell? ⟨br,0,Option.none⟩=some (.pointer (some ⟨bc,0,Option.none⟩))∧w.cell? ⟨br,1,Option.none⟩=some (.int .i64 (c.C:Int))∧w.cell? ⟨br,2,Option.none⟩=some (.int .i64 (c.S:Int))∧w.cell? ⟨br,3,Option.none⟩=some (.int .i64 (c.O:Int))∧w.cell? ⟨br,4,Option.none⟩=some (.int .i64 (mn:Int))∧w.cell? ⟨br,5,Option.none⟩=some (.int .i64 (cp:Int))∧w.cell? ⟨br,6,Option.none⟩=some (.int .u64 (c.key:Int))∧w.cell? ⟨br,7,Option.none⟩=some jv∧w.cell? ⟨br,8,Option.none⟩=some (.int .i64 (r.next:Int)) ∧
   w.cell? ⟨br,521,Option.none⟩=some pv∧w.cell? ⟨br,522,Option.none⟩=some (.int .i64 (r.none:Int))∧w.cell? ⟨br,523,Option.none⟩=some (.bool good))∧(∀ x,x<512→w.cell? ⟨br,9+x,Option.none⟩=some (.bool (r.out x)))∧∀ i,w.frozen? ⟨br,i,Option.none⟩=false:=by
 obtain⟨M,h1⟩:=Y3 h.o;exact BN h1
theorem bE.pile (h:bE W br bc b0 b1 bt c mn cp jv r good cnt n pv pb m w):∃ A k,pv = .slice A r.pile.length k∧(0<r.pile.length→∃ gp,A=some ⟨gp,0,Option.none⟩∧(∀ (j x:Nat),r.pile[j]?=some x→w.cell? ⟨gp,j,Option.none⟩=some (.int .i64 (x:Int)))∧∀ j,w.frozen? ⟨gp,j,Option.none⟩=false):=by
 obtain⟨A,k,hv,-,-⟩:=gI.slice h.p;rw[wV]at hv;refine⟨A,k,hv,fun hp => ?_⟩;obtain⟨gp,cap,cur,xN,-⟩:=h.p.form (by rw[wV];exact hp);rw[hv]at xN;simp only[Value.slice.injEq]at xN;obtain⟨M,hM⟩:=C8 (Tn h.o (l':=pb++(m++[gJ br bc c mn cp jv r.next r.out pv r.none good])) (fO fun _ q=>by simp only[Zxv,ZxO,List.count_nil];omega));rw[ZxG]at hM;refine⟨gp,xN.1,fun j x hj=>h.p.cell hM (by rw[hv,xN.1,wV]) (wX (ZpQ hj)),fun j=>h.p.free hM (by rw[hv,xN.1,wV]) j⟩
theorem bE.drewN (h:bE W br bc b0 b1 bt c mn cp jv r good cnt n pv pb m w)(k:Nat):bE W br bc b0 b1 bt c mn cp jv r good cnt n pv pb m (w.drewN k):=⟨h.p,Zm4 h.o k⟩
theorem bE.drew (h:bE W br bc b0 b1 bt c mn cp jv r good cnt n pv pb m w):bE W br bc b0 b1 bt c mn cp jv r good cnt n pv pb m w.drew:=⟨h.p,Zy h.o⟩
theorem bE.ZpR {gp PL PK:Nat}(h:bE W br bc b0 b1 bt c mn cp jv r good cnt n (.slice (some ⟨gp,0,Option.none⟩) PL PK) pb m w):(∀ (j x:Nat),r.pile[j]?=some x→w.cell? ⟨gp,j,Option.none⟩=some (.int .i64 (x:Int)))∧∀ j,w.frozen? ⟨gp,j,Option.none⟩=false:=by
 obtain⟨A,k,hv,hp⟩:=h.pile;simp only[Value.slice.injEq]at hv;obtain⟨rfl,rfl,rfl⟩:=hv;obtain⟨M,hM⟩:=C8 (Tn h.o (l':=pb++(m++[gJ br bc c mn cp jv r.next r.out (.slice (some ⟨gp,0,Option.none⟩) r.pile.length PK) r.none good])) (fO fun _ q=>by simp only[Zxv,ZxO,List.count_nil];omega));rw[ZxG]at hM;exact⟨fun j x hj=>h.p.cell hM (by rw[wV]) (wX (ZpQ hj)),fun j=>h.p.free hM (by rw[wV]) j⟩
theorem bE.Zrf {gp PL PK:Nat}(h:bE W br bc b0 b1 bt c mn cp jv r good cnt n (.slice (some ⟨gp,0,Option.none⟩) PL PK) pb m w){j:Nat}(hj:j<r.pile.length)(x:Nat) :
 ∃ pb',bE W br bc b0 b1 bt c mn cp jv { r with pile:=r.pile.set j x } good cnt n (.slice (some ⟨gp,0,Option.none⟩) PL PK) pb' m (w.setCell ⟨gp,j,Option.none⟩ (.int .i64 (x:Int))):=by
 obtain⟨es,ck,hv,hO⟩:=h.o;have hl:PL=(pI r.pile).length:=by
  obtain⟨A,k,hv,-⟩:=gI.slice h.p;simp only[Value.slice.injEq]at hv;exact hv.2.1
 subst hl;have h1:Own W (pb++(aY bc b0 bt c mn cp::(bt,.map es ck)::mB b0 b1 r.g.length cnt::wB b1 r.g::gJ br bc c mn cp jv r.next r.out (.slice (some ⟨gp,0,Option.none⟩) (pI r.pile).length PK) r.none good::m)) w:=hO.perm (fO fun _ q=>by simp only[Zxv,ZxO];omega);obtain⟨bs',k1,k2⟩:=h.p.store h1 rfl (j:=j) (by rw[wV];omega) (.int .i64 (x:Int));refine⟨bs',?_,es,ck,hv,k2.perm (fO fun _ q=>by simp only[Zxv,ZxO];omega)⟩;have e:(ints (pI r.pile)).set j (.int .i64 (x:Int))=ints (pI (r.pile.set j x)):=by
  rw[ints_set]
  congr 1
  simp[pI,List.map_set]
 rw[e]at k1;have e2:(pI r.pile).length=(pI (r.pile.set j x)).length:=by rw[wV,wV,List.length_set]
 show lS true _ (pI (r.pile.set j x)) bs';unfold lS;rw[← e2];exact k1
theorem bE.Zre {gp PL PK:Nat}(h:bE W br bc b0 b1 bt c mn cp jv r good cnt n (.slice (some ⟨gp,0,Option.none⟩) PL PK) pb m w){k:Nat}(hk:k≤r.pile.length) :
 bE W br bc b0 b1 bt c mn cp jv { r with pile:=r.pile.take k } good cnt n (.slice (some ⟨gp,0,Option.none⟩) k PK) pb m (w.setCell ⟨br,521,Option.none⟩ (.slice (some ⟨gp,0,Option.none⟩) k PK)):=by
 have hl:PL=(pI r.pile).length:=by
  obtain⟨A,k,hv,-⟩:=gI.slice h.p;simp only[Value.slice.injEq]at hv;exact hv.2.1
 subst hl;have h1:=h.p.shorter rfl (k:=k) (by rw[wV];exact hk);rw[Nat.mul_one]at h1;refine⟨?_,q9 h.o fun M hM=>XB hM _⟩;have e:(ints (pI r.pile)).take k=ints (pI (r.pile.take k)):=by
  rw[Znr]
  congr 1
  simp[pI]
 have e2:k=(pI (r.pile.take k)).length:=by rw[wV,List.length_take];omega
 rw[e]at h1;show lS true _ (pI (r.pile.take k)) pb;unfold lS;rw[← e2];exact h1
theorem bE.Zrd {gp PL PK:Nat}(h:bE W br bc b0 b1 bt c mn cp jv r good cnt n (.slice (some ⟨gp,0,Option.none⟩) PL PK) pb m w):r.pile.length≤PK:=by
 obtain⟨A,k,hv,h1,-⟩:=gI.slice h.p;simp only[Value.slice.injEq]at hv;rw[wV]at h1;omega
theorem bE.alloc (h:bE W br bc b0 b1 bt c mn cp jv r good cnt n pv pb m w)(o:Obj):bE W br bc b0 b1 bt c mn cp jv r good cnt n pv pb ((w.heap.size,o)::m) (w.alloc o) :=
 ⟨h.p,Tn (Zqb h.o o) (fO fun _ q=>by simp only[Zxv,ZxO];omega)⟩
theorem bE.own (h:bE W br bc b0 b1 bt c mn cp jv r good cnt n pv pb m w):∃ M,Own W (m++M) w:=by
 obtain⟨M,hM⟩:=C8 h.o;exact⟨pb++(gJ br bc c mn cp jv r.next r.out pv r.none good::M),hM.perm (fO fun _ q=>by simp only[List.cons_append,Zxv,ZxO];omega)⟩
theorem bE.sub {m':List (Nat×Obj)}(h:bE W br bc b0 b1 bt c mn cp jv r good cnt n pv pb m w)(hs:m'.Sublist m):bE W br bc b0 b1 bt c mn cp jv r good cnt n pv pb m' w:=⟨h.p,Zqc h.o (((List.Sublist.refl _).append hs).cons_cons _)⟩
end
end Cw
namespace Cw
open Go Mem See
open Go.RowKit
attribute [local go_sem ↓] Go.wp_at_zero Go.wp_at_succ
section
variable {W w w':World}{m l:List (Nat×Obj)}{br bc b0 b1 bt:Nat}{c:Ch}{mn cp cnt n k:Nat}{r:Cv.Rn}{good:Bool}{jv pv:Value}{pb:List (Nat×Obj)}{aj:List Int}
theorem Dj {i:Int}{n:Nat}(h:1≤n):i % (n:Int)=((Cv.eZ i n:Nat):Int):=by
 unfold Cv.eZ;have:=Int.emod_nonneg i (show(n:Int)≠0 by omega);omega
theorem Uo {j:Int}(h:(Lit.int .i64 j).wf=true):(Lit.int .i64 (j.tdiv 16)).wf=true:=by
 have h1:=Ta h;have h2 : -9223372036854775808≤j.tdiv 16∧j.tdiv 16≤9223372036854775807:=by
  by_cases h0:0≤j
  ·rw[Int.tdiv_eq_ediv_of_nonneg h0]
   omega
  ·have h3:=Int.neg_tdiv (a := -j) (b:=16)
   rw[Int.neg_neg,Int.tdiv_eq_ediv_of_nonneg (a := -j) (by omega)]at h3;omega
 simp[Lit.wf,IntKind.min,IntKind.max,IntKind.signed,IntKind.bits];omega
theorem Zi {j:Int}(h:(Lit.int .i64 j).wf=true):IntKind.i64.wrap (j.tdiv 16)=j.tdiv 16:=by
 have h1:=Ta (Uo h);exact Ex.wS (by omega) (by omega)
theorem BG {w:World}{v:Value}{l:List Int}(h:jP w v l):∃ A k,v = .slice A l.length k:=by
 rcases h.2 with⟨rfl,hn⟩|⟨a,c,rfl,-⟩
 ·exact⟨Option.none,0,by rw[hn]⟩
 ·exact⟨_,_,rfl⟩
theorem ZmU (h:bE W br bc b0 b1 bt c mn cp jv r good cnt n pv pb m w)(hj:jP W jv aj)(hn:r.next≤120)(fJ:¬(r.next<aj.length∧r.next<120)) :
 Calls Tryz.prog 23 #[.pointer (some ⟨br,0,Option.none⟩),.int .i64 (k:Int)] w fun e w'=>e = .returned (.bool false)∧bE W br bc b0 b1 bt c mn cp jv r good cnt n pv pb m w':=by
 obtain⟨⟨y0,y1,y2,y3,y4,y5,y6,y7,y8,y9,dL,bQ⟩,-,-⟩:=h.box;obtain⟨A,K,rfl⟩:=BG hj;have H:=ZkQ h;clear h hj;by_cases aK:r.next<aj.length
 ·have d1:decide (aj.length≤r.next)=false:=Zx7 (by omega)
  have d2:decide ((120:Int)≤(r.next:Int))=true:=Zx8 (by omega);clear aK fJ hn
  go_enter Tryz.func23,Tryz.ntmps23
  go_wp2_with fail
  go_quiet (fail)
  have H2:=H.out.drewN nq;generalize w.drewN nq=w2 at H2 ⊢;go_wp2_with fail
  go_ret;exact⟨rfl,H2⟩
 ·have d1:decide (aj.length≤r.next)=true:=Zx8 (by omega)
  clear aK fJ hn
  go_enter Tryz.func23,Tryz.ntmps23
  go_wp2_with fail
  go_quiet (fail)
  have H2:=H.out.drewN nq;generalize w.drewN nq=w2 at H2 ⊢;go_wp2_with fail
  go_ret;exact⟨rfl,H2⟩
end
end Cw
namespace Cw
open Go Mem See
open Go.RowKit
attribute [local go_sem ↓] Go.wp_at_zero Go.wp_at_succ
section
variable {W w w':World}{m l:List (Nat×Obj)}{br bc b0 b1 bt:Nat}{c:Ch}{mn cp cnt n k:Nat}{r:Cv.Rn}{jv pv:Value}{pb:List (Nat×Obj)}{aj:List Int}{j J:Int}
theorem Zkx (h:bE W br bc b0 b1 bt c mn cp jv r true cnt n pv pb m w)(hj:jP W jv aj)(hn:r.next<120)(jA:aj[r.next]?=some j)(lG:(Lit.int .i64 j).wf=true)(hJ:j % 16=J)(hX:J=15)(hC:c.C≤5)(hk:k<c.C)(dI:r.tk k=Option.none) :
 Calls Tryz.prog 23 #[.pointer (some ⟨br,0,Option.none⟩),.int .i64 (k:Int)] w fun e w'=>e = .returned (.bool true)∧bE W br bc b0 b1 bt c mn cp jv { r with next:=r.next+1,tk:=Cv.upd r.tk k (some (Cv.JB k)) } true cnt (n+1) pv pb m w':=by
 have HX:=ZkQ hX;have OS:=ZkQ hj;obtain⟨M0,hM0⟩:=C8 h.o;have aX:jP w jv aj:=Src.GG hj hM0;rcases aX.2 with⟨rfl,mW⟩|⟨a,K,rfl,hcell⟩
 ·rw[List.eq_nil_of_length_eq_zero mW]at jA
  cases jA
 have cy:=hcell r.next _ (wX jA);have aK:r.next<aj.length:=(List.getElem?_eq_some_iff.1 jA).1;have i1:(0:Int)≤(r.next:Int):=by omega
 have i2:(r.next:Int)<(aj.length:Int):=by omega
 have d1:decide (aj.length≤r.next)=false:=Zx7 (by omega);have d2:decide ((120:Int)≤(r.next:Int))=false:=Zx7 (by omega);have mH:=ZkQ lG;have sJ:=ZkQ hJ;have H:=ZkQ h;have qV:=ZkQ hC;have HKK:=ZkQ hk;have pX:=ZkQ dI;have HN:=ZkQ hn;clear h hj hn jA lG hJ hC hk dI aX hcell aK hM0 hX
 go_enter Tryz.func23,Tryz.ntmps23
 obtain⟨⟨y0,y1,y2,y3,y4,y5,y6,y7,y8,y9,dL,bQ⟩,-,-⟩:=H.out.box;go_wp2_with fail
 go_quiet (fail)
 clear y0 y1 y2 y3 y4 y5 y6 y7 y8 y9 dL bQ;have H1:=ZkQ (H.out.drewN nq);have cy:(w.drewN nq).cell? (a.add r.next)=some (.int .i64 j):=cy;clear H;generalize w.drewN nq=w1 at H1 cy ⊢;obtain⟨⟨y0,y1,y2,y3,y4,y5,y6,y7,y8,y9,dL,bQ⟩,-,-⟩:=H1.out.box;go_wp2_with fail
 go_quiet (fail)
 clear y0 y1 y2 y3 y4 y5 y6 y7 y8 y9 dL bQ cy d1 d2 i1 i2;have H2:=ZkQ (H1.out.drewN nq);clear H1;generalize w1.drewN nq=w2 at H2 ⊢;obtain⟨⟨y0,y1,y2,y3,y4,y5,y6,y7,y8,y9,dL,bQ⟩,-,f⟩:=H2.out.box;have f8:=f 8;clear f;go_wp2_with fail
 clear y0 y1 y2 y3 y4 y5 y6 y7 y8 y9 dL bQ f8;rw[show wrap64 ((r.next:Int)+1)=((r.next+1:Nat):Int) from ZxD _ (by have:=HN.out;omega)];have H3:Hid (bE W br bc b0 b1 bt c mn cp (.slice (some a) aj.length K) { r with next:=r.next+1 } true cnt n pv pb m (w2.setCell ⟨br,8,Option.none⟩ (.int .i64 ((r.next+1:Nat):Int)))):=⟨H2.out.p,q9 H2.out.o fun M hM=>KX hM (r.next+1)⟩;clear H2;generalize w2.setCell ⟨br,8,Option.none⟩ (.int .i64 ((r.next+1:Nat):Int))=w3 at H3 ⊢;obtain⟨⟨y0,y1,y2,y3,y4,y5,y6,y7,y8,y9,dL,bQ⟩,-,-⟩:=H3.out.box;have Kq:(J==15)=true:=by rw[HX.out];rfl
 refine(oC j 16 (by omega) (by omega) mH.out _).mono ?_;rintro e w4 ⟨rfl,rfl⟩;rw[sJ.out];go_wp2_with fail
 refine(ZoB qV.out H3.out.o HKK.out pX.out).mono ?_;rintro e w5 ⟨rfl,h5⟩;clear y0 y1 y2 y3 y4 y5 y6 y7 y8 y9 dL bQ;have H5:Hid (bE W br bc b0 b1 bt c mn cp (.slice (some a) aj.length K) { r with next:=r.next+1,tk:=Cv.upd r.tk k (some (Cv.JB k)) } true cnt (n+1) pv pb m w5):=⟨H3.out.p,h5⟩;obtain⟨⟨y0,y1,y2,y3,y4,y5,y6,y7,y8,y9,dL,bQ⟩,-,f⟩:=H5.out.box;have uK:=f 523;clear f h5 H3;go_wp2_with fail
 go_ret;exact⟨rfl,H5.out.p,q9 H5.out.o fun M hM=>EB hM true⟩
end
end Cw
namespace Cw
open Go Mem See
open Go.RowKit
attribute [local go_sem ↓] Go.wp_at_zero Go.wp_at_succ
section
variable {W w w':World}{m l:List (Nat×Obj)}{br bc b0 b1 bt:Nat}{c:Ch}{mn cp cnt n k:Nat}{r:Cv.Rn}{jv pv:Value}{pb:List (Nat×Obj)}{aj:List Int}{j J:Int}
theorem Zi0 (h:bE W br bc b0 b1 bt c mn cp jv r true cnt n pv pb m w)(hj:jP W jv aj)(hn:r.next<120)(jA:aj[r.next]?=some j)(lG:(Lit.int .i64 j).wf=true)(hJ:j % 16=J)(hX:J=14)(Ra:1≤c.C)(hC:c.C≤5)(hk:k<c.C)(dI:r.tk k=Option.none) :
 Calls Tryz.prog 23 #[.pointer (some ⟨br,0,Option.none⟩),.int .i64 (k:Int)] w fun e w'=>e = .returned (.bool true)∧bE W br bc b0 b1 bt c mn cp jv { r with next:=r.next+1,tk:=Cv.upd r.tk k (some (Cv.Jt k (Cv.eZ (j.tdiv 16) c.C))) } true cnt (n+1) pv pb m w':=by
 have HX:=ZkQ hX;have OS:=ZkQ hj;obtain⟨M0,hM0⟩:=C8 h.o;have aX:jP w jv aj:=Src.GG hj hM0;rcases aX.2 with⟨rfl,mW⟩|⟨a,K,rfl,hcell⟩
 ·rw[List.eq_nil_of_length_eq_zero mW]at jA
  cases jA
 have cy:=hcell r.next _ (wX jA);have aK:r.next<aj.length:=(List.getElem?_eq_some_iff.1 jA).1;have i1:(0:Int)≤(r.next:Int):=by omega
 have i2:(r.next:Int)<(aj.length:Int):=by omega
 have d1:decide (aj.length≤r.next)=false:=Zx7 (by omega);have d2:decide ((120:Int)≤(r.next:Int))=false:=Zx7 (by omega);have mH:=ZkQ lG;have sJ:=ZkQ hJ;have H:=ZkQ h;have qV:=ZkQ hC;have HKK:=ZkQ hk;have pX:=ZkQ dI;have HN:=ZkQ hn;clear h hj hn jA lG hJ hC hk dI aX hcell aK hM0 hX
 go_enter Tryz.func23,Tryz.ntmps23
 obtain⟨⟨y0,y1,y2,y3,y4,y5,y6,y7,y8,y9,dL,bQ⟩,-,-⟩:=H.out.box;go_wp2_with fail
 go_quiet (fail)
 clear y0 y1 y2 y3 y4 y5 y6 y7 y8 y9 dL bQ;have H1:=ZkQ (H.out.drewN nq);have cy:(w.drewN nq).cell? (a.add r.next)=some (.int .i64 j):=cy;clear H;generalize w.drewN nq=w1 at H1 cy ⊢;obtain⟨⟨y0,y1,y2,y3,y4,y5,y6,y7,y8,y9,dL,bQ⟩,-,-⟩:=H1.out.box;go_wp2_with fail
 go_quiet (fail)
 clear y0 y1 y2 y3 y4 y5 y6 y7 y8 y9 dL bQ cy d1 d2 i1 i2;have H2:=ZkQ (H1.out.drewN nq);clear H1;generalize w1.drewN nq=w2 at H2 ⊢;obtain⟨⟨y0,y1,y2,y3,y4,y5,y6,y7,y8,y9,dL,bQ⟩,-,f⟩:=H2.out.box;have f8:=f 8;clear f;go_wp2_with fail
 clear y0 y1 y2 y3 y4 y5 y6 y7 y8 y9 dL bQ f8;rw[show wrap64 ((r.next:Int)+1)=((r.next+1:Nat):Int) from ZxD _ (by have:=HN.out;omega)];have H3:Hid (bE W br bc b0 b1 bt c mn cp (.slice (some a) aj.length K) { r with next:=r.next+1 } true cnt n pv pb m (w2.setCell ⟨br,8,Option.none⟩ (.int .i64 ((r.next+1:Nat):Int)))):=⟨H2.out.p,q9 H2.out.o fun M hM=>KX hM (r.next+1)⟩;clear H2;generalize w2.setCell ⟨br,8,Option.none⟩ (.int .i64 ((r.next+1:Nat):Int))=w3 at H3 ⊢;obtain⟨⟨y0,y1,y2,y3,y4,y5,y6,y7,y8,y9,dL,bQ⟩,-,-⟩:=H3.out.box;have Kq:(J==15)=false:=by rw[HX.out];rfl
 have OJ:(J==14)=true:=by rw[HX.out];rfl
 refine(oC j 16 (by omega) (by omega) mH.out _).mono ?_;rintro e w4 ⟨rfl,rfl⟩;rw[sJ.out];go_wp2_with fail
 refine(oC j 16 (by omega) (by omega) mH.out _).mono ?_;rintro e w4 ⟨rfl,rfl⟩;rw[sJ.out];go_wp2_with fail
 have HP:=ZkQ Ra;have HF:Hid (Cv.eZ (j.tdiv 16) c.C<c.C):=Cv.ul Ra;have OP:Hid ((j.tdiv 16) % (c.C:Int)=((Cv.eZ (j.tdiv 16) c.C:Nat):Int)):=Dj Ra;have Bo:Hid ((Lit.int .i64 (j.tdiv 16)).wf=true):=Uo mH.out;have RH:=ZkQ H3.out.drew;have hwr:=Zi mH.out;clear y2 y3 y4 y5 y6 y7 y8 y9 dL bQ Kq OJ Ra
 go_region_held3 (fun w'=>w'.cell? ⟨br,0,Option.none⟩=some (.pointer (some ⟨bc,0,Option.none⟩))∧w'.cell? ⟨br,1,Option.none⟩=some (.int .i64 (c.C:Int))) (first|(refine⟨?_,?_⟩<;>assumption)|go_keep)
  (first
    |((with_reducible refine(oC (j.tdiv 16) (c.C:Int) (by have:=HP.out;omega) (by have:=qV.out;omega) Bo.out _).mono ?_);rintro e w4 ⟨rfl,rfl⟩;rw[OP.out])
    |((with_reducible refine(Zm5 qV.out RH.out.o HKK.out HF.out pX.out).mono ?_);rintro e w5 ⟨rfl,h5⟩;obtain⟨M5,vZ⟩:=Y3 h5;obtain⟨⟨z0,z1,-⟩,-,-⟩:=BN vZ))
 clear y0 y1 z0 z1 vZ;have H5:Hid (bE W br bc b0 b1 bt c mn cp (.slice (some a) aj.length K) { r with next:=r.next+1,tk:=Cv.upd r.tk k (some (Cv.Jt k (Cv.eZ (j.tdiv 16) c.C))) } true cnt (n+1) pv pb m w5):=⟨H3.out.p,h5⟩;obtain⟨⟨y0,y1,y2,y3,y4,y5,y6,y7,y8,y9,dL,bQ⟩,-,f⟩:=H5.out.box;have uK:=f 523;clear f h5 H3;go_wp2_with fail
 go_ret;exact⟨rfl,H5.out.p,q9 H5.out.o fun M hM=>EB hM true⟩
end
end Cw
namespace Cw
open Go Mem See
open Go.RowKit
attribute [local go_sem ↓] Go.wp_at_zero Go.wp_at_succ
section
variable {W w w':World}{m l:List (Nat×Obj)}{br bc b0 b1 bt:Nat}{c:Ch}{mn cp cnt n k:Nat}{r:Cv.Rn}{jv pv:Value}{pb:List (Nat×Obj)}{aj:List Int}{j J:Int}
theorem ZiZ (h:bE W br bc b0 b1 bt c mn cp jv r true cnt n pv pb m w)(hj:jP W jv aj)(hn:r.next<120)(jA:aj[r.next]?=some j)(lG:(Lit.int .i64 j).wf=true)(hJ:j % 16=J)(rJ:J≠15)(rH:J≠14)(Fj:J<8)(hC:c.C≤5)(hk:k<c.C)(dI:r.tk k=Option.none) :
 Calls Tryz.prog 23 #[.pointer (some ⟨br,0,Option.none⟩),.int .i64 (k:Int)] w fun e w'=>e = .returned (.bool true)∧bE W br bc b0 b1 bt c mn cp jv { r with next:=r.next+1,tk:=Cv.upd r.tk k (some (Cv.Dn k)) } true cnt (n+1) pv pb m w':=by
 have zh:=ZkQ rH;have zi:=ZkQ rJ;have F6:=ZkQ Fj;have OS:=ZkQ hj;obtain⟨M0,hM0⟩:=C8 h.o;have aX:jP w jv aj:=Src.GG hj hM0;rcases aX.2 with⟨rfl,mW⟩|⟨a,K,rfl,hcell⟩
 ·rw[List.eq_nil_of_length_eq_zero mW]at jA
  cases jA
 have cy:=hcell r.next _ (wX jA);have aK:r.next<aj.length:=(List.getElem?_eq_some_iff.1 jA).1;have i1:(0:Int)≤(r.next:Int):=by omega
 have i2:(r.next:Int)<(aj.length:Int):=by omega
 have d1:decide (aj.length≤r.next)=false:=Zx7 (by omega);have d2:decide ((120:Int)≤(r.next:Int))=false:=Zx7 (by omega);have mH:=ZkQ lG;have sJ:=ZkQ hJ;have H:=ZkQ h;have qV:=ZkQ hC;have HKK:=ZkQ hk;have pX:=ZkQ dI;have HN:=ZkQ hn;clear h hj hn jA lG hJ hC hk dI aX hcell aK hM0 rH rJ Fj
 go_enter Tryz.func23,Tryz.ntmps23
 obtain⟨⟨y0,y1,y2,y3,y4,y5,y6,y7,y8,y9,dL,bQ⟩,-,-⟩:=H.out.box;go_wp2_with fail
 go_quiet (fail)
 clear y0 y1 y2 y3 y4 y5 y6 y7 y8 y9 dL bQ;have H1:=ZkQ (H.out.drewN nq);have cy:(w.drewN nq).cell? (a.add r.next)=some (.int .i64 j):=cy;clear H;generalize w.drewN nq=w1 at H1 cy ⊢;obtain⟨⟨y0,y1,y2,y3,y4,y5,y6,y7,y8,y9,dL,bQ⟩,-,-⟩:=H1.out.box;go_wp2_with fail
 go_quiet (fail)
 clear y0 y1 y2 y3 y4 y5 y6 y7 y8 y9 dL bQ cy d1 d2 i1 i2;have H2:=ZkQ (H1.out.drewN nq);clear H1;generalize w1.drewN nq=w2 at H2 ⊢;obtain⟨⟨y0,y1,y2,y3,y4,y5,y6,y7,y8,y9,dL,bQ⟩,-,f⟩:=H2.out.box;have f8:=f 8;clear f;go_wp2_with fail
 clear y0 y1 y2 y3 y4 y5 y6 y7 y8 y9 dL bQ f8;rw[show wrap64 ((r.next:Int)+1)=((r.next+1:Nat):Int) from ZxD _ (by have:=HN.out;omega)];have H3:Hid (bE W br bc b0 b1 bt c mn cp (.slice (some a) aj.length K) { r with next:=r.next+1 } true cnt n pv pb m (w2.setCell ⟨br,8,Option.none⟩ (.int .i64 ((r.next+1:Nat):Int)))):=⟨H2.out.p,q9 H2.out.o fun M hM=>KX hM (r.next+1)⟩;clear H2;generalize w2.setCell ⟨br,8,Option.none⟩ (.int .i64 ((r.next+1:Nat):Int))=w3 at H3 ⊢;obtain⟨⟨y0,y1,y2,y3,y4,y5,y6,y7,y8,y9,dL,bQ⟩,-,-⟩:=H3.out.box;have Kq:(J==15)=false:=by simpa using zi.out
 have OJ:(J==14)=false:=by simpa using zh.out
 refine(oC j 16 (by omega) (by omega) mH.out _).mono ?_;rintro e w4 ⟨rfl,rfl⟩;rw[sJ.out];go_wp2_with fail
 refine(oC j 16 (by omega) (by omega) mH.out _).mono ?_;rintro e w4 ⟨rfl,rfl⟩;rw[sJ.out];go_wp2_with fail
 refine(oC j 16 (by omega) (by omega) mH.out _).mono ?_;rintro e w4 ⟨rfl,rfl⟩;rw[sJ.out];have q8:decide ((8:Int)≤J)=false:=Zx7 (by have:=F6.out;omega);go_wp2_with fail
 refine(Y1 qV.out H3.out.o HKK.out pX.out).mono ?_;rintro e w5 ⟨rfl,h5⟩;clear y0 y1 y2 y3 y4 y5 y6 y7 y8 y9 dL bQ;have H5:Hid (bE W br bc b0 b1 bt c mn cp (.slice (some a) aj.length K) { r with next:=r.next+1,tk:=Cv.upd r.tk k (some (Cv.Dn k)) } true cnt (n+1) pv pb m w5):=⟨H3.out.p,h5⟩;obtain⟨⟨y0,y1,y2,y3,y4,y5,y6,y7,y8,y9,dL,bQ⟩,-,f⟩:=H5.out.box;have uK:=f 523;clear f h5 H3;go_wp2_with fail
 go_ret;exact⟨rfl,H5.out.p,q9 H5.out.o fun M hM=>EB hM true⟩
end
end Cw
namespace Cw
open Go Mem See
open Go.RowKit
attribute [local go_sem ↓] Go.wp_at_zero Go.wp_at_succ
section
variable {W w w':World}{m l:List (Nat×Obj)}{br bc b0 b1 bt:Nat}{c:Ch}{mn cp cnt n k:Nat}{r:Cv.Rn}{jv pv:Value}{pb:List (Nat×Obj)}{aj:List Int}{j J:Int}
theorem ZhY (h:bE W br bc b0 b1 bt c mn cp jv r true cnt n pv pb m w)(hj:jP W jv aj)(hn:r.next<120)(jA:aj[r.next]?=some j)(lG:(Lit.int .i64 j).wf=true)(hJ:j % 16=J)(rJ:J≠15)(rH:J≠14)(Fj:8≤J)(MX:r.pile=[])(hC:c.C≤5)(hk:k<c.C)(dI:r.tk k=Option.none) :
 Calls Tryz.prog 23 #[.pointer (some ⟨br,0,Option.none⟩),.int .i64 (k:Int)] w fun e w'=>e = .returned (.bool true)∧bE W br bc b0 b1 bt c mn cp jv { r with next:=r.next+1,tk:=Cv.upd r.tk k (some (Cv.Dn k)) } true cnt (n+1) pv pb m w':=by
 have zh:=ZkQ rH;have zi:=ZkQ rJ;have F6:=ZkQ Fj;have HX9:=ZkQ MX;obtain⟨PA,PK,rfl,pR⟩:=h.pile;have F3:=ZkQ pR;clear pR;have OS:=ZkQ hj;obtain⟨M0,hM0⟩:=C8 h.o;have aX:jP w jv aj:=Src.GG hj hM0;rcases aX.2 with⟨rfl,mW⟩|⟨a,K,rfl,hcell⟩
 ·rw[List.eq_nil_of_length_eq_zero mW]at jA
  cases jA
 have cy:=hcell r.next _ (wX jA);have aK:r.next<aj.length:=(List.getElem?_eq_some_iff.1 jA).1;have i1:(0:Int)≤(r.next:Int):=by omega
 have i2:(r.next:Int)<(aj.length:Int):=by omega
 have d1:decide (aj.length≤r.next)=false:=Zx7 (by omega);have d2:decide ((120:Int)≤(r.next:Int))=false:=Zx7 (by omega);have mH:=ZkQ lG;have sJ:=ZkQ hJ;have H:=ZkQ h;have qV:=ZkQ hC;have HKK:=ZkQ hk;have pX:=ZkQ dI;have HN:=ZkQ hn;clear h hj hn jA lG hJ hC hk dI aX hcell aK hM0 rH rJ Fj MX F3;have xA:r.pile.length=0:=by rw[HX9.out];rfl
 have lJ:=ZkQ xA;clear xA
 go_enter Tryz.func23,Tryz.ntmps23
 obtain⟨⟨y0,y1,y2,y3,y4,y5,y6,y7,y8,y9,dL,bQ⟩,-,-⟩:=H.out.box;go_wp2_with fail
 go_quiet (fail)
 clear y0 y1 y2 y3 y4 y5 y6 y7 y8 y9 dL bQ;have H1:=ZkQ (H.out.drewN nq);have cy:(w.drewN nq).cell? (a.add r.next)=some (.int .i64 j):=cy;clear H;generalize w.drewN nq=w1 at H1 cy ⊢;obtain⟨⟨y0,y1,y2,y3,y4,y5,y6,y7,y8,y9,dL,bQ⟩,-,-⟩:=H1.out.box;go_wp2_with fail
 go_quiet (fail)
 clear y0 y1 y2 y3 y4 y5 y6 y7 y8 y9 dL bQ cy d1 d2 i1 i2;have H2:=ZkQ (H1.out.drewN nq);clear H1;generalize w1.drewN nq=w2 at H2 ⊢;obtain⟨⟨y0,y1,y2,y3,y4,y5,y6,y7,y8,y9,dL,bQ⟩,-,f⟩:=H2.out.box;have f8:=f 8;clear f;go_wp2_with fail
 clear y0 y1 y2 y3 y4 y5 y6 y7 y8 y9 dL bQ f8;rw[show wrap64 ((r.next:Int)+1)=((r.next+1:Nat):Int) from ZxD _ (by have:=HN.out;omega)];have H3:Hid (bE W br bc b0 b1 bt c mn cp (.slice (some a) aj.length K) { r with next:=r.next+1 } true cnt n (.slice PA r.pile.length PK) pb m (w2.setCell ⟨br,8,Option.none⟩ (.int .i64 ((r.next+1:Nat):Int)))):=⟨H2.out.p,q9 H2.out.o fun M hM=>KX hM (r.next+1)⟩;clear H2;generalize w2.setCell ⟨br,8,Option.none⟩ (.int .i64 ((r.next+1:Nat):Int))=w3 at H3 ⊢;obtain⟨⟨y0,y1,y2,y3,y4,y5,y6,y7,y8,y9,dL,bQ⟩,-,-⟩:=H3.out.box;have Kq:(J==15)=false:=by simpa using zi.out
 have OJ:(J==14)=false:=by simpa using zh.out
 refine(oC j 16 (by omega) (by omega) mH.out _).mono ?_;rintro e w4 ⟨rfl,rfl⟩;rw[sJ.out];go_wp2_with fail
 refine(oC j 16 (by omega) (by omega) mH.out _).mono ?_;rintro e w4 ⟨rfl,rfl⟩;rw[sJ.out];go_wp2_with fail
 refine(oC j 16 (by omega) (by omega) mH.out _).mono ?_;rintro e w4 ⟨rfl,rfl⟩;rw[sJ.out];have q8:decide ((8:Int)≤J)=true:=Zx8 F6.out;have d9:decide ((0:Int)<(r.pile.length:Int))=false:=Zx7 (by rw[lJ.out];omega);have d10:decide (0<r.pile.length)=false:=Zx7 (by rw[lJ.out];omega);go_wp2_with fail
 refine(Y1 qV.out H3.out.o HKK.out pX.out).mono ?_;rintro e w5 ⟨rfl,h5⟩;clear y0 y1 y2 y3 y4 y5 y6 y7 y8 y9 dL bQ;have H5:Hid (bE W br bc b0 b1 bt c mn cp (.slice (some a) aj.length K) { r with next:=r.next+1,tk:=Cv.upd r.tk k (some (Cv.Dn k)) } true cnt (n+1) (.slice PA r.pile.length PK) pb m w5):=⟨H3.out.p,h5⟩;obtain⟨⟨y0,y1,y2,y3,y4,y5,y6,y7,y8,y9,dL,bQ⟩,-,f⟩:=H5.out.box;have uK:=f 523;clear f h5 H3;go_wp2_with fail
 go_ret;exact⟨rfl,H5.out.p,q9 H5.out.o fun M hM=>EB hM true⟩
end
end Cw
end Go.Proofs.YtfcpdlbkmkhhcaaGreatDoor
