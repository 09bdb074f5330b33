/-
  Texts of this claim, joined. No condition.
-/
import Derived.Test.YtfcpdlbkmkhhcaaGreatDoorCh1
import Derived.Test.YtfcpdlbkmkhhcaaGreatDoorCh43
import Derived.Test.YtfcpdlbkmkhhcaaGreatDoorCh41
import Derived.Test.YtfcpdlbkmkhhcaaGreatDoorCh20
import Derived.Deep.RegionHeld3
import Derived.Test.YtfcpdlbkmkhhcaaGreatDoorCh37
namespace Go.Proofs.YtfcpdlbkmkhhcaaGreatDoor
set_option maxRecDepth 100000
set_option maxHeartbeats 40000000
namespace Cw
open Go Mem See
open Go.RowKit
section
variable {W w w':World}{m l:List (Nat×Obj)}{br bc b0 b1 bt:Nat}{c:Ch}{mn cp cnt n k N:Nat}{r r':Cv.Rn}{aj:List Int}{st st':Cv.St}
structure zk (c:Ch)(mn cp:Nat)(aj:List Int)(N:Nat)(r:Cv.Rn)(st:Cv.St)(cnt n:Nat):Prop where
 I:Cv.RI c mn cp r st
 next:r.next≤120
 none:r.none≤N
 Kw:st.n≤N
 cnt:cnt≤N
 n:n≤N
 phi:Cv.sV c aj r st≤Cv.PJ c * 120
 ra:Cv.Uu c aj→Cv.RA c aj r st
theorem zk.pick (h:zk c mn cp aj N r st cnt n)(hk:k<c.C)(hN:N<1000000000):∃ r' b st',Cv.yC c mn cp aj r k=some (r',b)∧Cv.RI c mn cp r' st'∧Cv.Di c aj r st k r' st' b∧∀ cnt' n',cnt'≤cnt+1→n'≤n+1→r'.next≤120→r'.none≤r.none+1→zk c mn cp aj (N+1) r' st' cnt' n':=by
 obtain⟨r',b,st',h1,h2,h3,h4,h5⟩:=Cv.Zrc (aj:=aj) h.I hk (by have:=h.Kw;omega);refine⟨r',b,st',h1,h2,h4,fun cnt' n' a1 a2 a3 a4=>⟨h2,a3,?_,?_,?_,?_,ZxL h4.le h.phi,fun T=>h5 T (h.ra T)⟩⟩
 ·have:=h.none;omega
 ·have:=h.Kw;omega
 ·have:=h.cnt;omega
 ·have:=h.n;omega
theorem zk.mono {M:Nat}(h:zk c mn cp aj N r st cnt n)(hM:N≤M):zk c mn cp aj M r st cnt n:=⟨h.I,h.next,ZxL h.none hM,ZxL h.Kw hM,ZxL h.cnt hM,ZxL h.n hM,h.phi,h.ra⟩
theorem ZoE {C:Nat}:oo (fun _=>Option.none) C=fun _=>Option.none:=by
 funext j
 unfold oo;split<;>rfl
theorem Zhe {ops:Array Oper}{rest:List Oper}{o:Oper}{a:Act}{Q:Exit→Act→World→Prop}{A:Option Addr}{nj kj:Nat}(hg:o.guard=Option.none)(x0 x1 x2 x7:Operand)(ho:o.op = .build 35 #[(0,x0),(1,x1),(2,x2),(7,x7)])
 (h0:a.eval x0 = .pointer (some ⟨bc,0,Option.none⟩)) (h1:a.eval x1=qd c mn cp) (h2:a.eval x2 = .slice A nj kj) (h7:a.eval x7 = .bool true)
 (hK:wpList Tryz.prog ops Q rest (a.put o.dst (.agg (nG bc c mn cp (.slice A nj kj) 0 (fun _=>false) (.slice Option.none 0 0) 0 true).toArray)) w):wpList Tryz.prog ops Q (o::rest) a w:=by
 refine wpList_plain hg fun K hK' => ?_;have aO:=ZjS (bc:=bc) (c:=c) (mn:=mn) (cp:=cp) (A:=A) (nj:=nj) (kj:=kj) w;unfold Oper.wp execOp;simp only[ho,List.map_toArray,List.map_cons,List.map_nil,h0,h1,h2,h7,Zxy,ZxM,Zxs,aO];exact hK' _ _ hK
theorem ZiL {ops:Array Oper}{rest:List Oper}{o:Oper}{a:Act}{Q:Exit→Act→World→Prop}{A:Option Addr}{nj kj:Nat}(hg:o.guard=Option.none)(x0:Operand)(ho:o.op = .box 35 x0)
 (h0:a.eval x0 = .agg (nG bc c mn cp (.slice A nj kj) 0 (fun _=>false) (.slice Option.none 0 0) 0 true).toArray) (hO:Own W m w)
 (hK:∀ br w',Own W (gJ br bc c mn cp (.slice A nj kj) 0 (fun _=>false) (.slice Option.none 0 0) 0 true::m) w'→wpList Tryz.prog ops Q rest (a.put o.dst (.pointer (some ⟨br,0,Option.none⟩))) w'):wpList Tryz.prog ops Q (o::rest) a w:=by
 refine wpList_plain hg fun K hK' => ?_;have aO:=Zmy (bc:=bc) (c:=c) (mn:=mn) (cp:=cp) (A:=A) (nj:=nj) (kj:=kj) w;unfold Oper.wp execOp;simp only[ho,h0,Zxy,ZxM,Zxs,aO];exact hK' _ _ (hK _ _ (hO.new _))
end
end Cw
namespace Cw
open Go Mem See
open Go.RowKit
attribute [local go_sem ↓] Go.wp_at_zero Go.wp_at_succ
section
variable {W w:World}{m:List (Nat×Obj)}{a0 a1 a2 a3 a4:Int}{key:Nat}
def tQ (a0 a1 a2:Int)(key:Nat):Ch:=⟨1+Cv.eZ a0 5,1+Cv.eZ a1 8,1+Cv.eZ a2 8,key⟩
theorem s6 {B:Nat}{l:List (Nat×Obj)}{v:World}(h:Own W ((B,.cells #[.int .i64 a0,.int .i64 a1,.int .i64 a2,.int .i64 a3,.int .i64 a4,.int .u64 (key:Int)] 24)::l) v):v.cell? ⟨B,0,Option.none⟩=some (.int .i64 a0)∧v.cell? ⟨B,1,Option.none⟩=some (.int .i64 a1)∧v.cell? ⟨B,2,Option.none⟩=some (.int .i64 a2)∧v.cell? ⟨B,3,Option.none⟩=some (.int .i64 a3)∧v.cell? ⟨B,4,Option.none⟩=some (.int .i64 a4)∧v.cell? ⟨B,5,Option.none⟩=some (.int .u64 (key:Int)):=⟨h.cell ZnJ 0,h.cell ZnJ 1,h.cell ZnJ 2,h.cell ZnJ 3,h.cell ZnJ 4,h.cell ZnJ 5⟩
theorem Zjx (h:Own W m w)(w0:(Lit.int .i64 a0).wf=true)(w1:(Lit.int .i64 a1).wf=true)(w2:(Lit.int .i64 a2).wf=true)(w3:(Lit.int .i64 a3).wf=true)(w4:(Lit.int .i64 a4).wf=true) :
 Calls Tryz.prog 7 #[.agg #[.int .i64 a0,.int .i64 a1,.int .i64 a2,.int .i64 a3,.int .i64 a4,.int .u64 (key:Int)]] w fun e w'=>e = .returned (qd (tQ a0 a1 a2 key) (Cv.eZ a3 3) (Cv.eZ a4 3))∧Own W m w':=by
 have h1:=h.new (.cells #[.int .i64 a0,.int .i64 a1,.int .i64 a2,.int .i64 a3,.int .i64 a4,.int .u64 (key:Int)] 24);have h2:=h1.new (.cells #[.int .i64 0,.int .i64 0,.int .i64 0,.int .i64 0,.int .i64 0,.int .u64 0] 24);rw[World.size_alloc]at h2;obtain⟨B,hB⟩:=Zx9 (w.heap.size);rw[hB]at h2;obtain⟨wa,eQ⟩:=Zx9 ((w.alloc (.cells #[.int .i64 a0,.int .i64 a1,.int .i64 a2,.int .i64 a3,.int .i64 a4,.int .u64 (key:Int)] 24)).alloc (.cells #[.int .i64 0,.int .i64 0,.int .i64 0,.int .i64 0,.int .i64 0,.int .u64 0] 24));rw[eQ]at h2;have HO:=ZkQ h2;have W0:=ZkQ w0;have W1:=ZkQ w1;have W2:=ZkQ w2;have W3:=ZkQ w3;have W4:=ZkQ w4;clear h h1 h2 w0 w1 w2 w3 w4;obtain⟨n0,mW⟩:=Zx9 (Cv.eZ a0 5);obtain⟨n1,mr⟩:=Zx9 (Cv.eZ a1 8);obtain⟨n2,jT⟩:=Zx9 (Cv.eZ a2 8);obtain⟨n3,Wu⟩:=Zx9 (Cv.eZ a3 3);obtain⟨n4,Ww⟩:=Zx9 (Cv.eZ a4 3);have E0:Hid (a0 % 5=(n0:Int)):=by rw[← mW];exact ZkQ (Dj (n:=5) (by omega))
 have E1:Hid (a1 % 8=(n1:Int)):=by rw[← mr];exact ZkQ (Dj (n:=8) (by omega))
 have E2:Hid (a2 % 8=(n2:Int)):=by rw[← jT];exact ZkQ (Dj (n:=8) (by omega))
 have E3:Hid (a3 % 3=(n3:Int)):=by rw[← Wu];exact ZkQ (Dj (n:=3) (by omega))
 have E4:Hid (a4 % 3=(n4:Int)):=by rw[← Ww];exact ZkQ (Dj (n:=3) (by omega))
 have b0:n0<5:=mW ▸ Cv.ul (by omega);have b1:n1<8:=mr ▸ Cv.ul (by omega);have b2:n2<8:=jT ▸ Cv.ul (by omega);have e0:IntKind.i64.wrap (1+(n0:Int))=((1+n0:Nat):Int):=by rw[Ex.wS (by omega) (by omega)];omega
 have e1:IntKind.i64.wrap (1+(n1:Int))=((1+n1:Nat):Int):=by rw[Ex.wS (by omega) (by omega)];omega
 have e2:IntKind.i64.wrap (1+(n2:Int))=((1+n2:Nat):Int):=by rw[Ex.wS (by omega) (by omega)];omega
 have HR:Hid (qd (tQ a0 a1 a2 key) (Cv.eZ a3 3) (Cv.eZ a4 3) = .agg #[.int .i64 ((1+n0:Nat):Int),.int .i64 ((1+n1:Nat):Int),.int .i64 ((1+n2:Nat):Int),.int .i64 (n3:Int),.int .i64 (n4:Int),.int .u64 (key:Int)]):=by
  unfold tQ qd;rw[mW,mr,jT,Wu,Ww];exact ZkQ rfl
 clear mW mr jT Wu Ww b0 b1 b2;have c0:wa.cell? ⟨B,0,Option.none⟩=some (.int .i64 a0):=HO.out.skip.cell ZnJ 0;have c1:wa.cell? ⟨B,1,Option.none⟩=some (.int .i64 a1):=HO.out.skip.cell ZnJ 1;have c2:wa.cell? ⟨B,2,Option.none⟩=some (.int .i64 a2):=HO.out.skip.cell ZnJ 2;have c3:wa.cell? ⟨B,3,Option.none⟩=some (.int .i64 a3):=HO.out.skip.cell ZnJ 3;have c4:wa.cell? ⟨B,4,Option.none⟩=some (.int .i64 a4):=HO.out.skip.cell ZnJ 4;have c5:wa.cell? ⟨B,5,Option.none⟩=some (.int .u64 (key:Int)):=HO.out.skip.cell ZnJ 5;rw[HR.out]
 go_enter Tryz.func7,Tryz.ntmps7
 go_wp2_with fail
 refine wp_region_held_drew (S:=(fun w'=>w'.cell? ⟨B,0,Option.none⟩=some (.int .i64 a0)∧w'.cell? ⟨B,1,Option.none⟩=some (.int .i64 a1)∧w'.cell? ⟨B,2,Option.none⟩=some (.int .i64 a2)∧w'.cell? ⟨B,3,Option.none⟩=some (.int .i64 a3)∧w'.cell? ⟨B,4,Option.none⟩=some (.int .i64 a4)∧w'.cell? ⟨B,5,Option.none⟩=some (.int .u64 (key:Int)))) (by kernel_rfl) (s6 HO.out.drew.skip) (fun hHeld => ?_);clear eQ hB c0 c1 c2 c3 c4 c5;refine wpAnyH_take (i:=0) (oi:=⟨some 3,_,_,_,_,_⟩) (v := ?v0) rfl (by kernel_rfl) (by kernel_rfl) (by kernel_rfl) (fun _ _ _ h=>h) (Or.inl ⟨by rfl,?y0⟩) (by assumption) ?r0
 case y0=>(intro w hSw;(try dsimp only at hSw);go_simp;try with_reducible rfl)
 try simp only[Act.put,ZnK,Zqa,Zxo]
 refine wpAnyH_take (i:=1) (oi:=⟨some 4,_,_,_,_,_⟩) (v := ?v1) rfl (by kernel_rfl) (by kernel_rfl) (by kernel_rfl) (fun _ _ _ h=>h) (Or.inl ⟨by rfl,?y1⟩) (by assumption) ?r1
 case y1=>(intro w hSw;(try dsimp only at hSw);go_simp;try with_reducible rfl)
 try simp only[Act.put,ZnK,Zqa,Zxo]
 refine wpAnyH_take (i:=4) (oi:=⟨some 7,_,_,_,_,_⟩) (v := ?v4) rfl (by kernel_rfl) (by kernel_rfl) (by kernel_rfl) (fun _ _ _ h=>h) (Or.inl ⟨by rfl,?y4⟩) (by assumption) ?r4
 case y4=>(intro w hSw;(try dsimp only at hSw);go_simp;try with_reducible rfl)
 try simp only[Act.put,ZnK,Zqa,Zxo]
 refine wpAnyH_take (i:=5) (oi:=⟨some 8,_,_,_,_,_⟩) (v := ?v5) rfl (by kernel_rfl) (by kernel_rfl) (by kernel_rfl) (fun _ _ _ h=>h) (Or.inl ⟨by rfl,?y5⟩) (by assumption) ?r5
 case y5=>(intro w hSw;(try dsimp only at hSw);go_simp;try with_reducible rfl)
 try simp only[Act.put,ZnK,Zqa,Zxo]
 refine wpAnyH_take (i:=8) (oi:=⟨some 11,_,_,_,_,_⟩) (v := ?v8) rfl (by kernel_rfl) (by kernel_rfl) (by kernel_rfl) (fun _ _ _ h=>h) (Or.inl ⟨by rfl,?y8⟩) (by assumption) ?r8
 case y8=>(intro w hSw;(try dsimp only at hSw);go_simp;try with_reducible rfl)
 try simp only[Act.put,ZnK,Zqa,Zxo]
 refine wpAnyH_take (i:=9) (oi:=⟨some 12,_,_,_,_,_⟩) (v := ?v9) rfl (by kernel_rfl) (by kernel_rfl) (by kernel_rfl) (fun _ _ _ h=>h) (Or.inl ⟨by rfl,?y9⟩) (by assumption) ?r9
 case y9=>(intro w hSw;(try dsimp only at hSw);go_simp;try with_reducible rfl)
 try simp only[Act.put,ZnK,Zqa,Zxo]
 refine wpAnyH_take (i:=12) (oi:=⟨some 15,_,_,_,_,_⟩) (v := ?v12) rfl (by kernel_rfl) (by kernel_rfl) (by kernel_rfl) (fun _ _ _ h=>h) (Or.inl ⟨by rfl,?Xi⟩) (by assumption) ?r12
 case Xi=>(intro w hSw;(try dsimp only at hSw);go_simp;try with_reducible rfl)
 try simp only[Act.put,ZnK,Zqa,Zxo]
 refine wpAnyH_take (i:=13) (oi:=⟨some 16,_,_,_,_,_⟩) (v := ?v13) rfl (by kernel_rfl) (by kernel_rfl) (by kernel_rfl) (fun _ _ _ h=>h) (Or.inl ⟨by rfl,?y13⟩) (by assumption) ?r13
 case y13=>(intro w hSw;(try dsimp only at hSw);go_simp;try with_reducible rfl)
 try simp only[Act.put,ZnK,Zqa,Zxo]
 refine wpAnyH_take (i:=15) (oi:=⟨some 18,_,_,_,_,_⟩) (v := ?v15) rfl (by kernel_rfl) (by kernel_rfl) (by kernel_rfl) (fun _ _ _ h=>h) (Or.inl ⟨by rfl,?y15⟩) (by assumption) ?r15
 case y15=>(intro w hSw;(try dsimp only at hSw);go_simp;try with_reducible rfl)
 try simp only[Act.put,ZnK,Zqa,Zxo]
 refine wpAnyH_take (i:=16) (oi:=⟨some 19,_,_,_,_,_⟩) (v := ?v16) rfl (by kernel_rfl) (by kernel_rfl) (by kernel_rfl) (fun _ _ _ h=>h) (Or.inl ⟨by rfl,?Xl⟩) (by assumption) ?r16
 case Xl=>(intro w hSw;(try dsimp only at hSw);go_simp;try with_reducible rfl)
 try simp only[Act.put,ZnK,Zqa,Zxo]
 refine wpAnyH_take (i:=18) (oi:=⟨some 21,_,_,_,_,_⟩) (v := ?v18) rfl (by kernel_rfl) (by kernel_rfl) (by kernel_rfl) (fun _ _ _ h=>h) (Or.inl ⟨by rfl,?y18⟩) (by assumption) ?r18
 case y18=>(intro w hSw;(try dsimp only at hSw);go_simp;try with_reducible rfl)
 try simp only[Act.put,ZnK,Zqa,Zxo]
 refine wpAnyH_take (i:=19) (oi:=⟨some 22,_,_,_,_,_⟩) (v := ?v19) rfl (by kernel_rfl) (by kernel_rfl) (by kernel_rfl) (fun _ _ _ h=>h) (Or.inl ⟨by rfl,?y19⟩) (by assumption) ?r19
 case y19=>(intro w hSw;(try dsimp only at hSw);go_simp;try with_reducible rfl)
 try simp only[Act.put,ZnK,Zqa,Zxo]
 refine wpAnyH_ready (rs:=[2]) (by kernel_rfl) (by simp) ?_;refine AllReadyH.cons (o:=⟨some 5,_,_,_,_,_⟩) rfl (fun K hK => ?_) AllReadyH.nil;go_simp;refine(oC a0 5 (by omega) (by omega) W0.out _).mono ?_;rintro e w9 ⟨rfl,rfl⟩;rw[E0.out];refine hK.out _ _ hHeld (fun _ => ?_);clear hK K;try simp only[Act.put,ZnK,Zqa,Zxo]
 refine wpAnyH_take (i:=3) (oi:=⟨some 6,_,_,_,_,_⟩) (v := ?v3) rfl (by kernel_rfl) (by kernel_rfl) (by kernel_rfl) (fun _ _ _ h=>h) (Or.inl ⟨by rfl,?y3⟩) (by assumption) ?r3
 case y3=>(intro w hSw;(try dsimp only at hSw);go_simp;try with_reducible rfl)
 try simp only[Act.put,ZnK,Zqa,Zxo]
 refine wpAnyH_ready (rs:=[6]) (by kernel_rfl) (by simp) ?_;refine AllReadyH.cons (o:=⟨some 9,_,_,_,_,_⟩) rfl (fun K hK => ?_) AllReadyH.nil;go_simp;refine(oC a1 8 (by omega) (by omega) W1.out _).mono ?_;rintro e w9 ⟨rfl,rfl⟩;rw[E1.out];refine hK.out _ _ hHeld (fun _ => ?_);clear hK K;try simp only[Act.put,ZnK,Zqa,Zxo]
 refine wpAnyH_take (i:=7) (oi:=⟨some 10,_,_,_,_,_⟩) (v := ?v7) rfl (by kernel_rfl) (by kernel_rfl) (by kernel_rfl) (fun _ _ _ h=>h) (Or.inl ⟨by rfl,?y7⟩) (by assumption) ?r7
 case y7=>(intro w hSw;(try dsimp only at hSw);go_simp;try with_reducible rfl)
 try simp only[Act.put,ZnK,Zqa,Zxo]
 refine wpAnyH_ready (rs:=[10]) (by kernel_rfl) (by simp) ?_;refine AllReadyH.cons (o:=⟨some 13,_,_,_,_,_⟩) rfl (fun K hK => ?_) AllReadyH.nil;go_simp;refine(oC a2 8 (by omega) (by omega) W2.out _).mono ?_;rintro e w9 ⟨rfl,rfl⟩;rw[E2.out];refine hK.out _ _ hHeld (fun _ => ?_);clear hK K;try simp only[Act.put,ZnK,Zqa,Zxo]
 refine wpAnyH_take (i:=11) (oi:=⟨some 14,_,_,_,_,_⟩) (v := ?v11) rfl (by kernel_rfl) (by kernel_rfl) (by kernel_rfl) (fun _ _ _ h=>h) (Or.inl ⟨by rfl,?bQ⟩) (by assumption) ?r11
 case bQ=>(intro w hSw;(try dsimp only at hSw);go_simp;try with_reducible rfl)
 try simp only[Act.put,ZnK,Zqa,Zxo]
 refine wpAnyH_ready (rs:=[14]) (by kernel_rfl) (by simp) ?_;refine AllReadyH.cons (o:=⟨some 17,_,_,_,_,_⟩) rfl (fun K hK => ?_) AllReadyH.nil;go_simp;refine(oC a3 3 (by omega) (by omega) W3.out _).mono ?_;rintro e w9 ⟨rfl,rfl⟩;rw[E3.out];refine hK.out _ _ hHeld (fun _ => ?_);clear hK K;try simp only[Act.put,ZnK,Zqa,Zxo]
 refine wpAnyH_ready (rs:=[17]) (by kernel_rfl) (by simp) ?_;refine AllReadyH.cons (o:=⟨some 20,_,_,_,_,_⟩) rfl (fun K hK => ?_) AllReadyH.nil;go_simp;refine(oC a4 3 (by omega) (by omega) W4.out _).mono ?_;rintro e w9 ⟨rfl,rfl⟩;rw[E4.out];refine hK.out _ _ hHeld (fun _ => ?_);clear hK K;try simp only[Act.put,ZnK,Zqa,Zxo]
 refine wpAnyH_take (i:=20) (oi:=⟨some 23,_,_,_,_,_⟩) (v := ?v20) rfl (by kernel_rfl) (by kernel_rfl) (by kernel_rfl) (fun _ _ _ h=>h) (Or.inl ⟨by rfl,?y20⟩) (by assumption) ?r20
 case y20=>(intro w hSw;(try dsimp only at hSw);go_simp;try with_reducible rfl)
 try simp only[Act.put,ZnK,Zqa,Zxo]
 refine wpAnyH_ready (rs:=[21]) (by kernel_rfl) (by simp) ?_;refine AllReadyH.cons (o:=⟨none,_,_,_,_,_⟩) rfl (fun K hK => ?_) AllReadyH.nil;refine Pk (t:=24) (new:=#[.int .i64 ((1+n0:Nat):Int),.int .i64 ((1+n1:Nat):Int),.int .i64 ((1+n2:Nat):Int),.int .i64 (n3:Int),.int .i64 (n4:Int),.int .u64 (key:Int)]) rfl _ _ rfl rfl rfl HO.out.drew (by kernel_rfl) rfl (by intro u hu;simp only[ZxF,List.not_mem_nil,or_false]at hu;rcases hu with rfl|rfl|rfl|rfl|rfl|rfl<;>rfl) (fun w9 h9 => ?_);refine hK.out _ _ (s6 h9.skip) (fun _ => ?_);clear hK K hHeld;try simp only[Act.put]
 refine wpAnyH_done (by kernel_rfl) ?_ _;have H9:=ZkQ h9;have x0:w9.cell? ⟨B+1,0,Option.none⟩=some (.int .i64 ((1+n0:Nat):Int)):=h9.cell ZnJ 0;have x1:w9.cell? ⟨B+1,1,Option.none⟩=some (.int .i64 ((1+n1:Nat):Int)):=h9.cell ZnJ 1;have x2:w9.cell? ⟨B+1,2,Option.none⟩=some (.int .i64 ((1+n2:Nat):Int)):=h9.cell ZnJ 2;have x3:w9.cell? ⟨B+1,3,Option.none⟩=some (.int .i64 (n3:Int)):=h9.cell ZnJ 3;have x4:w9.cell? ⟨B+1,4,Option.none⟩=some (.int .i64 (n4:Int)):=h9.cell ZnJ 4;have x5:w9.cell? ⟨B+1,5,Option.none⟩=some (.int .u64 (key:Int)):=h9.cell ZnJ 5;clear h9;go_wp2_with fail
 exact bodyPost_ret (v:=.agg #[.int .i64 ((1+n0:Nat):Int),.int .i64 ((1+n1:Nat):Int),.int .i64 ((1+n2:Nat):Int),.int .i64 (n3:Int),.int .i64 (n4:Int),.int .u64 (key:Int)]) (by simp[results,Tryz.f7,go_sem,x0,x1,x2,x3,x4,x5]) rfl ⟨rfl,H9.out.skip.skip⟩
end
end Cw
namespace Cw
open Go Mem See
open Go.RowKit
attribute [local go_sem ↓] Go.wp_at_zero Go.wp_at_succ
section
variable {W w:World}{m:List (Nat×Obj)}{a0 a1 a2 a3 a4:Int}{key:Nat}{jv qv:Value}{aj picks:List Int}
theorem UT:1≤(tQ a0 a1 a2 key).C∧(tQ a0 a1 a2 key).C≤5∧1≤(tQ a0 a1 a2 key).S∧(tQ a0 a1 a2 key).S≤8∧1≤(tQ a0 a1 a2 key).O∧(tQ a0 a1 a2 key).O≤8:=by
 have h0:=Cv.ul (i:=a0) (n:=5) (by omega);have h1:=Cv.ul (i:=a1) (n:=8) (by omega);have h2:=Cv.ul (i:=a2) (n:=8) (by omega);show 1≤1+Cv.eZ a0 5∧1+Cv.eZ a0 5≤5∧1≤1+Cv.eZ a1 8∧1+Cv.eZ a1 8≤8∧1≤1+Cv.eZ a2 8∧1+Cv.eZ a2 8≤8;omega
def lu (b:Nat)(a0 a1 a2 a3 a4:Int)(key:Nat)(jv qv:Value):Nat×Obj:=(b,.cells #[.int .i64 a0,.int .i64 a1,.int .i64 a2,.int .i64 a3,.int .i64 a4,.int .u64 (key:Int),jv,qv] 27)
def EY (b:Nat)(c:Ch)(mn cp:Nat):Nat×Obj:=(b,.cells #[.int .i64 (c.C:Int),.int .i64 (c.S:Int),.int .i64 (c.O:Int),.int .i64 (mn:Int),.int .i64 (cp:Int),.int .u64 (c.key:Int)] 24)
theorem Pv {b:Nat}{l:List (Nat×Obj)}{v:World}(h:Own W (lu b a0 a1 a2 a3 a4 key jv qv::l) v):v.cell? ⟨b,0,Option.none⟩=some (.int .i64 a0)∧v.cell? ⟨b,1,Option.none⟩=some (.int .i64 a1)∧v.cell? ⟨b,2,Option.none⟩=some (.int .i64 a2)∧v.cell? ⟨b,3,Option.none⟩=some (.int .i64 a3)∧v.cell? ⟨b,4,Option.none⟩=some (.int .i64 a4)∧v.cell? ⟨b,5,Option.none⟩=some (.int .u64 (key:Int))∧v.cell? ⟨b,6,Option.none⟩=some jv∧v.cell? ⟨b,7,Option.none⟩=some qv :=
 ⟨h.cell ZnJ 0,h.cell ZnJ 1,h.cell ZnJ 2,h.cell ZnJ 3,h.cell ZnJ 4,h.cell ZnJ 5,h.cell ZnJ 6,h.cell ZnJ 7⟩
theorem PZ {b:Nat}{c:Ch}{mn cp:Nat}{l:List (Nat×Obj)}{v:World}(h:Own W (EY b c mn cp::l) v):v.cell? ⟨b,0,Option.none⟩=some (.int .i64 (c.C:Int))∧v.cell? ⟨b,1,Option.none⟩=some (.int .i64 (c.S:Int))∧v.cell? ⟨b,2,Option.none⟩=some (.int .i64 (c.O:Int))∧v.cell? ⟨b,3,Option.none⟩=some (.int .i64 (mn:Int))∧v.cell? ⟨b,4,Option.none⟩=some (.int .i64 (cp:Int))∧v.cell? ⟨b,5,Option.none⟩=some (.int .u64 (c.key:Int)) :=
 ⟨h.cell ZnJ 0,h.cell ZnJ 1,h.cell ZnJ 2,h.cell ZnJ 3,h.cell ZnJ 4,h.cell ZnJ 5⟩
structure UK (W:World)(m:List (Nat×Obj))(c:Ch)(mn cp:Nat)(jv:Value)(aj:List Int)(br:Nat)(w:World):Prop where
 ex:∃ (bc b0 b1 bt cnt n N:Nat) (pv:Value) (pb:List (Nat×Obj)) (r:Cv.Rn) (st:Cv.St),zk c mn cp aj N r st cnt n∧N<1000000000∧(∀ k,k<c.C→r.tk k=Option.none∧¬(r.next<aj.length∧r.next<120))∧bE W br bc b0 b1 bt c mn cp jv r true cnt n pv pb m w
theorem Yf (h:Own W m w)(hT:Ex.jR aJ.gs W)(hj:jP W jv aj)(hq:jP W qv picks)(FO:∀ j∈aj,(Lit.int .i64 j).wf=true)(yP:∀ j∈picks,(Lit.int .i64 j).wf=true)(aV:key<18446744073709551616)
 (w0:(Lit.int .i64 a0).wf=true) (w1:(Lit.int .i64 a1).wf=true) (w2:(Lit.int .i64 a2).wf=true) (w3:(Lit.int .i64 a3).wf=true) (w4:(Lit.int .i64 a4).wf=true) :
 Calls Tryz.prog 6 #[.agg #[.int .i64 a0,.int .i64 a1,.int .i64 a2,.int .i64 a3,.int .i64 a4,.int .u64 (key:Int),jv,qv]] w fun e w'=>∃ br,e = .returned (.tuple #[.pointer (some ⟨br,0,Option.none⟩),.bool true])∧UK W m (tQ a0 a1 a2 key) (Cv.eZ a3 3) (Cv.eZ a4 3) jv aj br w':=by
 obtain⟨A1,K1,rfl⟩:=BG hj;obtain⟨A2,K2,rfl⟩:=BG hq;have h1:=h.new (lu 0 a0 a1 a2 a3 a4 key (.slice A1 aj.length K1) (.slice A2 picks.length K2)).2;obtain⟨B,hB⟩:=Zx9 (w.heap.size);rw[hB]at h1;have h1:Own W (lu B a0 a1 a2 a3 a4 key (.slice A1 aj.length K1) (.slice A2 picks.length K2)::m) _:=h1;obtain⟨wa,eQ⟩:=Zx9 (w.alloc (lu 0 a0 a1 a2 a3 a4 key (.slice A1 aj.length K1) (.slice A2 picks.length K2)).2);rw[eQ]at h1;unfold lu at eQ;have H1:=ZkQ h1;have OU:=ZkQ (Zjx (key:=key) h1 w0 w1 w2 w3 w4);have HJ:=ZkQ hj;have HQ:=ZkQ hq;have mH:=ZkQ FO;have Bo:=ZkQ yP;have HT:=ZkQ hT;have HKEY:=ZkQ aV;obtain⟨x0,x1,x2,x3,x4,x5,x6,x7⟩:=Pv h1;clear h h1 hj hq FO yP hT aV w0 w1 w2 w3 w4;obtain⟨mn,bP⟩:=Zx9 (Cv.eZ a3 3);obtain⟨cp,bN⟩:=Zx9 (Cv.eZ a4 3);have NS:mn<3:=bP ▸ Cv.ul (by omega);have Nf:cp<3:=bN ▸ Cv.ul (by omega);have qi:(tQ a0 a1 a2 key).key=key:=rfl;have eF:=ZkQ (UT (a0:=a0) (a1:=a1) (a2:=a2) (key:=key));rw[bP,bN]at OU ⊢;obtain⟨c,hc⟩:=Zx9 (tQ a0 a1 a2 key);rw[hc]at OU eF qi ⊢;have OQ:=ZkQ qi;have KG:=ZkQ NS;have FW:=ZkQ Nf;clear bP bN NS Nf qi hc
 go_enter Tryz.func6,Tryz.ntmps6
 go_wp2_with fail
 refine OU.out.mono ?_;rintro e w2 ⟨rfl,h2⟩;have I7:Hid (sI c (mn:Int) (cp:Int)):=by
  have:=eF.out;have:=KG.out;have:=FW.out;have:=OQ.out;have:=HKEY.out;refine⟨?_,by omega⟩;unfold bI.Ok;omega
 have Sb:Hid (1≤c.words∧c.words≤4096):=by
  obtain⟨k1,k2,k3,k4,k5,k6⟩:=eF.out;have hm:c.S * c.O≤8 * 8:=Nat.mul_le_mul k4 k6;show 1≤c.words∧c.words≤4096;unfold Ch.words;omega
 have h3:=h2.new (.cells #[.int .i64 0,.int .i64 0,.int .i64 0,.int .i64 0,.int .i64 0,.int .u64 0] 24);obtain⟨B4,hB4⟩:∃ B,w2.heap.size=B:=⟨_,rfl⟩;rw[hB4]at h3;have H3:=ZkQ h3;have Xu:Hid (∀ u∈(#[.int .i64 (c.C:Int),.int .i64 (c.S:Int),.int .i64 (c.O:Int),.int .i64 (mn:Int),.int .i64 (cp:Int),.int .u64 (c.key:Int)]:Array Value).toList,u.oneCell'=true):=by
  intro u hu;simp only[ZxF,List.not_mem_nil,or_false]at hu;rcases hu with rfl|rfl|rfl|rfl|rfl|rfl<;>rfl
 have OW:Hid (Ex.iA Tryz.prog 24=some 6):=by exact ZkQ (by kernel_rfl)
 clear h2 h3 OU eQ hB x0 x1 x2 x3 x4 x5 x6 x7;unfold qd
 go_wp2_with (first
  |(refine jm (t:=24) (new:=#[.int .i64 (c.C:Int),.int .i64 (c.S:Int),.int .i64 (c.O:Int),.int .i64 (mn:Int),.int .i64 (cp:Int),.int .u64 (c.key:Int)]) rfl _ _ rfl rfl rfl OW.out H3.out rfl Xu.out ?_;intro w3 hS;have H4:Hid (Own W (EY B4 c mn cp::lu B a0 a1 a2 a3 a4 key (.slice A1 aj.length K1) (.slice A2 picks.length K2)::m) w3):=hS;clear hS hB4)
  |(refine qC (t:=24) (old:=#[.int .i64 (c.C:Int),.int .i64 (c.S:Int),.int .i64 (c.O:Int),.int .i64 (mn:Int),.int .i64 (cp:Int),.int .u64 (c.key:Int)]) rfl _ rfl rfl Tryz.underlying24 H4.out OW.out ?_))
 refine(Zm1 H4.out I7.out Sb.out.2 Sb.out.1).mono ?_;rintro e w5 ⟨bc,b0,b1,bt,rfl,h5⟩;have H5:Hid (Own W (EY B4 c mn cp::lu B a0 a1 a2 a3 a4 key (.slice A1 aj.length K1) (.slice A2 picks.length K2)::aY bc b0 bt c mn cp::(bt,.map #[] 0)::mB b0 b1 c.words 0::wB b1 (List.replicate c.words 0)::m) w5):=h5.perm (fO fun _ q=>by simp only[Zxv];omega);obtain⟨y0,y1,y2,y3,y4,y5,y6,y7⟩:=Pv H5.out.skip;clear h5 H4 H3 y0 y1 y2 y3 y4 y5 y7
 go_wp2_with (first
  |(refine qC (t:=24) (old:=#[.int .i64 (c.C:Int),.int .i64 (c.S:Int),.int .i64 (c.O:Int),.int .i64 (mn:Int),.int .i64 (cp:Int),.int .u64 (c.key:Int)]) rfl _ rfl rfl Tryz.underlying24 H5.out OW.out ?_)
  |(refine Zhe (bc:=bc) (c:=c) (mn:=mn) (cp:=cp) rfl _ _ _ _ rfl rfl rfl rfl rfl ?_)
  |(refine ZiL (bc:=bc) (c:=c) (mn:=mn) (cp:=cp) rfl _ rfl rfl H5.out ?_;intro br w6 h6;have H6:=ZkQ h6;clear h6 H5 y6))
 have hR0:bE W br bc b0 b1 bt c mn cp (.slice A1 aj.length K1) (Cv.r0 c) true 0 0 (.slice Option.none 0 0) [] (EY B4 c mn cp::lu B a0 a1 a2 a3 a4 key (.slice A1 aj.length K1) (.slice A2 picks.length K2)::m) w6:=by
  refine⟨gI.nil true _ _,#[],0,?_,H6.out.perm (fO fun _ q=>by simp only[List.nil_append,Zxv,Cv.r0,List.length_replicate,gJ,EY,lu,aY,mB,wB];omega)⟩;show VM #[] 0 0 (oo (fun _=>Option.none) c.C);rw[ZoE];exact VM.nil
 have hL0:zk c mn cp aj 0 (Cv.r0 c) Cv.st0 0 0:=by
  have k:=eF.out;have k1:=KG.out;have k2:=FW.out;exact⟨Cv.ri0 (by omega) (by omega) (by omega) (by omega) (by omega),ZxV _,Zxt _,Zxt _,Zxt _,Zxt _,Cv.ZtF,fun _=>Cv.ra0⟩
 have Xw:=ZkQ hR0;have Xq:=ZkQ hL0;clear hR0 hL0 H6 Sb I7 OW Xu KG FW
 go_loopw [8] (fun kv wr=>∃ (i cnt n:Nat) (pv:Value) (pb:List (Nat×Obj)) (r:Cv.Rn) (st:Cv.St),kv = .int .i64 (i:Int)∧i≤300∧zk c mn cp aj i r st cnt n∧bE W br bc b0 b1 bt c mn cp (.slice A1 aj.length K1) r true cnt n pv pb (EY B4 c mn cp::lu B a0 a1 a2 a3 a4 key (.slice A1 aj.length K1) (.slice A2 picks.length K2)::m) wr) (fun kv _=>301 - (intOf kv).toNat)
 case atStart=>exact⟨0,0,0,_,_,_,_,rfl,by omega,Xq.out,Xw.out⟩
 case round =>
  obtain⟨i,cnt,n,pv,pb,r,st,rfl,Wj,hL,hR⟩:=hrel;have HL:=ZkQ hL;have HR:=ZkQ hR;obtain⟨⟨-,-,-,-,-,-,-,-,-,-,-,bQ⟩,-,-⟩:=hR.box;obtain⟨M1,hM1⟩:=hR.own;obtain⟨z0,-⟩:=PZ hM1;obtain⟨-,-,-,-,-,-,-,z7⟩:=Pv hM1.skip;have R4:=ZkQ (Src.GG HQ.out hM1);clear hL hR hM1 Xw Xq;by_cases Rq:i<picks.length
  ·have i1:(i:Int)<(picks.length:Int):=by omega
   by_cases Wl:i<300
   ·have i2:(i:Int)<300:=by omega
    obtain⟨q,hq⟩:∃ q,picks[i]?=some q:=⟨_,Zxp Rq⟩;have jh:=ZkQ (Bo.out q (Zxz hq));have hex:∃ JU,A2=some JU∧wr.cell? (JU.add i)=some (.int .i64 q):=by
     rcases R4.out.2 with⟨h1,-⟩|⟨a,K,h1,hc⟩
     ·simp only[Value.slice.injEq]at h1
      omega
     ·simp only[Value.slice.injEq]at h1
      obtain⟨rfl,-,-⟩:=h1;exact⟨a,rfl,hc i _ (wX hq)⟩
    obtain⟨JU,rfl,cq⟩:=hex;have Na:q % (c.C:Int)=((Cv.eZ q c.C:Nat):Int):=Dj eF.out.1;have Xp:=ZkQ Na;obtain⟨k,hk⟩:=Zx9 (Cv.eZ q c.C);have HK:Hid (k<c.C):=(by rw[← hk];exact ZkQ (Cv.ul eF.out.1));rw[hk]at Xp;obtain⟨r',b,st',hp,hI',xI,ou⟩:=HL.out.pick HK.out (by omega);have hL:=HL.out;have nM:=SF HR.out.drew HJ.out mH.out hL.next hL.I (by have:=OQ.out;have:=HKEY.out;omega) HK.out HT.out (by have:=hL.Kw;omega) (by have:=hL.cnt;omega) (by have:=hL.n;omega) (by have:=hL.none;omega) hp;obtain⟨mr,jT,mV⟩:=nM;have KA:=ZkQ mV;have vG:=ZkQ (fun cnt' n' h1 h2=>ou cnt' n' h1 h2 mr jT);have eH:=ZkQ Wl;have R5:=ZkQ (wX hq);clear hq Na hk hp hI' xI ou hL mr jT mV Rq Wl Wj;go_upto_region 9 with fail
    refine wp_region_held_drew (S:=(fun w'=>w'.cell? ⟨B,7,Option.none⟩=some (.slice (some JU) picks.length K2)∧w'.cell? (JU.add i)=some (.int .i64 q)∧w'.cell? ⟨B4,0,Option.none⟩=some (.int .i64 (c.C:Int)))) (by kernel_rfl) ⟨z7,cq,z0⟩ (fun hHeld => ?_);refine wpAnyH_take (i:=0) (oi:=⟨some 48,_,_,_,_,_⟩) (v := ?v0) rfl (by kernel_rfl) (by kernel_rfl) (by kernel_rfl) (fun _ _ _ h=>h) (Or.inl ⟨by rfl,?y0⟩) (by assumption) ?r0
    case y0=>(intro w hSw;(try dsimp only at hSw);go_simp;try with_reducible rfl)
    try simp only[Act.put,ZnK,Zqa,Zxo]
    refine wpAnyH_take (i:=1) (oi:=⟨some 49,_,_,_,_,_⟩) (v := ?v1) rfl (by kernel_rfl) (by kernel_rfl) (by kernel_rfl) (fun _ _ _ h=>h) (Or.inl ⟨by rfl,?y1⟩) (by assumption) ?r1
    case y1=>(intro w hSw;(try dsimp only at hSw);go_simp;try with_reducible rfl)
    try simp only[Act.put,ZnK,Zqa,Zxo]
    refine wpAnyH_take (i:=2) (oi:=⟨some 50,_,_,_,_,_⟩) (v := ?v2) rfl (by kernel_rfl) (by kernel_rfl) (by kernel_rfl) (fun _ _ _ h=>h) (Or.inl ⟨by rfl,?y2⟩) (by assumption) ?r2
    case y2=>(intro w hSw;(try dsimp only at hSw);go_simp;try with_reducible rfl)
    try simp only[Act.put,ZnK,Zqa,Zxo]
    refine wpAnyH_take (i:=3) (oi:=⟨some 51,_,_,_,_,_⟩) (v := ?v3) rfl (by kernel_rfl) (by kernel_rfl) (by kernel_rfl) (fun _ _ _ h=>h) (Or.inl ⟨by rfl,?y3⟩) (by assumption) ?r3
    case y3=>(intro w hSw;(try dsimp only at hSw);go_simp;try with_reducible rfl)
    try simp only[Act.put,ZnK,Zqa,Zxo]
    refine wpAnyH_take (i:=4) (oi:=⟨some 52,_,_,_,_,_⟩) (v := ?v4) rfl (by kernel_rfl) (by kernel_rfl) (by kernel_rfl) (fun _ _ _ h=>h) (Or.inl ⟨by rfl,?y4⟩) (by assumption) ?r4
    case y4=>(intro w hSw;(try dsimp only at hSw);go_simp;try with_reducible rfl)
    try simp only[Act.put,ZnK,Zqa,Zxo]
    refine wpAnyH_take (i:=5) (oi:=⟨some 53,_,_,_,_,_⟩) (v := ?v5) rfl (by kernel_rfl) (by kernel_rfl) (by kernel_rfl) (fun _ _ _ h=>h) (Or.inl ⟨by rfl,?y5⟩) (by assumption) ?r5
    case y5=>(intro w hSw;(try dsimp only at hSw);go_simp;try with_reducible rfl)
    try simp only[Act.put,ZnK,Zqa,Zxo]
    refine wpAnyH_take (i:=6) (oi:=⟨some 54,_,_,_,_,_⟩) (v := ?v6) rfl (by kernel_rfl) (by kernel_rfl) (by kernel_rfl) (fun _ _ _ h=>h) (Or.inl ⟨by rfl,?y6⟩) (by assumption) ?r6
    case y6=>(intro w hSw;(try dsimp only at hSw);go_simp;try with_reducible rfl)
    try simp only[Act.put,ZnK,Zqa,Zxo]
    refine wpAnyH_take (i:=7) (oi:=⟨some 55,_,_,_,_,_⟩) (v := ?v7) rfl (by kernel_rfl) (by kernel_rfl) (by kernel_rfl) (fun _ _ _ h=>h) (Or.inl ⟨by rfl,?y7⟩) (by assumption) ?r7
    case y7=>(intro w hSw;(try dsimp only at hSw);go_simp;try with_reducible rfl)
    try simp only[Act.put,ZnK,Zqa,Zxo]
    refine wpAnyH_ready (rs:=[8]) (by kernel_rfl) (by simp) ?_;refine AllReadyH.cons (o:=⟨some 56,_,_,_,_,_⟩) rfl (fun K hK => ?_) AllReadyH.nil;go_simp;refine(oC q (c.C:Int) (by have:=eF.out;omega) (by have:=eF.out;omega) jh.out _).mono ?_;rintro e w9 ⟨rfl,rfl⟩;rw[Xp.out];refine hK.out _ _ hHeld (fun _ => ?_);clear hK K;try simp only[Act.put,ZnK,Zqa,Zxo]
    refine wpAnyH_ready (rs:=[9]) (by kernel_rfl) (by simp) ?_;refine AllReadyH.cons (o:=⟨some 57,_,_,_,_,_⟩) rfl (fun K hK => ?_) AllReadyH.nil;go_simp;refine KA.out.mono ?_;rintro e w9 ⟨rfl,pv',pb',cnt',n',rO,qP,h9⟩;obtain⟨M9,Ri⟩:=h9.own;have dw:=(PZ Ri).1;have hx7:=(Pv Ri.skip).2.2.2.2.2.2.2;have hxq:w9.cell? (JU.add i)=some (.int .i64 q):=by
     rcases(Src.GG HQ.out Ri).2 with⟨h1,-⟩|⟨a,K',h1,hc⟩
     ·cases h1
     ·simp only[Value.slice.injEq,ZlP]at h1
      obtain⟨rfl,-,-⟩:=h1;exact hc i _ (R5.out)
    refine hK.out _ _ ⟨hx7,hxq,dw⟩ (fun _ => ?_);clear hK K hHeld dw hx7 hxq Ri;try simp only[Act.put,ZnK,Zqa,Zxo]
    refine wpAnyH_done (by kernel_rfl) ?_ _;have H9:=ZkQ h9;have qV:=ZkQ rO;have pW:=ZkQ qP;clear h9 rO qP z0 z7 cq bQ i1 i2;go_wp2_with fail
    rw[show wrap64 ((i:Int)+1)=((i+1:Nat):Int) from ZxD _ (by have:=eH.out;omega)];exact⟨⟨i+1,cnt',n',pv',pb',r',st',rfl,by have:=eH.out;omega,vG.out cnt' n' qV.out pW.out,H9.out⟩,by have:=eH.out;simp[intOf];omega⟩
   ·have i2:¬ (i:Int)<300:=by omega
    clear Wl;have KE:=ZkQ (HL.out.mono (M:=300+0) (by omega));obtain⟨P0,Hl⟩:=Zx9 (Cv.sV c aj r st);have xA:=Cv.lp0 (aj:=aj) (r:=r) (st:=st) eF.out.1;rw[Hl]at xA;have lJ:=ZkQ xA;have Ep:Hid (P0≤Cv.PJ c * 120):=(by rw[← Hl];exact ZkQ HL.out.phi);clear Hl xA HL Wj Rq R4;go_wp2_with fail
    clear z0 z7 bQ
    go_loopw [9,10] (fun dv kv wr=>∃ (idle j u cnt n:Nat) (pv:Value) (pb:List (Nat×Obj)) (r:Cv.Rn) (st:Cv.St),dv = .int .i64 (idle:Int)∧kv = .int .i64 (j:Int)∧j≤100000∧zk c mn cp aj (300+j) r st cnt n∧Cv.LP c aj P0 r st j idle u∧bE W br bc b0 b1 bt c mn cp (.slice A1 aj.length K1) r true cnt n pv pb (EY B4 c mn cp::lu B a0 a1 a2 a3 a4 key (.slice A1 aj.length K1) (.slice A2 picks.length K2)::m) wr) (fun dv kv _=>100001 - (intOf kv).toNat)
    case atStart=>exact⟨0,0,0,_,_,_,_,_,_,rfl,rfl,by omega,KE.out,lJ.out,HR.out⟩
    case round =>
     clear KE lJ HR;obtain⟨idle,j,u,cnt,n,pv,pb,r,st,rfl,rfl,DZ,hL,MV,hR⟩:=hrel;have HL:=ZkQ hL;have HR:=ZkQ hR;have lJ:=ZkQ MV;obtain⟨⟨-,-,-,-,-,-,-,-,-,-,-,bQ⟩,-,-⟩:=hR.box;obtain⟨M1,hM1⟩:=hR.own;obtain⟨z0,-⟩:=PZ hM1;clear hL hR hM1 MV;by_cases hid:idle<c.C
     ·have qM:j<100000:=lJ.out.ends eF.out.2.1 eF.out.2.2.2.1 eF.out.2.2.2.2.2 Ep.out hid
      have i1:(j:Int)<100000:=(by omega);have i2:(idle:Int)<(c.C:Int):=(by omega);have i3:(c.C:Int)≠0:=(by have:=eF.out;omega);have i4:(j:Int) % (c.C:Int)=((j % c.C:Nat):Int):=(by omega);have i5:(j:Int).tmod (c.C:Int)=((j % c.C:Nat):Int):=(by rw[Int.tmod_eq_emod_of_nonneg (by omega)];omega);obtain⟨k,hk⟩:=Zx9 (j % c.C);have HK:Hid (k<c.C):=(by rw[← hk];exact ZkQ (Nat.mod_lt _ eF.out.1));rw[hk]at i4 i5;obtain⟨r',b,st',hp,hI',xI,ou⟩:=HL.out.pick HK.out (by omega);have hL:=HL.out;have nM:=SF HR.out HJ.out mH.out hL.next hL.I (by have:=OQ.out;have:=HKEY.out;omega) HK.out HT.out (by have:=hL.Kw;omega) (by have:=hL.cnt;omega) (by have:=hL.n;omega) (by have:=hL.none;omega) hp;obtain⟨mr,jT,mV⟩:=nM;have KA:=ZkQ mV;have vG:=ZkQ (fun cnt' n' h1 h2=>ou cnt' n' h1 h2 mr jT);have wK:=ZkQ qM;have RJ:=ZkQ hid;rw[← hk]at xI;have HST:=ZkQ (lJ.out.step hL.I hI' hid xI);clear hk hp hI' xI ou hL mr jT mV hid qM DZ;go_wp2_with fail
      refine KA.out.mono ?_;rintro e w9 ⟨rfl,pv',pb',cnt',n',rO,qP,h9⟩;have H9:=ZkQ h9;have qV:=ZkQ rO;have pW:=ZkQ qP;clear h9 rO qP z0 bQ i1 i2 i3 i4 i5;cases b with
      |true =>
       go_wp2_with fail
       rw[show wrap64 ((j:Int)+1)=((j+1:Nat):Int) from ZxD _ (by have:=wK.out;omega)];obtain⟨u',AL⟩:=HST.out;exact⟨⟨0,j+1,u',cnt',n',pv',pb',r',st',rfl,rfl,by have:=wK.out;omega,vG.out cnt' n' qV.out pW.out,AL,H9.out⟩,by have:=wK.out;simp[intOf];omega⟩
      |false =>
       go_wp2_with fail
       rw[show wrap64 ((j:Int)+1)=((j+1:Nat):Int) from ZxD _ (by have:=wK.out;omega)];rw[show wrap64 ((idle:Int)+1)=((idle+1:Nat):Int) from ZxD _ (by have:=RJ.out;have:=eF.out;omega)];obtain⟨u',AL⟩:=HST.out;exact⟨⟨idle+1,j+1,u',cnt',n',pv',pb',r',st',rfl,rfl,by have:=wK.out;omega,vG.out cnt' n' qV.out pW.out,AL,H9.out⟩,by have:=wK.out;simp[intOf];omega⟩
     ·have yY:=ZkQ (lJ.out.done eF.out.1 (by omega))
      have i2:¬ (idle:Int)<(c.C:Int):=(by omega);have g1:decide (c.C≤idle)=true:=Zx8 (by omega);have g2:decide ((c.C:Int)≤(idle:Int))=true:=Zx8 (by omega);have KC:=ZkQ DZ;by_cases qM:j<100000
      ·have i1:(j:Int)<100000:=by omega
       clear hid qM DZ;go_wp2_with fail
       go_quiet (fail)
       have H9:=ZkQ (HR.out.drewN nq);clear HR bQ z0;generalize wr.drewN nq=w9 at H9 ⊢;go_wp2_with fail
       go_ret2
       exact⟨br,rfl,⟨bc,b0,b1,bt,cnt,n,300+j,pv,pb,r,st,HL.out,by have:=KC.out;omega,yY.out,H9.out.sub ((ZxC _ _).trans (ZxC _ _))⟩⟩
      ·have i1:¬ (j:Int)<100000:=by omega
       clear hid qM DZ;go_wp2_with fail
       go_quiet (fail)
       have H9:=ZkQ (HR.out.drewN nq);clear HR bQ z0;generalize wr.drewN nq=w9 at H9 ⊢;go_wp2_with fail
       go_ret2
       exact⟨br,rfl,⟨bc,b0,b1,bt,cnt,n,300+j,pv,pb,r,st,HL.out,by have:=KC.out;omega,yY.out,H9.out.sub ((ZxC _ _).trans (ZxC _ _))⟩⟩
  ·have i1:¬ (i:Int)<(picks.length:Int):=by omega
   have KE:=ZkQ (HL.out.mono (M:=300+0) (by omega));obtain⟨P0,Hl⟩:=Zx9 (Cv.sV c aj r st);have xA:=Cv.lp0 (aj:=aj) (r:=r) (st:=st) eF.out.1;rw[Hl]at xA;have lJ:=ZkQ xA;have Ep:Hid (P0≤Cv.PJ c * 120):=(by rw[← Hl];exact ZkQ HL.out.phi);clear Hl xA HL Wj Rq R4;go_wp2_with fail
   clear z0 z7 bQ
   go_loopw [9,10] (fun dv kv wr=>∃ (idle j u cnt n:Nat) (pv:Value) (pb:List (Nat×Obj)) (r:Cv.Rn) (st:Cv.St),dv = .int .i64 (idle:Int)∧kv = .int .i64 (j:Int)∧j≤100000∧zk c mn cp aj (300+j) r st cnt n∧Cv.LP c aj P0 r st j idle u∧bE W br bc b0 b1 bt c mn cp (.slice A1 aj.length K1) r true cnt n pv pb (EY B4 c mn cp::lu B a0 a1 a2 a3 a4 key (.slice A1 aj.length K1) (.slice A2 picks.length K2)::m) wr) (fun dv kv _=>100001 - (intOf kv).toNat)
   case atStart=>exact⟨0,0,0,_,_,_,_,_,_,rfl,rfl,by omega,KE.out,lJ.out,HR.out⟩
   case round =>
    clear KE lJ HR;obtain⟨idle,j,u,cnt,n,pv,pb,r,st,rfl,rfl,DZ,hL,MV,hR⟩:=hrel;have HL:=ZkQ hL;have HR:=ZkQ hR;have lJ:=ZkQ MV;obtain⟨⟨-,-,-,-,-,-,-,-,-,-,-,bQ⟩,-,-⟩:=hR.box;obtain⟨M1,hM1⟩:=hR.own;obtain⟨z0,-⟩:=PZ hM1;clear hL hR hM1 MV;by_cases hid:idle<c.C
    ·have qM:j<100000:=lJ.out.ends eF.out.2.1 eF.out.2.2.2.1 eF.out.2.2.2.2.2 Ep.out hid
     have i1:(j:Int)<100000:=(by omega);have i2:(idle:Int)<(c.C:Int):=(by omega);have i3:(c.C:Int)≠0:=(by have:=eF.out;omega);have i4:(j:Int) % (c.C:Int)=((j % c.C:Nat):Int):=(by omega);have i5:(j:Int).tmod (c.C:Int)=((j % c.C:Nat):Int):=(by rw[Int.tmod_eq_emod_of_nonneg (by omega)];omega);obtain⟨k,hk⟩:=Zx9 (j % c.C);have HK:Hid (k<c.C):=(by rw[← hk];exact ZkQ (Nat.mod_lt _ eF.out.1));rw[hk]at i4 i5;obtain⟨r',b,st',hp,hI',xI,ou⟩:=HL.out.pick HK.out (by omega);have hL:=HL.out;have nM:=SF HR.out HJ.out mH.out hL.next hL.I (by have:=OQ.out;have:=HKEY.out;omega) HK.out HT.out (by have:=hL.Kw;omega) (by have:=hL.cnt;omega) (by have:=hL.n;omega) (by have:=hL.none;omega) hp;obtain⟨mr,jT,mV⟩:=nM;have KA:=ZkQ mV;have vG:=ZkQ (fun cnt' n' h1 h2=>ou cnt' n' h1 h2 mr jT);have wK:=ZkQ qM;have RJ:=ZkQ hid;rw[← hk]at xI;have HST:=ZkQ (lJ.out.step hL.I hI' hid xI);clear hk hp hI' xI ou hL mr jT mV hid qM DZ;go_wp2_with fail
     refine KA.out.mono ?_;rintro e w9 ⟨rfl,pv',pb',cnt',n',rO,qP,h9⟩;have H9:=ZkQ h9;have qV:=ZkQ rO;have pW:=ZkQ qP;clear h9 rO qP z0 bQ i1 i2 i3 i4 i5;cases b with
     |true =>
      go_wp2_with fail
      rw[show wrap64 ((j:Int)+1)=((j+1:Nat):Int) from ZxD _ (by have:=wK.out;omega)];obtain⟨u',AL⟩:=HST.out;exact⟨⟨0,j+1,u',cnt',n',pv',pb',r',st',rfl,rfl,by have:=wK.out;omega,vG.out cnt' n' qV.out pW.out,AL,H9.out⟩,by have:=wK.out;simp[intOf];omega⟩
     |false =>
      go_wp2_with fail
      rw[show wrap64 ((j:Int)+1)=((j+1:Nat):Int) from ZxD _ (by have:=wK.out;omega)];rw[show wrap64 ((idle:Int)+1)=((idle+1:Nat):Int) from ZxD _ (by have:=RJ.out;have:=eF.out;omega)];obtain⟨u',AL⟩:=HST.out;exact⟨⟨idle+1,j+1,u',cnt',n',pv',pb',r',st',rfl,rfl,by have:=wK.out;omega,vG.out cnt' n' qV.out pW.out,AL,H9.out⟩,by have:=wK.out;simp[intOf];omega⟩
    ·have yY:=ZkQ (lJ.out.done eF.out.1 (by omega))
     have i2:¬ (idle:Int)<(c.C:Int):=(by omega);have g1:decide (c.C≤idle)=true:=Zx8 (by omega);have g2:decide ((c.C:Int)≤(idle:Int))=true:=Zx8 (by omega);have KC:=ZkQ DZ;by_cases qM:j<100000
     ·have i1:(j:Int)<100000:=by omega
      clear hid qM DZ;go_wp2_with fail
      go_quiet (fail)
      have H9:=ZkQ (HR.out.drewN nq);clear HR bQ z0;generalize wr.drewN nq=w9 at H9 ⊢;go_wp2_with fail
      go_ret2
      exact⟨br,rfl,⟨bc,b0,b1,bt,cnt,n,300+j,pv,pb,r,st,HL.out,by have:=KC.out;omega,yY.out,H9.out.sub ((ZxC _ _).trans (ZxC _ _))⟩⟩
     ·have i1:¬ (j:Int)<100000:=by omega
      clear hid qM DZ;go_wp2_with fail
      go_quiet (fail)
      have H9:=ZkQ (HR.out.drewN nq);clear HR bQ z0;generalize wr.drewN nq=w9 at H9 ⊢;go_wp2_with fail
      go_ret2
      exact⟨br,rfl,⟨bc,b0,b1,bt,cnt,n,300+j,pv,pb,r,st,HL.out,by have:=KC.out;omega,yY.out,H9.out.sub ((ZxC _ _).trans (ZxC _ _))⟩⟩
end
end Cw
end Go.Proofs.YtfcpdlbkmkhhcaaGreatDoor
