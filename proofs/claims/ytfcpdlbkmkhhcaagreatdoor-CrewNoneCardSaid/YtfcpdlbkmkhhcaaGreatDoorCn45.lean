/-
  Texts of this claim, joined. No condition.
-/
import Derived.Test.YtfcpdlbkmkhhcaaGreatDoorCn44
import Derived.Test.YtfcpdlbkmkhhcaaGreatDoorCn42
import Derived.Test.YtfcpdlbkmkhhcaaGreatDoorCn19
import Derived.Deep.RegionHeld3
import Derived.Test.YtfcpdlbkmkhhcaaGreatDoorCn38
namespace Go.Proofs.YtfcpdlbkmkhhcaaGreatDoor.Cw
open Go Mem See
open Go.RowKit
section
variable {W w w':World}{m l:List (Nat×Obj)}{br bc b0 b1 bt:Nat}{c:Ch}{mn cp cnt n k N:Nat}{r r':Cv.Rn}{jobs:List Int}{st st':Cv.St}
structure LvS (c:Ch)(mn cp:Nat)(jobs:List Int)(N:Nat)(r:Cv.Rn)(st:Cv.St)(cnt n:Nat):Prop where
 I:Cv.RI c mn cp r st
 next:r.next≤120
 none:r.none≤N
 stn:st.n≤N
 cnt:cnt≤N
 n:n≤N
 phi:Cv.Zkj c jobs r st≤Cv.PJ c * 120
 ra:Cv.ZmK c jobs→Cv.RA c jobs r st
theorem LvS.pick (h:LvS c mn cp jobs N r st cnt n)(hk:k<c.C)(hN:N<1000000000):∃ r' b st',Cv.ZfW c mn cp jobs r k=some (r',b)∧Cv.RI c mn cp r' st'∧Cv.ZeQ c jobs r st k r' st' b∧∀ cnt' n',cnt'≤cnt+1→n'≤n+1→r'.next≤120→r'.none≤r.none+1→LvS c mn cp jobs (N+1) r' st' cnt' n':=by
 obtain ⟨r',b,st',h1,h2,h3,h4,h5⟩:=Cv.Zrc (jobs:=jobs) h.I hk (by have:=h.stn; omega)
 refine ⟨r',b,st',h1,h2,h4,fun cnt' n' a1 a2 a3 a4=>⟨h2,a3,?_,?_,?_,?_,Nat.le_trans h4.le h.phi,fun T=>h5 T (h.ra T)⟩⟩
 ·have:=h.none; omega
 ·have:=h.stn; omega
 ·have:=h.cnt; omega
 ·have:=h.n; omega
theorem LvS.mono {M:Nat}(h:LvS c mn cp jobs N r st cnt n)(hM:N≤M):LvS c mn cp jobs M r st cnt n:=⟨h.I,h.next,Nat.le_trans h.none hM,Nat.le_trans h.stn hM,Nat.le_trans h.cnt hM,Nat.le_trans h.n hM,h.phi,h.ra⟩
theorem ZoE {C:Nat}:fOf (fun _=>Option.none) C=fun _=>Option.none:=by
 funext j
 unfold fOf
 split <;> rfl
theorem Zhe {ops:Array Oper}{rest:List Oper}{o:Oper}{a:Act}{Q:Exit→Act→World→Prop}{A:Option Addr}{nj kj:Nat}(hg:o.guard=Option.none)(x0 x1 x2 x7:Operand)(ho:o.op = .build 35 #[(0,x0),(1,x1),(2,x2),(7,x7)])
 (h0:a.eval x0 = .pointer (some ⟨bc,0,Option.none⟩)) (h1:a.eval x1=chW c mn cp) (h2:a.eval x2 = .slice A nj kj) (h7:a.eval x7 = .bool true)
 (hK:wpList Tryz.prog ops Q rest (a.put o.dst (.agg (Zg5 bc c mn cp (.slice A nj kj) 0 (fun _=>false) (.slice Option.none 0 0) 0 true).toArray)) w):wpList Tryz.prog ops Q (o::rest) a w:=by
 refine wpList_plain hg fun K hK' => ?_
 have hrun:=ZjS (bc:=bc) (c:=c) (mn:=mn) (cp:=cp) (A:=A) (nj:=nj) (kj:=kj) w
 unfold Oper.wp execOp
 simp only [ho,List.map_toArray,List.map_cons,List.map_nil,h0,h1,h2,h7,Sem.run_bind,Sem.run_pure,Result.andThen_ok,hrun]
 exact hK' _ _ hK
theorem ZiL {ops:Array Oper}{rest:List Oper}{o:Oper}{a:Act}{Q:Exit→Act→World→Prop}{A:Option Addr}{nj kj:Nat}(hg:o.guard=Option.none)(x0:Operand)(ho:o.op = .box 35 x0)
 (h0:a.eval x0 = .agg (Zg5 bc c mn cp (.slice A nj kj) 0 (fun _=>false) (.slice Option.none 0 0) 0 true).toArray) (hO:Own W m w)
 (hK:∀ br w',Own W (Zep br bc c mn cp (.slice A nj kj) 0 (fun _=>false) (.slice Option.none 0 0) 0 true::m) w'→wpList Tryz.prog ops Q rest (a.put o.dst (.pointer (some ⟨br,0,Option.none⟩))) w'):wpList Tryz.prog ops Q (o::rest) a w:=by
 refine wpList_plain hg fun K hK' => ?_
 have hrun:=Zmy (bc:=bc) (c:=c) (mn:=mn) (cp:=cp) (A:=A) (nj:=nj) (kj:=kj) w
 unfold Oper.wp execOp
 simp only [ho,h0,Sem.run_bind,Sem.run_pure,Result.andThen_ok,hrun]
 exact hK' _ _ (hK _ _ (hO.new _))
end
end Go.Proofs.YtfcpdlbkmkhhcaaGreatDoor.Cw

namespace Go.Proofs.YtfcpdlbkmkhhcaaGreatDoor.Cw
open Go Mem See
open Go.RowKit
attribute [local go_sem ↓] Go.wp_at_zero Go.wp_at_succ
section
variable {W w:World}{m:List (Nat×Obj)}{a0 a1 a2 a3 a4:Int}{key:Nat}
def mkC (a0 a1 a2:Int)(key:Nat):Ch:=⟨1+Cv.brg a0 5,1+Cv.brg a1 8,1+Cv.brg a2 8,key⟩
theorem s6 {B:Nat}{l:List (Nat×Obj)}{v:World}(h:Own W ((B,.cells #[.int .i64 a0,.int .i64 a1,.int .i64 a2,.int .i64 a3,.int .i64 a4,.int .u64 (key:Int)] 24)::l) v):v.cell? ⟨B,0,Option.none⟩=some (.int .i64 a0)∧v.cell? ⟨B,1,Option.none⟩=some (.int .i64 a1)∧v.cell? ⟨B,2,Option.none⟩=some (.int .i64 a2)∧v.cell? ⟨B,3,Option.none⟩=some (.int .i64 a3)∧v.cell? ⟨B,4,Option.none⟩=some (.int .i64 a4)∧v.cell? ⟨B,5,Option.none⟩=some (.int .u64 (key:Int)):=⟨h.cell List.mem_cons_self 0,h.cell List.mem_cons_self 1,h.cell List.mem_cons_self 2,h.cell List.mem_cons_self 3,h.cell List.mem_cons_self 4,h.cell List.mem_cons_self 5⟩
set_option maxRecDepth 100000 in
set_option maxHeartbeats 40000000 in
theorem Zjx (h:Own W m w)(w0:(Lit.int .i64 a0).wf=true)(w1:(Lit.int .i64 a1).wf=true)(w2:(Lit.int .i64 a2).wf=true)(w3:(Lit.int .i64 a3).wf=true)(w4:(Lit.int .i64 a4).wf=true) :
 Calls Tryz.prog 7 #[.agg #[.int .i64 a0,.int .i64 a1,.int .i64 a2,.int .i64 a3,.int .i64 a4,.int .u64 (key:Int)]] w fun e w'=>e = .returned (chW (mkC a0 a1 a2 key) (Cv.brg a3 3) (Cv.brg a4 3))∧Own W m w':=by
 have h1:=h.new (.cells #[.int .i64 a0,.int .i64 a1,.int .i64 a2,.int .i64 a3,.int .i64 a4,.int .u64 (key:Int)] 24)
 have h2:=h1.new (.cells #[.int .i64 0,.int .i64 0,.int .i64 0,.int .i64 0,.int .i64 0,.int .u64 0] 24)
 rw [World.size_alloc] at h2
 obtain ⟨B,hB⟩:∃ B,w.heap.size=B:=⟨_,rfl⟩
 rw [hB] at h2
 obtain ⟨wa,hwa⟩:∃ wa,(w.alloc (.cells #[.int .i64 a0,.int .i64 a1,.int .i64 a2,.int .i64 a3,.int .i64 a4,.int .u64 (key:Int)] 24)).alloc (.cells #[.int .i64 0,.int .i64 0,.int .i64 0,.int .i64 0,.int .i64 0,.int .u64 0] 24)=wa:=⟨_,rfl⟩
 rw [hwa] at h2
 have HO:=Lib.hid h2
 have W0:=Lib.hid w0
 have W1:=Lib.hid w1
 have W2:=Lib.hid w2
 have W3:=Lib.hid w3
 have W4:=Lib.hid w4
 clear h h1 h2 w0 w1 w2 w3 w4
 obtain ⟨n0,hn0⟩:∃ n0,Cv.brg a0 5=n0:=⟨_,rfl⟩
 obtain ⟨n1,hn1⟩:∃ n1,Cv.brg a1 8=n1:=⟨_,rfl⟩
 obtain ⟨n2,hn2⟩:∃ n2,Cv.brg a2 8=n2:=⟨_,rfl⟩
 obtain ⟨n3,hn3⟩:∃ n3,Cv.brg a3 3=n3:=⟨_,rfl⟩
 obtain ⟨n4,hn4⟩:∃ n4,Cv.brg a4 3=n4:=⟨_,rfl⟩
 have E0:Hid (a0 % 5=(n0:Int)):=by rw [← hn0]; exact Lib.hid (ZeV (n:=5) (by omega))
 have E1:Hid (a1 % 8=(n1:Int)):=by rw [← hn1]; exact Lib.hid (ZeV (n:=8) (by omega))
 have E2:Hid (a2 % 8=(n2:Int)):=by rw [← hn2]; exact Lib.hid (ZeV (n:=8) (by omega))
 have E3:Hid (a3 % 3=(n3:Int)):=by rw [← hn3]; exact Lib.hid (ZeV (n:=3) (by omega))
 have E4:Hid (a4 % 3=(n4:Int)):=by rw [← hn4]; exact Lib.hid (ZeV (n:=3) (by omega))
 have b0:n0<5:=hn0 ▸ Cv.ZcQ (by omega)
 have b1:n1<8:=hn1 ▸ Cv.ZcQ (by omega)
 have b2:n2<8:=hn2 ▸ Cv.ZcQ (by omega)
 have e0:IntKind.i64.wrap (1+(n0:Int))=((1+n0:Nat):Int):=by rw [Ex.Zbe (by omega) (by omega)]; omega
 have e1:IntKind.i64.wrap (1+(n1:Int))=((1+n1:Nat):Int):=by rw [Ex.Zbe (by omega) (by omega)]; omega
 have e2:IntKind.i64.wrap (1+(n2:Int))=((1+n2:Nat):Int):=by rw [Ex.Zbe (by omega) (by omega)]; omega
 have HR:Hid (chW (mkC a0 a1 a2 key) (Cv.brg a3 3) (Cv.brg a4 3) = .agg #[.int .i64 ((1+n0:Nat):Int),.int .i64 ((1+n1:Nat):Int),.int .i64 ((1+n2:Nat):Int),.int .i64 (n3:Int),.int .i64 (n4:Int),.int .u64 (key:Int)]):=by
  unfold mkC chW
  rw [hn0,hn1,hn2,hn3,hn4]
  exact Lib.hid rfl
 clear hn0 hn1 hn2 hn3 hn4 b0 b1 b2
 have c0:wa.cell? ⟨B,0,Option.none⟩=some (.int .i64 a0):=HO.out.skip.cell List.mem_cons_self 0
 have c1:wa.cell? ⟨B,1,Option.none⟩=some (.int .i64 a1):=HO.out.skip.cell List.mem_cons_self 1
 have c2:wa.cell? ⟨B,2,Option.none⟩=some (.int .i64 a2):=HO.out.skip.cell List.mem_cons_self 2
 have c3:wa.cell? ⟨B,3,Option.none⟩=some (.int .i64 a3):=HO.out.skip.cell List.mem_cons_self 3
 have c4:wa.cell? ⟨B,4,Option.none⟩=some (.int .i64 a4):=HO.out.skip.cell List.mem_cons_self 4
 have c5:wa.cell? ⟨B,5,Option.none⟩=some (.int .u64 (key:Int)):=HO.out.skip.cell List.mem_cons_self 5
 rw [HR.out]
 go_enter Tryz.func7,Tryz.ntmps7
 go_wp2_with fail
 refine wp_region_held_drew (S:=(fun w'=>w'.cell? ⟨B,0,Option.none⟩=some (.int .i64 a0)∧w'.cell? ⟨B,1,Option.none⟩=some (.int .i64 a1)∧w'.cell? ⟨B,2,Option.none⟩=some (.int .i64 a2)∧w'.cell? ⟨B,3,Option.none⟩=some (.int .i64 a3)∧w'.cell? ⟨B,4,Option.none⟩=some (.int .i64 a4)∧w'.cell? ⟨B,5,Option.none⟩=some (.int .u64 (key:Int)))) (by kernel_rfl) (s6 HO.out.drew.skip) (fun hHeld => ?_)
 clear hwa hB c0 c1 c2 c3 c4 c5
 refine wpAnyH_take (i:=0) (oi:=⟨some 3,_,_,_,_,_⟩) (v := ?v0) rfl (by kernel_rfl) (by kernel_rfl) (by kernel_rfl) (fun _ _ _ h=>h) (Or.inl ⟨by rfl,?y0⟩) (by assumption) ?r0
 case y0=>(intro w hSw; (try dsimp only at hSw); go_simp; try with_reducible rfl)
 try simp only [Act.put,List.setIfInBounds_toArray,List.set_cons_zero,List.set_cons_succ]
 refine wpAnyH_take (i:=1) (oi:=⟨some 4,_,_,_,_,_⟩) (v := ?v1) rfl (by kernel_rfl) (by kernel_rfl) (by kernel_rfl) (fun _ _ _ h=>h) (Or.inl ⟨by rfl,?y1⟩) (by assumption) ?r1
 case y1=>(intro w hSw; (try dsimp only at hSw); go_simp; try with_reducible rfl)
 try simp only [Act.put,List.setIfInBounds_toArray,List.set_cons_zero,List.set_cons_succ]
 refine wpAnyH_take (i:=4) (oi:=⟨some 7,_,_,_,_,_⟩) (v := ?v4) rfl (by kernel_rfl) (by kernel_rfl) (by kernel_rfl) (fun _ _ _ h=>h) (Or.inl ⟨by rfl,?y4⟩) (by assumption) ?r4
 case y4=>(intro w hSw; (try dsimp only at hSw); go_simp; try with_reducible rfl)
 try simp only [Act.put,List.setIfInBounds_toArray,List.set_cons_zero,List.set_cons_succ]
 refine wpAnyH_take (i:=5) (oi:=⟨some 8,_,_,_,_,_⟩) (v := ?v5) rfl (by kernel_rfl) (by kernel_rfl) (by kernel_rfl) (fun _ _ _ h=>h) (Or.inl ⟨by rfl,?y5⟩) (by assumption) ?r5
 case y5=>(intro w hSw; (try dsimp only at hSw); go_simp; try with_reducible rfl)
 try simp only [Act.put,List.setIfInBounds_toArray,List.set_cons_zero,List.set_cons_succ]
 refine wpAnyH_take (i:=8) (oi:=⟨some 11,_,_,_,_,_⟩) (v := ?v8) rfl (by kernel_rfl) (by kernel_rfl) (by kernel_rfl) (fun _ _ _ h=>h) (Or.inl ⟨by rfl,?y8⟩) (by assumption) ?r8
 case y8=>(intro w hSw; (try dsimp only at hSw); go_simp; try with_reducible rfl)
 try simp only [Act.put,List.setIfInBounds_toArray,List.set_cons_zero,List.set_cons_succ]
 refine wpAnyH_take (i:=9) (oi:=⟨some 12,_,_,_,_,_⟩) (v := ?v9) rfl (by kernel_rfl) (by kernel_rfl) (by kernel_rfl) (fun _ _ _ h=>h) (Or.inl ⟨by rfl,?y9⟩) (by assumption) ?r9
 case y9=>(intro w hSw; (try dsimp only at hSw); go_simp; try with_reducible rfl)
 try simp only [Act.put,List.setIfInBounds_toArray,List.set_cons_zero,List.set_cons_succ]
 refine wpAnyH_take (i:=12) (oi:=⟨some 15,_,_,_,_,_⟩) (v := ?v12) rfl (by kernel_rfl) (by kernel_rfl) (by kernel_rfl) (fun _ _ _ h=>h) (Or.inl ⟨by rfl,?y12⟩) (by assumption) ?r12
 case y12=>(intro w hSw; (try dsimp only at hSw); go_simp; try with_reducible rfl)
 try simp only [Act.put,List.setIfInBounds_toArray,List.set_cons_zero,List.set_cons_succ]
 refine wpAnyH_take (i:=13) (oi:=⟨some 16,_,_,_,_,_⟩) (v := ?v13) rfl (by kernel_rfl) (by kernel_rfl) (by kernel_rfl) (fun _ _ _ h=>h) (Or.inl ⟨by rfl,?y13⟩) (by assumption) ?r13
 case y13=>(intro w hSw; (try dsimp only at hSw); go_simp; try with_reducible rfl)
 try simp only [Act.put,List.setIfInBounds_toArray,List.set_cons_zero,List.set_cons_succ]
 refine wpAnyH_take (i:=15) (oi:=⟨some 18,_,_,_,_,_⟩) (v := ?v15) rfl (by kernel_rfl) (by kernel_rfl) (by kernel_rfl) (fun _ _ _ h=>h) (Or.inl ⟨by rfl,?y15⟩) (by assumption) ?r15
 case y15=>(intro w hSw; (try dsimp only at hSw); go_simp; try with_reducible rfl)
 try simp only [Act.put,List.setIfInBounds_toArray,List.set_cons_zero,List.set_cons_succ]
 refine wpAnyH_take (i:=16) (oi:=⟨some 19,_,_,_,_,_⟩) (v := ?v16) rfl (by kernel_rfl) (by kernel_rfl) (by kernel_rfl) (fun _ _ _ h=>h) (Or.inl ⟨by rfl,?y16⟩) (by assumption) ?r16
 case y16=>(intro w hSw; (try dsimp only at hSw); go_simp; try with_reducible rfl)
 try simp only [Act.put,List.setIfInBounds_toArray,List.set_cons_zero,List.set_cons_succ]
 refine wpAnyH_take (i:=18) (oi:=⟨some 21,_,_,_,_,_⟩) (v := ?v18) rfl (by kernel_rfl) (by kernel_rfl) (by kernel_rfl) (fun _ _ _ h=>h) (Or.inl ⟨by rfl,?y18⟩) (by assumption) ?r18
 case y18=>(intro w hSw; (try dsimp only at hSw); go_simp; try with_reducible rfl)
 try simp only [Act.put,List.setIfInBounds_toArray,List.set_cons_zero,List.set_cons_succ]
 refine wpAnyH_take (i:=19) (oi:=⟨some 22,_,_,_,_,_⟩) (v := ?v19) rfl (by kernel_rfl) (by kernel_rfl) (by kernel_rfl) (fun _ _ _ h=>h) (Or.inl ⟨by rfl,?y19⟩) (by assumption) ?r19
 case y19=>(intro w hSw; (try dsimp only at hSw); go_simp; try with_reducible rfl)
 try simp only [Act.put,List.setIfInBounds_toArray,List.set_cons_zero,List.set_cons_succ]
 refine wpAnyH_ready (rs:=[2]) (by kernel_rfl) (by simp) ?_
 refine AllReadyH.cons (o:=⟨some 5,_,_,_,_,_⟩) rfl (fun K hK => ?_) AllReadyH.nil
 go_simp
 refine (ZaC a0 5 (by omega) (by omega) W0.out _).mono ?_
 rintro e w9 ⟨rfl,rfl⟩
 rw [E0.out]
 refine hK.out _ _ hHeld (fun _ => ?_)
 clear hK K
 try simp only [Act.put,List.setIfInBounds_toArray,List.set_cons_zero,List.set_cons_succ]
 refine wpAnyH_take (i:=3) (oi:=⟨some 6,_,_,_,_,_⟩) (v := ?v3) rfl (by kernel_rfl) (by kernel_rfl) (by kernel_rfl) (fun _ _ _ h=>h) (Or.inl ⟨by rfl,?y3⟩) (by assumption) ?r3
 case y3=>(intro w hSw; (try dsimp only at hSw); go_simp; try with_reducible rfl)
 try simp only [Act.put,List.setIfInBounds_toArray,List.set_cons_zero,List.set_cons_succ]
 refine wpAnyH_ready (rs:=[6]) (by kernel_rfl) (by simp) ?_
 refine AllReadyH.cons (o:=⟨some 9,_,_,_,_,_⟩) rfl (fun K hK => ?_) AllReadyH.nil
 go_simp
 refine (ZaC a1 8 (by omega) (by omega) W1.out _).mono ?_
 rintro e w9 ⟨rfl,rfl⟩
 rw [E1.out]
 refine hK.out _ _ hHeld (fun _ => ?_)
 clear hK K
 try simp only [Act.put,List.setIfInBounds_toArray,List.set_cons_zero,List.set_cons_succ]
 refine wpAnyH_take (i:=7) (oi:=⟨some 10,_,_,_,_,_⟩) (v := ?v7) rfl (by kernel_rfl) (by kernel_rfl) (by kernel_rfl) (fun _ _ _ h=>h) (Or.inl ⟨by rfl,?y7⟩) (by assumption) ?r7
 case y7=>(intro w hSw; (try dsimp only at hSw); go_simp; try with_reducible rfl)
 try simp only [Act.put,List.setIfInBounds_toArray,List.set_cons_zero,List.set_cons_succ]
 refine wpAnyH_ready (rs:=[10]) (by kernel_rfl) (by simp) ?_
 refine AllReadyH.cons (o:=⟨some 13,_,_,_,_,_⟩) rfl (fun K hK => ?_) AllReadyH.nil
 go_simp
 refine (ZaC a2 8 (by omega) (by omega) W2.out _).mono ?_
 rintro e w9 ⟨rfl,rfl⟩
 rw [E2.out]
 refine hK.out _ _ hHeld (fun _ => ?_)
 clear hK K
 try simp only [Act.put,List.setIfInBounds_toArray,List.set_cons_zero,List.set_cons_succ]
 refine wpAnyH_take (i:=11) (oi:=⟨some 14,_,_,_,_,_⟩) (v := ?v11) rfl (by kernel_rfl) (by kernel_rfl) (by kernel_rfl) (fun _ _ _ h=>h) (Or.inl ⟨by rfl,?y11⟩) (by assumption) ?r11
 case y11=>(intro w hSw; (try dsimp only at hSw); go_simp; try with_reducible rfl)
 try simp only [Act.put,List.setIfInBounds_toArray,List.set_cons_zero,List.set_cons_succ]
 refine wpAnyH_ready (rs:=[14]) (by kernel_rfl) (by simp) ?_
 refine AllReadyH.cons (o:=⟨some 17,_,_,_,_,_⟩) rfl (fun K hK => ?_) AllReadyH.nil
 go_simp
 refine (ZaC a3 3 (by omega) (by omega) W3.out _).mono ?_
 rintro e w9 ⟨rfl,rfl⟩
 rw [E3.out]
 refine hK.out _ _ hHeld (fun _ => ?_)
 clear hK K
 try simp only [Act.put,List.setIfInBounds_toArray,List.set_cons_zero,List.set_cons_succ]
 refine wpAnyH_ready (rs:=[17]) (by kernel_rfl) (by simp) ?_
 refine AllReadyH.cons (o:=⟨some 20,_,_,_,_,_⟩) rfl (fun K hK => ?_) AllReadyH.nil
 go_simp
 refine (ZaC a4 3 (by omega) (by omega) W4.out _).mono ?_
 rintro e w9 ⟨rfl,rfl⟩
 rw [E4.out]
 refine hK.out _ _ hHeld (fun _ => ?_)
 clear hK K
 try simp only [Act.put,List.setIfInBounds_toArray,List.set_cons_zero,List.set_cons_succ]
 refine wpAnyH_take (i:=20) (oi:=⟨some 23,_,_,_,_,_⟩) (v := ?v20) rfl (by kernel_rfl) (by kernel_rfl) (by kernel_rfl) (fun _ _ _ h=>h) (Or.inl ⟨by rfl,?y20⟩) (by assumption) ?r20
 case y20=>(intro w hSw; (try dsimp only at hSw); go_simp; try with_reducible rfl)
 try simp only [Act.put,List.setIfInBounds_toArray,List.set_cons_zero,List.set_cons_succ]
 refine wpAnyH_ready (rs:=[21]) (by kernel_rfl) (by simp) ?_
 refine AllReadyH.cons (o:=⟨none,_,_,_,_,_⟩) rfl (fun K hK => ?_) AllReadyH.nil
 refine Zdz (t:=24) (new:=#[.int .i64 ((1+n0:Nat):Int),.int .i64 ((1+n1:Nat):Int),.int .i64 ((1+n2:Nat):Int),.int .i64 (n3:Int),.int .i64 (n4:Int),.int .u64 (key:Int)]) rfl _ _ rfl rfl rfl HO.out.drew (by kernel_rfl) rfl (by intro u hu; simp only [List.mem_cons,List.not_mem_nil,or_false] at hu; rcases hu with rfl | rfl | rfl | rfl | rfl | rfl <;> rfl) (fun w9 h9 => ?_)
 refine hK.out _ _ (s6 h9.skip) (fun _ => ?_)
 clear hK K hHeld
 try simp only [Act.put]
 refine wpAnyH_done (by kernel_rfl) ?_ _
 have H9:=Lib.hid h9
 have x0:w9.cell? ⟨B+1,0,Option.none⟩=some (.int .i64 ((1+n0:Nat):Int)):=h9.cell List.mem_cons_self 0
 have x1:w9.cell? ⟨B+1,1,Option.none⟩=some (.int .i64 ((1+n1:Nat):Int)):=h9.cell List.mem_cons_self 1
 have x2:w9.cell? ⟨B+1,2,Option.none⟩=some (.int .i64 ((1+n2:Nat):Int)):=h9.cell List.mem_cons_self 2
 have x3:w9.cell? ⟨B+1,3,Option.none⟩=some (.int .i64 (n3:Int)):=h9.cell List.mem_cons_self 3
 have x4:w9.cell? ⟨B+1,4,Option.none⟩=some (.int .i64 (n4:Int)):=h9.cell List.mem_cons_self 4
 have x5:w9.cell? ⟨B+1,5,Option.none⟩=some (.int .u64 (key:Int)):=h9.cell List.mem_cons_self 5
 clear h9
 go_wp2_with fail
 exact bodyPost_ret (v:=.agg #[.int .i64 ((1+n0:Nat):Int),.int .i64 ((1+n1:Nat):Int),.int .i64 ((1+n2:Nat):Int),.int .i64 (n3:Int),.int .i64 (n4:Int),.int .u64 (key:Int)]) (by simp [results,Tryz.f7,go_sem,x0,x1,x2,x3,x4,x5]) rfl ⟨rfl,H9.out.skip.skip⟩
end
end Go.Proofs.YtfcpdlbkmkhhcaaGreatDoor.Cw

namespace Go.Proofs.YtfcpdlbkmkhhcaaGreatDoor.Cw
open Go Mem See
open Go.RowKit
attribute [local go_sem ↓] Go.wp_at_zero Go.wp_at_succ
section
variable {W w:World}{m:List (Nat×Obj)}{a0 a1 a2 a3 a4:Int}{key:Nat}{jv qv:Value}{jobs picks:List Int}
theorem ZpN:1≤(mkC a0 a1 a2 key).C∧(mkC a0 a1 a2 key).C≤5∧1≤(mkC a0 a1 a2 key).S∧(mkC a0 a1 a2 key).S≤8∧1≤(mkC a0 a1 a2 key).O∧(mkC a0 a1 a2 key).O≤8:=by
 have h0:=Cv.ZcQ (i:=a0) (n:=5) (by omega)
 have h1:=Cv.ZcQ (i:=a1) (n:=8) (by omega)
 have h2:=Cv.ZcQ (i:=a2) (n:=8) (by omega)
 show 1≤1+Cv.brg a0 5∧1+Cv.brg a0 5≤5∧1≤1+Cv.brg a1 8∧1+Cv.brg a1 8≤8∧1≤1+Cv.brg a2 8∧1+Cv.brg a2 8≤8
 omega
def Zc4 (b:Nat)(a0 a1 a2 a3 a4:Int)(key:Nat)(jv qv:Value):Nat×Obj:=(b,.cells #[.int .i64 a0,.int .i64 a1,.int .i64 a2,.int .i64 a3,.int .i64 a4,.int .u64 (key:Int),jv,qv] 27)
def Zoq (b:Nat)(c:Ch)(mn cp:Nat):Nat×Obj:=(b,.cells #[.int .i64 (c.C:Int),.int .i64 (c.S:Int),.int .i64 (c.O:Int),.int .i64 (mn:Int),.int .i64 (cp:Int),.int .u64 (c.key:Int)] 24)
theorem ZeU {b:Nat}{l:List (Nat×Obj)}{v:World}(h:Own W (Zc4 b a0 a1 a2 a3 a4 key jv qv::l) v):v.cell? ⟨b,0,Option.none⟩=some (.int .i64 a0)∧v.cell? ⟨b,1,Option.none⟩=some (.int .i64 a1)∧v.cell? ⟨b,2,Option.none⟩=some (.int .i64 a2)∧v.cell? ⟨b,3,Option.none⟩=some (.int .i64 a3)∧v.cell? ⟨b,4,Option.none⟩=some (.int .i64 a4)∧v.cell? ⟨b,5,Option.none⟩=some (.int .u64 (key:Int))∧v.cell? ⟨b,6,Option.none⟩=some jv∧v.cell? ⟨b,7,Option.none⟩=some qv :=
 ⟨h.cell List.mem_cons_self 0,h.cell List.mem_cons_self 1,h.cell List.mem_cons_self 2,h.cell List.mem_cons_self 3,h.cell List.mem_cons_self 4,h.cell List.mem_cons_self 5,h.cell List.mem_cons_self 6,h.cell List.mem_cons_self 7⟩
theorem Zi2 {b:Nat}{c:Ch}{mn cp:Nat}{l:List (Nat×Obj)}{v:World}(h:Own W (Zoq b c mn cp::l) v):v.cell? ⟨b,0,Option.none⟩=some (.int .i64 (c.C:Int))∧v.cell? ⟨b,1,Option.none⟩=some (.int .i64 (c.S:Int))∧v.cell? ⟨b,2,Option.none⟩=some (.int .i64 (c.O:Int))∧v.cell? ⟨b,3,Option.none⟩=some (.int .i64 (mn:Int))∧v.cell? ⟨b,4,Option.none⟩=some (.int .i64 (cp:Int))∧v.cell? ⟨b,5,Option.none⟩=some (.int .u64 (c.key:Int)) :=
 ⟨h.cell List.mem_cons_self 0,h.cell List.mem_cons_self 1,h.cell List.mem_cons_self 2,h.cell List.mem_cons_self 3,h.cell List.mem_cons_self 4,h.cell List.mem_cons_self 5⟩
structure Zp0 (W:World)(m:List (Nat×Obj))(c:Ch)(mn cp:Nat)(jv:Value)(jobs:List Int)(br:Nat)(w:World):Prop where
 ex:∃ (bc b0 b1 bt cnt n N:Nat) (pv:Value) (pb:List (Nat×Obj)) (r:Cv.Rn) (st:Cv.St),LvS c mn cp jobs N r st cnt n∧N<1000000000∧(∀ k,k<c.C→r.tk k=Option.none∧¬(r.next<jobs.length∧r.next<120))∧ZaQ W br bc b0 b1 bt c mn cp jv r true cnt n pv pb m w
set_option maxRecDepth 100000 in
set_option maxHeartbeats 40000000 in
theorem ZhE (h:Own W m w)(hT:Ex.ZdY FillTab.gs W)(hj:ZaK W jv jobs)(hq:ZaK W qv picks)(hwj:∀ j∈jobs,(Lit.int .i64 j).wf=true)(hwq:∀ j∈picks,(Lit.int .i64 j).wf=true)(hkey:key<18446744073709551616)
 (w0:(Lit.int .i64 a0).wf=true) (w1:(Lit.int .i64 a1).wf=true) (w2:(Lit.int .i64 a2).wf=true) (w3:(Lit.int .i64 a3).wf=true) (w4:(Lit.int .i64 a4).wf=true) :
 Calls Tryz.prog 6 #[.agg #[.int .i64 a0,.int .i64 a1,.int .i64 a2,.int .i64 a3,.int .i64 a4,.int .u64 (key:Int),jv,qv]] w fun e w'=>∃ br,e = .returned (.tuple #[.pointer (some ⟨br,0,Option.none⟩),.bool true])∧Zp0 W m (mkC a0 a1 a2 key) (Cv.brg a3 3) (Cv.brg a4 3) jv jobs br w':=by
 obtain ⟨A1,K1,rfl⟩:=ZdV hj
 obtain ⟨A2,K2,rfl⟩:=ZdV hq
 have h1:=h.new (Zc4 0 a0 a1 a2 a3 a4 key (.slice A1 jobs.length K1) (.slice A2 picks.length K2)).2
 obtain ⟨B,hB⟩:∃ B,w.heap.size=B:=⟨_,rfl⟩
 rw [hB] at h1
 have h1:Own W (Zc4 B a0 a1 a2 a3 a4 key (.slice A1 jobs.length K1) (.slice A2 picks.length K2)::m) _:=h1
 obtain ⟨wa,hwa⟩:∃ wa,w.alloc (Zc4 0 a0 a1 a2 a3 a4 key (.slice A1 jobs.length K1) (.slice A2 picks.length K2)).2=wa:=⟨_,rfl⟩
 rw [hwa] at h1
 unfold Zc4 at hwa
 have H1:=Lib.hid h1
 have HMD:=Lib.hid (Zjx (key:=key) h1 w0 w1 w2 w3 w4)
 have HJ:=Lib.hid hj
 have HQ:=Lib.hid hq
 have HWJ:=Lib.hid hwj
 have HWQ:=Lib.hid hwq
 have HT:=Lib.hid hT
 have HKEY:=Lib.hid hkey
 obtain ⟨x0,x1,x2,x3,x4,x5,x6,x7⟩:=ZeU h1
 clear h h1 hj hq hwj hwq hT hkey w0 w1 w2 w3 w4
 obtain ⟨mn,hmn⟩:∃ mn,Cv.brg a3 3=mn:=⟨_,rfl⟩
 obtain ⟨cp,hcp⟩:∃ cp,Cv.brg a4 3=cp:=⟨_,rfl⟩
 have hmnl:mn<3:=hmn ▸ Cv.ZcQ (by omega)
 have hcpl:cp<3:=hcp ▸ Cv.ZcQ (by omega)
 have hck:(mkC a0 a1 a2 key).key=key:=rfl
 have HCB:=Lib.hid (ZpN (a0:=a0) (a1:=a1) (a2:=a2) (key:=key))
 rw [hmn,hcp] at HMD ⊢
 obtain ⟨c,hc⟩:∃ c,mkC a0 a1 a2 key=c:=⟨_,rfl⟩
 rw [hc] at HMD HCB hck ⊢
 have HCK:=Lib.hid hck
 have HMN:=Lib.hid hmnl
 have HCP:=Lib.hid hcpl
 clear hmn hcp hmnl hcpl hck hc
 go_enter Tryz.func6,Tryz.ntmps6
 go_wp2_with fail
 refine HMD.out.mono ?_
 rintro e w2 ⟨rfl,h2⟩
 have HCO:Hid (COk c (mn:Int) (cp:Int)):=by
  have:=HCB.out
  have:=HMN.out
  have:=HCP.out
  have:=HCK.out
  have:=HKEY.out
  refine ⟨?_,by omega⟩
  unfold chartPlaces.Ok
  omega
 have HWD:Hid (1≤c.words∧c.words≤4096):=by
  obtain ⟨k1,k2,k3,k4,k5,k6⟩:=HCB.out
  have hm:c.S * c.O≤8 * 8:=Nat.mul_le_mul k4 k6
  show 1≤c.words∧c.words≤4096
  unfold Ch.words
  omega
 have h3:=h2.new (.cells #[.int .i64 0,.int .i64 0,.int .i64 0,.int .i64 0,.int .i64 0,.int .u64 0] 24)
 obtain ⟨B4,hB4⟩:∃ B,w2.heap.size=B:=⟨_,rfl⟩
 rw [hB4] at h3
 have H3:=Lib.hid h3
 have HN6:Hid (∀ u∈(#[.int .i64 (c.C:Int),.int .i64 (c.S:Int),.int .i64 (c.O:Int),.int .i64 (mn:Int),.int .i64 (cp:Int),.int .u64 (c.key:Int)]:Array Value).toList,u.oneCell'=true):=by
  intro u hu
  simp only [List.mem_cons,List.not_mem_nil,or_false] at hu
  rcases hu with rfl | rfl | rfl | rfl | rfl | rfl <;> rfl
 have HS6:Hid (Ex.Za2 Tryz.prog 24=some 6):=by exact Lib.hid (by kernel_rfl)
 clear h2 h3 HMD hwa hB x0 x1 x2 x3 x4 x5 x6 x7
 unfold chW
 go_wp2_with (first
  | (refine Zab (t:=24) (new:=#[.int .i64 (c.C:Int),.int .i64 (c.S:Int),.int .i64 (c.O:Int),.int .i64 (mn:Int),.int .i64 (cp:Int),.int .u64 (c.key:Int)]) rfl _ _ rfl rfl rfl HS6.out H3.out rfl HN6.out ?_; intro w3 hS; have H4:Hid (Own W (Zoq B4 c mn cp::Zc4 B a0 a1 a2 a3 a4 key (.slice A1 jobs.length K1) (.slice A2 picks.length K2)::m) w3):=hS; clear hS hB4)
  | (refine Zaq (t:=24) (old:=#[.int .i64 (c.C:Int),.int .i64 (c.S:Int),.int .i64 (c.O:Int),.int .i64 (mn:Int),.int .i64 (cp:Int),.int .u64 (c.key:Int)]) rfl _ rfl rfl Tryz.underlying24 H4.out HS6.out ?_))
 refine (Zm1 H4.out HCO.out HWD.out.2 HWD.out.1).mono ?_
 rintro e w5 ⟨bc,b0,b1,bt,rfl,h5⟩
 have H5:Hid (Own W (Zoq B4 c mn cp::Zc4 B a0 a1 a2 a3 a4 key (.slice A1 jobs.length K1) (.slice A2 picks.length K2)::crB bc b0 bt c mn cp::(bt,.map #[] 0)::mB b0 b1 c.words 0::wB b1 (List.replicate c.words 0)::m) w5):=h5.perm (Zao fun _ q=>by simp only [List.count_cons]; omega)
 obtain ⟨y0,y1,y2,y3,y4,y5,y6,y7⟩:=ZeU H5.out.skip
 clear h5 H4 H3 y0 y1 y2 y3 y4 y5 y7
 go_wp2_with (first
  | (refine Zaq (t:=24) (old:=#[.int .i64 (c.C:Int),.int .i64 (c.S:Int),.int .i64 (c.O:Int),.int .i64 (mn:Int),.int .i64 (cp:Int),.int .u64 (c.key:Int)]) rfl _ rfl rfl Tryz.underlying24 H5.out HS6.out ?_)
  | (refine Zhe (bc:=bc) (c:=c) (mn:=mn) (cp:=cp) rfl _ _ _ _ rfl rfl rfl rfl rfl ?_)
  | (refine ZiL (bc:=bc) (c:=c) (mn:=mn) (cp:=cp) rfl _ rfl rfl H5.out ?_; intro br w6 h6; have H6:=Lib.hid h6; clear h6 H5 y6))
 have hR0:ZaQ W br bc b0 b1 bt c mn cp (.slice A1 jobs.length K1) (Cv.r0 c) true 0 0 (.slice Option.none 0 0) [] (Zoq B4 c mn cp::Zc4 B a0 a1 a2 a3 a4 key (.slice A1 jobs.length K1) (.slice A2 picks.length K2)::m) w6:=by
  refine ⟨SlO.nil true _ _,#[],0,?_,H6.out.perm (Zao fun _ q=>by simp only [List.nil_append,List.count_cons,Cv.r0,List.length_replicate,Zep,Zoq,Zc4,crB,mB,wB]; omega)⟩
  show VM #[] 0 0 (fOf (fun _=>Option.none) c.C)
  rw [ZoE]
  exact VM.nil
 have hL0:LvS c mn cp jobs 0 (Cv.r0 c) Cv.st0 0 0:=by
  have k:=HCB.out
  have k1:=HMN.out
  have k2:=HCP.out
  exact ⟨Cv.ri0 (by omega) (by omega) (by omega) (by omega) (by omega),Nat.zero_le _,Nat.le_refl _,Nat.le_refl _,Nat.le_refl _,Nat.le_refl _,Cv.ZtF,fun _=>Cv.ra0⟩
 have HR0:=Lib.hid hR0
 have HL0:=Lib.hid hL0
 clear hR0 hL0 H6 HWD HCO HS6 HN6 HMN HCP
 go_loopw [8] (fun kv wr=>∃ (i cnt n:Nat) (pv:Value) (pb:List (Nat×Obj)) (r:Cv.Rn) (st:Cv.St),kv = .int .i64 (i:Int)∧i≤300∧LvS c mn cp jobs i r st cnt n∧ZaQ W br bc b0 b1 bt c mn cp (.slice A1 jobs.length K1) r true cnt n pv pb (Zoq B4 c mn cp::Zc4 B a0 a1 a2 a3 a4 key (.slice A1 jobs.length K1) (.slice A2 picks.length K2)::m) wr) (fun kv _=>301 - (intOf kv).toNat)
 case atStart=>exact ⟨0,0,0,_,_,_,_,rfl,by omega,HL0.out,HR0.out⟩
 case round =>
  obtain ⟨i,cnt,n,pv,pb,r,st,rfl,hi3,hL,hR⟩:=hrel
  have HL:=Lib.hid hL
  have HR:=Lib.hid hR
  obtain ⟨⟨-,-,-,-,-,-,-,-,-,-,-,y11⟩,-,-⟩:=hR.box
  obtain ⟨M1,hM1⟩:=hR.own
  obtain ⟨z0,-⟩:=Zi2 hM1
  obtain ⟨-,-,-,-,-,-,-,z7⟩:=ZeU hM1.skip
  have HSQ:=Lib.hid (Src.Zil HQ.out hM1)
  clear hL hR hM1 HR0 HL0
  by_cases hip:i<picks.length
  ·have i1:(i:Int)<(picks.length:Int):=by omega
   by_cases hi4:i<300
   ·have i2:(i:Int)<300:=by omega
    obtain ⟨q,hq⟩:∃ q,picks[i]?=some q:=⟨_,List.getElem?_eq_getElem hip⟩
    have HWF:=Lib.hid (HWQ.out q (List.mem_of_getElem? hq))
    have hex:∃ a2',A2=some a2'∧wr.cell? (a2'.add i)=some (.int .i64 q):=by
     rcases HSQ.out.2 with ⟨h1,-⟩ | ⟨a,K,h1,hc⟩
     ·simp only [Value.slice.injEq] at h1
      omega
     ·simp only [Value.slice.injEq] at h1
      obtain ⟨rfl,-,-⟩:=h1
      exact ⟨a,rfl,hc i _ (Zcn hq)⟩
    obtain ⟨a2',rfl,cq⟩:=hex
    have hbr:q % (c.C:Int)=((Cv.brg q c.C:Nat):Int):=ZeV HCB.out.1
    have HBR:=Lib.hid hbr
    obtain ⟨k,hk⟩:∃ k,Cv.brg q c.C=k:=⟨_,rfl⟩
    have HK:Hid (k<c.C):=by rw [← hk]; exact Lib.hid (Cv.ZcQ HCB.out.1)
    rw [hk] at HBR
    obtain ⟨r',b,st',hp,hI',hpk,hnx⟩:=HL.out.pick HK.out (by omega)
    have hL:=HL.out
    have hcalls:=ZfA HR.out.drew HJ.out HWJ.out hL.next hL.I (by have:=HCK.out; have:=HKEY.out; omega) HK.out HT.out (by have:=hL.stn; omega) (by have:=hL.cnt; omega) (by have:=hL.n; omega) (by have:=hL.none; omega) hp
    obtain ⟨hn1,hn2,hcl⟩:=hcalls
    have HCL:=Lib.hid hcl
    have HNX:=Lib.hid (fun cnt' n' h1 h2=>hnx cnt' n' h1 h2 hn1 hn2)
    have HLT:=Lib.hid hi4
    have HSQ9:=Lib.hid (Zcn hq)
    clear hq hbr hk hp hI' hpk hnx hL hn1 hn2 hcl hip hi4 hi3
    go_upto_region 9 with fail
    refine wp_region_held_drew (S:=(fun w'=>w'.cell? ⟨B,7,Option.none⟩=some (.slice (some a2') picks.length K2)∧w'.cell? (a2'.add i)=some (.int .i64 q)∧w'.cell? ⟨B4,0,Option.none⟩=some (.int .i64 (c.C:Int)))) (by kernel_rfl) ⟨z7,cq,z0⟩ (fun hHeld => ?_)
    refine wpAnyH_take (i:=0) (oi:=⟨some 48,_,_,_,_,_⟩) (v := ?v0) rfl (by kernel_rfl) (by kernel_rfl) (by kernel_rfl) (fun _ _ _ h=>h) (Or.inl ⟨by rfl,?y0⟩) (by assumption) ?r0
    case y0=>(intro w hSw; (try dsimp only at hSw); go_simp; try with_reducible rfl)
    try simp only [Act.put,List.setIfInBounds_toArray,List.set_cons_zero,List.set_cons_succ]
    refine wpAnyH_take (i:=1) (oi:=⟨some 49,_,_,_,_,_⟩) (v := ?v1) rfl (by kernel_rfl) (by kernel_rfl) (by kernel_rfl) (fun _ _ _ h=>h) (Or.inl ⟨by rfl,?y1⟩) (by assumption) ?r1
    case y1=>(intro w hSw; (try dsimp only at hSw); go_simp; try with_reducible rfl)
    try simp only [Act.put,List.setIfInBounds_toArray,List.set_cons_zero,List.set_cons_succ]
    refine wpAnyH_take (i:=2) (oi:=⟨some 50,_,_,_,_,_⟩) (v := ?v2) rfl (by kernel_rfl) (by kernel_rfl) (by kernel_rfl) (fun _ _ _ h=>h) (Or.inl ⟨by rfl,?y2⟩) (by assumption) ?r2
    case y2=>(intro w hSw; (try dsimp only at hSw); go_simp; try with_reducible rfl)
    try simp only [Act.put,List.setIfInBounds_toArray,List.set_cons_zero,List.set_cons_succ]
    refine wpAnyH_take (i:=3) (oi:=⟨some 51,_,_,_,_,_⟩) (v := ?v3) rfl (by kernel_rfl) (by kernel_rfl) (by kernel_rfl) (fun _ _ _ h=>h) (Or.inl ⟨by rfl,?y3⟩) (by assumption) ?r3
    case y3=>(intro w hSw; (try dsimp only at hSw); go_simp; try with_reducible rfl)
    try simp only [Act.put,List.setIfInBounds_toArray,List.set_cons_zero,List.set_cons_succ]
    refine wpAnyH_take (i:=4) (oi:=⟨some 52,_,_,_,_,_⟩) (v := ?v4) rfl (by kernel_rfl) (by kernel_rfl) (by kernel_rfl) (fun _ _ _ h=>h) (Or.inl ⟨by rfl,?y4⟩) (by assumption) ?r4
    case y4=>(intro w hSw; (try dsimp only at hSw); go_simp; try with_reducible rfl)
    try simp only [Act.put,List.setIfInBounds_toArray,List.set_cons_zero,List.set_cons_succ]
    refine wpAnyH_take (i:=5) (oi:=⟨some 53,_,_,_,_,_⟩) (v := ?v5) rfl (by kernel_rfl) (by kernel_rfl) (by kernel_rfl) (fun _ _ _ h=>h) (Or.inl ⟨by rfl,?y5⟩) (by assumption) ?r5
    case y5=>(intro w hSw; (try dsimp only at hSw); go_simp; try with_reducible rfl)
    try simp only [Act.put,List.setIfInBounds_toArray,List.set_cons_zero,List.set_cons_succ]
    refine wpAnyH_take (i:=6) (oi:=⟨some 54,_,_,_,_,_⟩) (v := ?v6) rfl (by kernel_rfl) (by kernel_rfl) (by kernel_rfl) (fun _ _ _ h=>h) (Or.inl ⟨by rfl,?y6⟩) (by assumption) ?r6
    case y6=>(intro w hSw; (try dsimp only at hSw); go_simp; try with_reducible rfl)
    try simp only [Act.put,List.setIfInBounds_toArray,List.set_cons_zero,List.set_cons_succ]
    refine wpAnyH_take (i:=7) (oi:=⟨some 55,_,_,_,_,_⟩) (v := ?v7) rfl (by kernel_rfl) (by kernel_rfl) (by kernel_rfl) (fun _ _ _ h=>h) (Or.inl ⟨by rfl,?y7⟩) (by assumption) ?r7
    case y7=>(intro w hSw; (try dsimp only at hSw); go_simp; try with_reducible rfl)
    try simp only [Act.put,List.setIfInBounds_toArray,List.set_cons_zero,List.set_cons_succ]
    refine wpAnyH_ready (rs:=[8]) (by kernel_rfl) (by simp) ?_
    refine AllReadyH.cons (o:=⟨some 56,_,_,_,_,_⟩) rfl (fun K hK => ?_) AllReadyH.nil
    go_simp
    refine (ZaC q (c.C:Int) (by have:=HCB.out; omega) (by have:=HCB.out; omega) HWF.out _).mono ?_
    rintro e w9 ⟨rfl,rfl⟩
    rw [HBR.out]
    refine hK.out _ _ hHeld (fun _ => ?_)
    clear hK K
    try simp only [Act.put,List.setIfInBounds_toArray,List.set_cons_zero,List.set_cons_succ]
    refine wpAnyH_ready (rs:=[9]) (by kernel_rfl) (by simp) ?_
    refine AllReadyH.cons (o:=⟨some 57,_,_,_,_,_⟩) rfl (fun K hK => ?_) AllReadyH.nil
    go_simp
    refine HCL.out.mono ?_
    rintro e w9 ⟨rfl,pv',pb',cnt',n',hc',hn',h9⟩
    obtain ⟨M9,hM9⟩:=h9.own
    have hx0:=(Zi2 hM9).1
    have hx7:=(ZeU hM9.skip).2.2.2.2.2.2.2
    have hxq:w9.cell? (a2'.add i)=some (.int .i64 q):=by
     rcases (Src.Zil HQ.out hM9).2 with ⟨h1,-⟩ | ⟨a,K',h1,hc⟩
     ·cases h1
     ·simp only [Value.slice.injEq,Option.some.injEq] at h1
      obtain ⟨rfl,-,-⟩:=h1
      exact hc i _ (HSQ9.out)
    refine hK.out _ _ ⟨hx7,hxq,hx0⟩ (fun _ => ?_)
    clear hK K hHeld hx0 hx7 hxq hM9
    try simp only [Act.put,List.setIfInBounds_toArray,List.set_cons_zero,List.set_cons_succ]
    refine wpAnyH_done (by kernel_rfl) ?_ _
    have H9:=Lib.hid h9
    have HCC:=Lib.hid hc'
    have HNN:=Lib.hid hn'
    clear h9 hc' hn' z0 z7 cq y11 i1 i2
    go_wp2_with fail
    rw [show wrap64 ((i:Int)+1)=((i+1:Nat):Int) from IntWalk.wrap64_in _ (by have:=HLT.out; omega)]
    exact ⟨⟨i+1,cnt',n',pv',pb',r',st',rfl,by have:=HLT.out; omega,HNX.out cnt' n' HCC.out HNN.out,H9.out⟩,by have:=HLT.out; simp [intOf]; omega⟩
   ·have i2:¬ (i:Int)<300:=by omega
    clear hi4
    have HLX:=Lib.hid (HL.out.mono (M:=300+0) (by omega))
    obtain ⟨P0,hP0⟩:∃ P0,Cv.Zkj c jobs r st=P0:=⟨_,rfl⟩
    have hlp:=Cv.lp0 (jobs:=jobs) (r:=r) (st:=st) HCB.out.1
    rw [hP0] at hlp
    have HLP:=Lib.hid hlp
    have HPB:Hid (P0≤Cv.PJ c * 120):=by rw [← hP0]; exact Lib.hid HL.out.phi
    clear hP0 hlp HL hi3 hip HSQ
    go_wp2_with fail
    clear z0 z7 y11
    go_loopw [9,10] (fun dv kv wr=>∃ (idle j u cnt n:Nat) (pv:Value) (pb:List (Nat×Obj)) (r:Cv.Rn) (st:Cv.St),dv = .int .i64 (idle:Int)∧kv = .int .i64 (j:Int)∧j≤100000∧LvS c mn cp jobs (300+j) r st cnt n∧Cv.LP c jobs P0 r st j idle u∧ZaQ W br bc b0 b1 bt c mn cp (.slice A1 jobs.length K1) r true cnt n pv pb (Zoq B4 c mn cp::Zc4 B a0 a1 a2 a3 a4 key (.slice A1 jobs.length K1) (.slice A2 picks.length K2)::m) wr) (fun dv kv _=>100001 - (intOf kv).toNat)
    case atStart=>exact ⟨0,0,0,_,_,_,_,_,_,rfl,rfl,by omega,HLX.out,HLP.out,HR.out⟩
    case round =>
     clear HLX HLP HR
     obtain ⟨idle,j,u,cnt,n,pv,pb,r,st,rfl,rfl,hj5,hL,hLP,hR⟩:=hrel
     have HL:=Lib.hid hL
     have HR:=Lib.hid hR
     have HLP:=Lib.hid hLP
     obtain ⟨⟨-,-,-,-,-,-,-,-,-,-,-,y11⟩,-,-⟩:=hR.box
     obtain ⟨M1,hM1⟩:=hR.own
     obtain ⟨z0,-⟩:=Zi2 hM1
     clear hL hR hM1 hLP
     by_cases hid:idle<c.C
     ·have hj1:j<100000:=HLP.out.ends HCB.out.2.1 HCB.out.2.2.2.1 HCB.out.2.2.2.2.2 HPB.out hid
      have i1:(j:Int)<100000:=by omega
      have i2:(idle:Int)<(c.C:Int):=by omega
      have i3:(c.C:Int)≠0:=by have:=HCB.out; omega
      have i4:(j:Int) % (c.C:Int)=((j % c.C:Nat):Int):=by omega
      have i5:(j:Int).tmod (c.C:Int)=((j % c.C:Nat):Int):=by rw [Int.tmod_eq_emod_of_nonneg (by omega)]; omega
      obtain ⟨k,hk⟩:∃ k,j % c.C=k:=⟨_,rfl⟩
      have HK:Hid (k<c.C):=by rw [← hk]; exact Lib.hid (Nat.mod_lt _ HCB.out.1)
      rw [hk] at i4 i5
      obtain ⟨r',b,st',hp,hI',hpk,hnx⟩:=HL.out.pick HK.out (by omega)
      have hL:=HL.out
      have hcalls:=ZfA HR.out HJ.out HWJ.out hL.next hL.I (by have:=HCK.out; have:=HKEY.out; omega) HK.out HT.out (by have:=hL.stn; omega) (by have:=hL.cnt; omega) (by have:=hL.n; omega) (by have:=hL.none; omega) hp
      obtain ⟨hn1,hn2,hcl⟩:=hcalls
      have HCL:=Lib.hid hcl
      have HNX:=Lib.hid (fun cnt' n' h1 h2=>hnx cnt' n' h1 h2 hn1 hn2)
      have HJ1:=Lib.hid hj1
      have HID:=Lib.hid hid
      rw [← hk] at hpk
      have HST:=Lib.hid (HLP.out.step hL.I hI' hid hpk)
      clear hk hp hI' hpk hnx hL hn1 hn2 hcl hid hj1 hj5
      go_wp2_with fail
      refine HCL.out.mono ?_
      rintro e w9 ⟨rfl,pv',pb',cnt',n',hc',hn',h9⟩
      have H9:=Lib.hid h9
      have HCC:=Lib.hid hc'
      have HNN:=Lib.hid hn'
      clear h9 hc' hn' z0 y11 i1 i2 i3 i4 i5
      cases b with
      | true =>
        go_wp2_with fail
        rw [show wrap64 ((j:Int)+1)=((j+1:Nat):Int) from IntWalk.wrap64_in _ (by have:=HJ1.out; omega)]
        obtain ⟨u',hu'⟩:=HST.out
        exact ⟨⟨0,j+1,u',cnt',n',pv',pb',r',st',rfl,rfl,by have:=HJ1.out; omega,HNX.out cnt' n' HCC.out HNN.out,hu',H9.out⟩,by have:=HJ1.out; simp [intOf]; omega⟩
      | false =>
        go_wp2_with fail
        rw [show wrap64 ((j:Int)+1)=((j+1:Nat):Int) from IntWalk.wrap64_in _ (by have:=HJ1.out; omega)]
        rw [show wrap64 ((idle:Int)+1)=((idle+1:Nat):Int) from IntWalk.wrap64_in _ (by have:=HID.out; have:=HCB.out; omega)]
        obtain ⟨u',hu'⟩:=HST.out
        exact ⟨⟨idle+1,j+1,u',cnt',n',pv',pb',r',st',rfl,rfl,by have:=HJ1.out; omega,HNX.out cnt' n' HCC.out HNN.out,hu',H9.out⟩,by have:=HJ1.out; simp [intOf]; omega⟩
     ·have HFIN:=Lib.hid (HLP.out.done HCB.out.1 (by omega))
      have i2:¬ (idle:Int)<(c.C:Int):=by omega
      have g1:decide (c.C≤idle)=true:=decide_eq_true (by omega)
      have g2:decide ((c.C:Int)≤(idle:Int))=true:=decide_eq_true (by omega)
      have HJ5:=Lib.hid hj5
      by_cases hj1:j<100000
      ·have i1:(j:Int)<100000:=by omega
       clear hid hj1 hj5
       go_wp2_with fail
       go_quiet (fail)
       have H9:=Lib.hid (HR.out.drewN nq)
       clear HR y11 z0
       generalize wr.drewN nq=w9 at H9 ⊢
       go_wp2_with fail
       go_ret2
       exact ⟨br,rfl,⟨bc,b0,b1,bt,cnt,n,300+j,pv,pb,r,st,HL.out,by have:=HJ5.out; omega,HFIN.out,H9.out.sub ((List.sublist_cons_self _ _).trans (List.sublist_cons_self _ _))⟩⟩
      ·have i1:¬ (j:Int)<100000:=by omega
       clear hid hj1 hj5
       go_wp2_with fail
       go_quiet (fail)
       have H9:=Lib.hid (HR.out.drewN nq)
       clear HR y11 z0
       generalize wr.drewN nq=w9 at H9 ⊢
       go_wp2_with fail
       go_ret2
       exact ⟨br,rfl,⟨bc,b0,b1,bt,cnt,n,300+j,pv,pb,r,st,HL.out,by have:=HJ5.out; omega,HFIN.out,H9.out.sub ((List.sublist_cons_self _ _).trans (List.sublist_cons_self _ _))⟩⟩
  ·have i1:¬ (i:Int)<(picks.length:Int):=by omega
   have HLX:=Lib.hid (HL.out.mono (M:=300+0) (by omega))
   obtain ⟨P0,hP0⟩:∃ P0,Cv.Zkj c jobs r st=P0:=⟨_,rfl⟩
   have hlp:=Cv.lp0 (jobs:=jobs) (r:=r) (st:=st) HCB.out.1
   rw [hP0] at hlp
   have HLP:=Lib.hid hlp
   have HPB:Hid (P0≤Cv.PJ c * 120):=by rw [← hP0]; exact Lib.hid HL.out.phi
   clear hP0 hlp HL hi3 hip HSQ
   go_wp2_with fail
   clear z0 z7 y11
   go_loopw [9,10] (fun dv kv wr=>∃ (idle j u cnt n:Nat) (pv:Value) (pb:List (Nat×Obj)) (r:Cv.Rn) (st:Cv.St),dv = .int .i64 (idle:Int)∧kv = .int .i64 (j:Int)∧j≤100000∧LvS c mn cp jobs (300+j) r st cnt n∧Cv.LP c jobs P0 r st j idle u∧ZaQ W br bc b0 b1 bt c mn cp (.slice A1 jobs.length K1) r true cnt n pv pb (Zoq B4 c mn cp::Zc4 B a0 a1 a2 a3 a4 key (.slice A1 jobs.length K1) (.slice A2 picks.length K2)::m) wr) (fun dv kv _=>100001 - (intOf kv).toNat)
   case atStart=>exact ⟨0,0,0,_,_,_,_,_,_,rfl,rfl,by omega,HLX.out,HLP.out,HR.out⟩
   case round =>
    clear HLX HLP HR
    obtain ⟨idle,j,u,cnt,n,pv,pb,r,st,rfl,rfl,hj5,hL,hLP,hR⟩:=hrel
    have HL:=Lib.hid hL
    have HR:=Lib.hid hR
    have HLP:=Lib.hid hLP
    obtain ⟨⟨-,-,-,-,-,-,-,-,-,-,-,y11⟩,-,-⟩:=hR.box
    obtain ⟨M1,hM1⟩:=hR.own
    obtain ⟨z0,-⟩:=Zi2 hM1
    clear hL hR hM1 hLP
    by_cases hid:idle<c.C
    ·have hj1:j<100000:=HLP.out.ends HCB.out.2.1 HCB.out.2.2.2.1 HCB.out.2.2.2.2.2 HPB.out hid
     have i1:(j:Int)<100000:=by omega
     have i2:(idle:Int)<(c.C:Int):=by omega
     have i3:(c.C:Int)≠0:=by have:=HCB.out; omega
     have i4:(j:Int) % (c.C:Int)=((j % c.C:Nat):Int):=by omega
     have i5:(j:Int).tmod (c.C:Int)=((j % c.C:Nat):Int):=by rw [Int.tmod_eq_emod_of_nonneg (by omega)]; omega
     obtain ⟨k,hk⟩:∃ k,j % c.C=k:=⟨_,rfl⟩
     have HK:Hid (k<c.C):=by rw [← hk]; exact Lib.hid (Nat.mod_lt _ HCB.out.1)
     rw [hk] at i4 i5
     obtain ⟨r',b,st',hp,hI',hpk,hnx⟩:=HL.out.pick HK.out (by omega)
     have hL:=HL.out
     have hcalls:=ZfA HR.out HJ.out HWJ.out hL.next hL.I (by have:=HCK.out; have:=HKEY.out; omega) HK.out HT.out (by have:=hL.stn; omega) (by have:=hL.cnt; omega) (by have:=hL.n; omega) (by have:=hL.none; omega) hp
     obtain ⟨hn1,hn2,hcl⟩:=hcalls
     have HCL:=Lib.hid hcl
     have HNX:=Lib.hid (fun cnt' n' h1 h2=>hnx cnt' n' h1 h2 hn1 hn2)
     have HJ1:=Lib.hid hj1
     have HID:=Lib.hid hid
     rw [← hk] at hpk
     have HST:=Lib.hid (HLP.out.step hL.I hI' hid hpk)
     clear hk hp hI' hpk hnx hL hn1 hn2 hcl hid hj1 hj5
     go_wp2_with fail
     refine HCL.out.mono ?_
     rintro e w9 ⟨rfl,pv',pb',cnt',n',hc',hn',h9⟩
     have H9:=Lib.hid h9
     have HCC:=Lib.hid hc'
     have HNN:=Lib.hid hn'
     clear h9 hc' hn' z0 y11 i1 i2 i3 i4 i5
     cases b with
     | true =>
       go_wp2_with fail
       rw [show wrap64 ((j:Int)+1)=((j+1:Nat):Int) from IntWalk.wrap64_in _ (by have:=HJ1.out; omega)]
       obtain ⟨u',hu'⟩:=HST.out
       exact ⟨⟨0,j+1,u',cnt',n',pv',pb',r',st',rfl,rfl,by have:=HJ1.out; omega,HNX.out cnt' n' HCC.out HNN.out,hu',H9.out⟩,by have:=HJ1.out; simp [intOf]; omega⟩
     | false =>
       go_wp2_with fail
       rw [show wrap64 ((j:Int)+1)=((j+1:Nat):Int) from IntWalk.wrap64_in _ (by have:=HJ1.out; omega)]
       rw [show wrap64 ((idle:Int)+1)=((idle+1:Nat):Int) from IntWalk.wrap64_in _ (by have:=HID.out; have:=HCB.out; omega)]
       obtain ⟨u',hu'⟩:=HST.out
       exact ⟨⟨idle+1,j+1,u',cnt',n',pv',pb',r',st',rfl,rfl,by have:=HJ1.out; omega,HNX.out cnt' n' HCC.out HNN.out,hu',H9.out⟩,by have:=HJ1.out; simp [intOf]; omega⟩
    ·have HFIN:=Lib.hid (HLP.out.done HCB.out.1 (by omega))
     have i2:¬ (idle:Int)<(c.C:Int):=by omega
     have g1:decide (c.C≤idle)=true:=decide_eq_true (by omega)
     have g2:decide ((c.C:Int)≤(idle:Int))=true:=decide_eq_true (by omega)
     have HJ5:=Lib.hid hj5
     by_cases hj1:j<100000
     ·have i1:(j:Int)<100000:=by omega
      clear hid hj1 hj5
      go_wp2_with fail
      go_quiet (fail)
      have H9:=Lib.hid (HR.out.drewN nq)
      clear HR y11 z0
      generalize wr.drewN nq=w9 at H9 ⊢
      go_wp2_with fail
      go_ret2
      exact ⟨br,rfl,⟨bc,b0,b1,bt,cnt,n,300+j,pv,pb,r,st,HL.out,by have:=HJ5.out; omega,HFIN.out,H9.out.sub ((List.sublist_cons_self _ _).trans (List.sublist_cons_self _ _))⟩⟩
     ·have i1:¬ (j:Int)<100000:=by omega
      clear hid hj1 hj5
      go_wp2_with fail
      go_quiet (fail)
      have H9:=Lib.hid (HR.out.drewN nq)
      clear HR y11 z0
      generalize wr.drewN nq=w9 at H9 ⊢
      go_wp2_with fail
      go_ret2
      exact ⟨br,rfl,⟨bc,b0,b1,bt,cnt,n,300+j,pv,pb,r,st,HL.out,by have:=HJ5.out; omega,HFIN.out,H9.out.sub ((List.sublist_cons_self _ _).trans (List.sublist_cons_self _ _))⟩⟩
end
end Go.Proofs.YtfcpdlbkmkhhcaaGreatDoor.Cw
