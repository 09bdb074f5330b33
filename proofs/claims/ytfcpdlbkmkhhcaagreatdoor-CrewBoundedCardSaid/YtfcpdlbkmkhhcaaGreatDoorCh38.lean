/-
  Texts of this claim, joined. No condition.
-/
import Derived.Test.YtfcpdlbkmkhhcaaGreatDoorCh1
import Derived.Test.YtfcpdlbkmkhhcaaGreatDoorCh24
import Derived.Test.YtfcpdlbkmkhhcaaGreatDoorCh37
import Derived.Deep.RegionWith
import Derived.Deep.AppendLies
import Derived.Deep.RegionHeld3
namespace Go.Proofs.YtfcpdlbkmkhhcaaGreatDoor
set_option maxRecDepth 100000
set_option maxHeartbeats 40000000
namespace Cw
open Go Mem See
open Go.RowKit
attribute [local go_sem ↓] Go.wp_at_zero Go.wp_at_succ
section
variable {W w:World}{m:List (Nat×Obj)}{bc b0 b1 bt b:Nat}{c:Ch}{mn cp cnt:Nat}{t t':Tk}{g g':List Nat}{es:Array MapEntry}{ck n:Nat}{f:Int→Option Value}{i:Nat}
theorem Y0 {ops:Array Oper}{o:Oper}{a:Act}{K:Act→World→Prop}{Q:Exit→Act→World→Prop}{E:Prop}(jw:o.guard=Option.none)(ho:o.op = .alloc 59)(hO:Own W m w)
 (h:∀ b w',Own W ((b,z17)::m) w'→K (a.put o.dst (.pointer (some ⟨b,0,Option.none⟩))) w'):if Region.wanted o (yielded ops a.tmps)=true then Oper.wp Tryz.prog o a w K Q else E:=by
 have hw:Region.wanted o (yielded ops a.tmps)=true:=by simp[Region.wanted,jw]
 rw[if_pos hw];have hi:(Tryz.prog.info? 59).map (fun i=>i.zero)=some (some (bH mZ)):=by kernel_rfl
 cases hj:Tryz.prog.info? 59 with
 |none=>rw[hj]at hi;cases hi
 |some j =>
  rw[hj]at hi;simp only[Option.map_some,ZlP]at hi;have hr:=Zrk (P:=Tryz.prog) 59 j (bH mZ) hj hi w;unfold Oper.wp execOp;simp only[ho,Zxy,ZxM,Zxs,hr];exact h _ _ (hO.new z17)
theorem ZsW {α:Type}(a b d e x y:α)(l:List α):(a::b::d::e::x::y::l).Perm (x::y::a::b::d::e::l):=by
 classical
 rw[List.perm_iff_count];intro q;simp only[Zxv];omega
theorem ZsX {α:Type}(z a b d e x y:α)(l:List α):(z::a::b::d::e::x::y::l).Perm (x::y::z::a::b::d::e::l):=by
 classical
 rw[List.perm_iff_count];intro q;simp only[Zxv];omega
structure SL (bc b0 B2:Nat)(c:Ch)(mn cp:Nat)(t:Tk)(v:World):Prop where
 p:(Instr.loadAt 68 (.pointer (some ⟨bc,6,Option.none⟩))).run Tryz.prog v = .ok (.pointer (some ⟨b0,0,Option.none⟩)) v
 c:(Instr.loadAt 24 (.pointer (some ⟨bc,0,Option.none⟩))).run Tryz.prog v = .ok (qd c mn cp) v
 t:(Instr.loadAt 59 (.pointer (some ⟨B2,0,Option.none⟩))).run Tryz.prog v = .ok (bH t) v
theorem Gu {B2:Nat}{l:List (Nat×Obj)}{v:World}(h:Own W (tB B2 t::aY bc b0 bt c mn cp::l) v):SL bc b0 B2 c mn cp t v:=by
 refine⟨?_,?_,XZ (P:=Tryz.prog) (t:=59) h Tryz.underlying59 gQ⟩
 ·obtain⟨y0,y1,y2,y3,y4,y5,y6,y7⟩:=mP h.skip
  simp[Instr.loadAt,Instr.sureAddr,loadVar,Ex.EK (show Ex.vP Tryz.prog 68=some false by kernel_rfl) v,y6]
 ·have h2:Own W ((bc,.cells (([]:List Value)++([.int .i64 (c.C:Int),.int .i64 (c.S:Int),.int .i64 (c.O:Int),.int .i64 (mn:Int),.int .i64 (cp:Int),.int .u64 (c.key:Int)]:List Value)++([.pointer (some ⟨b0,0,Option.none⟩),.map (some bt)]:List Value)).toArray 71)::l) v:=h.skip
  exact XF (P:=Tryz.prog) (t:=24) (pre:=[]) h2 Tryz.underlying24 rfl (by kernel_rfl)
theorem Lj {S:World→Prop}{o:Oper}{a:Act}{ty:TypeId}{p:Operand}{ad v:Value}(ho:o.op = .load ty p)(hp:a.eval p=ad)(h:∀ w,S w→(Instr.loadAt ty ad).run Tryz.prog w = .ok v w):∀ w,S w→(execOp a.eval o).run Tryz.prog w = .ok (.value v) w:=by
 intro w hw;unfold execOp;simp only[ho,hp,Zxy,ZxM,Zxs,h w hw]
def FV:Nat→FuncId
 |0=>43
 |1=>44
 |2=>45
 |_=>46
theorem Zod (h:Own W (aY bc b0 bt c mn cp::(bt,.map es ck)::mB b0 b1 g.length cnt::wB b1 g::m) w)(hT:Ex.jR aJ.gs W)(hk:bL c mn cp t g)(hv:VM es ck n f)(hi:i<c.C)(hf:f i=some (bH t))(hc:cnt<1000000000)
 {q:Nat} (hq:q<4) (fJ:∀ j,j<q→Uk (FV j) c mn cp t g) (hs:cZ (FV q) c mn cp t g t' g') (lh:t'.aB<9) :
 Calls Tryz.prog 26 #[.pointer (some ⟨bc,0,Option.none⟩),.int .i64 (i:Int)] w fun e w'=>∃ es' bO,e = .returned (.tuple #[bH t',.int .i64 0])∧VM es' bO (n+1) (GK f t')∧Own W (aY bc b0 bt c mn cp::(bt,.map es' bO)::mB b0 b1 g'.length (cnt+1)::wB b1 g'::m) w':=by
 have h1:Own W ((w.heap.size,z17)::aY bc b0 bt c mn cp::(bt,.map es ck)::mB b0 b1 g.length cnt::wB b1 g::m) (w.alloc z17):=h.new z17;obtain⟨B,hB⟩:=Zx9 (w.heap.size);rw[hB]at h1;have h1:Own W (aY bc b0 bt c mn cp::(bt,.map es ck)::(B,z17)::mB b0 b1 g.length cnt::wB b1 g::m) (w.alloc z17):=h1.perm (yU _ _ _ _).symm;obtain⟨wa,eQ⟩:=Zx9 (w.alloc z17);rw[eQ]at h1;have HV:=ZkQ hv;have aL:=hk.want;have hm:=SK h1 hk.C.2 hv hi hf;rw[aL]at hm;have HM:=ZkQ hm;have HN:=ZkQ fJ;have HS:=ZkQ hs;have HI:=ZkQ lh;have HC:=ZkQ hc;have OY:=ZkQ hT;clear h h1 hv hf hi hk aL hm fJ hs lh hc hT
 go_enter Tryz.func26,Tryz.ntmps26
 go_wp2_with fail
 refine HM.out.mono ?_;rintro e w2 ⟨rfl,h2⟩;have h3:Own W ((w2.heap.size,z17)::aY bc b0 bt c mn cp::(bt,.map es ck)::(B,z17)::mB b0 b1 g.length cnt::wB b1 g::m) (w2.alloc z17):=h2.new z17;obtain⟨B2,hB2⟩:∃ B,w2.heap.size=B:=⟨_,rfl⟩;rw[hB2]at h3;have H3:=ZkQ h3;have HT:=ZkQ (jU t);clear h2 h3 HM eQ hB
 go_wp2_with (first
  |(refine jm (t:=59) (new:=dm t) rfl _ _ rfl rfl rfl gQ H3.out rfl HT.out ?_;intro w3 hS;have HX:=ZkQ hS;clear hS hB2))
 clear h1
 go_loopw [23] (fun kv wr=>∃ k:Nat,kv = .int .i64 (k:Int)∧k≤q∧Own W ((B2,.cells (dm t) 59)::aY bc b0 bt c mn cp::(bt,.map es ck)::(B,z17)::mB b0 b1 g.length cnt::wB b1 g::m) wr) (fun kv _=>5 - (intOf kv).toNat)
 case atStart=>exact⟨0,rfl,ZxV _,HX.out⟩
 case round =>
  obtain⟨k,rfl,hkq,hr⟩:=hrel;have Ii:(0:Int)≤(k:Int):=by omega
  have hk4:(k:Int)<4:=by omega
  have hix:∀ v:World,Sem.run Tryz.prog (Instr.index 102 (Value.agg #[Value.func (Fn.func 43) #[] #[],.func (Fn.func 44) #[] #[],.func (Fn.func 45) #[] #[],.func (Fn.func 46) #[] #[]]) (.int .i64 (k:Int))) v = .ok (.func (Fn.func (FV k)) #[] #[]) v:=by
   intro v;rcases(show k=0∨k=1∨k=2∨k=3 by omega) with rfl|rfl|rfl|rfl<;>rfl
  have HR:=ZkQ hr;clear hr;go_upto_region 7 with fail
  obtain⟨tr,er,gr,cr,HQ,ng⟩:∃ (tr:Tk) (er:Int) (gr:List Nat) (cr:Nat),Hid ((k<q∧er=292∧gr=g∧cr=cnt)∨(k=q∧er=0∧tr=t'∧gr=g'∧cr=cnt+1))∧Hid (∀ {w:World} {m:List (Nat×Obj)},Own W (mB b0 b1 g.length cnt::wB b1 g::m) w→Calls Tryz.prog (FV k) #[.pointer (some ⟨b0,0,Option.none⟩),qd c mn cp,bH t] w fun e w'=>e = .returned (.tuple #[bH tr,.int .i64 er])∧Own W (mB b0 b1 gr.length cr::wB b1 gr::m) w'):=by
   rcases Nat.lt_or_ge k q with aK|eD
   ·exact⟨mZ,292,g,cnt,.inl ⟨aK,rfl,rfl,rfl⟩,fun h=>(HN.out k aK).go HC.out (Pz OY.out h) (TW OY.out) h⟩
   ·obtain rfl:k=q:=by omega
    exact⟨t',0,g',cnt+1,.inr ⟨rfl,rfl,rfl,rfl,rfl⟩,fun h=>HS.out.go HC.out (Pz OY.out h) (TW OY.out) h⟩
  have hcf:∀ (xs:Array Value) (v:World),Sem.run Tryz.prog (callFunc (FV k) xs) v = .ok (.enter (FV k) xs) v:=by
   intro xs v;rcases(show k=0∨k=1∨k=2∨k=3 by omega) with rfl|rfl|rfl|rfl<;>rfl
  clear hix Ii hk4;have HA:=ZkQ (HR.out.drew.perm (ZsW _ _ _ _ _ _ _));have HB:=ZkQ HR.out;unfold bH qd at ng;refine wp_region_held_drew (S:=SL bc b0 B2 c mn cp t) (by kernel_rfl) (Gu HR.out.drew) (fun hHeld => ?_);refine wpAnyH_take (i:=0) (oi:=⟨some 27,_,_,_,_,_⟩) (v := ?v0) rfl (by kernel_rfl) (by kernel_rfl) (by kernel_rfl) (fun _ _ _ h=>h) (Or.inl ⟨by rfl,?y0⟩) (by assumption) ?r0
  case y0=>(intro w hSw;go_simp;try with_reducible rfl)
  try simp only[Act.put,ZnK,Zqa,Zxo]
  refine wpAnyH_take (i:=1) (oi:=⟨some 28,_,_,_,_,_⟩) (v := ?v1) rfl (by kernel_rfl) (by kernel_rfl) (by kernel_rfl) (fun _ _ _ h=>h) (Or.inl ⟨by rfl,?y1⟩) (by assumption) ?r1
  case y1=>(intro w hSw;go_simp;try with_reducible rfl)
  try simp only[Act.put,ZnK,Zqa,Zxo]
  refine wpAnyH_take (i:=2) (oi:=⟨some 29,_,_,_,_,_⟩) (v := ?v2) rfl (by kernel_rfl) (by kernel_rfl) (by kernel_rfl) (fun _ _ _ h=>h) (Or.inl ⟨by rfl,?y2⟩) (by assumption) ?r2
  case y2=>(intro w hSw;go_simp;try with_reducible rfl)
  try simp only[Act.put,ZnK,Zqa,Zxo]
  refine wpAnyH_take (i:=3) (oi:=⟨some 30,_,_,_,_,_⟩) (v := ?v3) rfl (by kernel_rfl) (by kernel_rfl) (by kernel_rfl) (fun _ _ _ h=>h) (Or.inl ⟨by rfl,?y3⟩) (by assumption) ?r3
  case y3=>(intro w hSw;go_simp;try with_reducible rfl)
  try simp only[Act.put,ZnK,Zqa,Zxo]
  refine wpAnyH_take (i:=4) (oi:=⟨some 31,_,_,_,_,_⟩) (v:=.pointer (some ⟨b0,0,Option.none⟩)) rfl (by kernel_rfl) (by kernel_rfl) (by kernel_rfl) (fun _ _ _ h=>h) (Or.inl ⟨by rfl,?y4⟩) (by assumption) ?r4
  case y4=>exact Lj (ad:=.pointer (some ⟨bc,6,Option.none⟩)) rfl rfl (fun w h=>h.p)
  try simp only[Act.put,ZnK,Zqa,Zxo]
  refine wpAnyH_take (i:=5) (oi:=⟨some 32,_,_,_,_,_⟩) (v := ?v5) rfl (by kernel_rfl) (by kernel_rfl) (by kernel_rfl) (fun _ _ _ h=>h) (Or.inl ⟨by rfl,?y5⟩) (by assumption) ?r5
  case y5=>(intro w hSw;go_simp;try with_reducible rfl)
  try simp only[Act.put,ZnK,Zqa,Zxo]
  refine wpAnyH_take (i:=6) (oi:=⟨some 33,_,_,_,_,_⟩) (v := ?v6) rfl (by kernel_rfl) (by kernel_rfl) (by kernel_rfl) (fun _ _ _ h=>h) (Or.inl ⟨by rfl,?y6⟩) (by assumption) ?r6
  case y6=>(intro w hSw;go_simp;try with_reducible rfl)
  try simp only[Act.put,ZnK,Zqa,Zxo]
  refine wpAnyH_take (i:=7) (oi:=⟨some 34,_,_,_,_,_⟩) (v := ?v7) rfl (by kernel_rfl) (by kernel_rfl) (by kernel_rfl) (fun _ _ _ h=>h) (Or.inl ⟨by rfl,?y7⟩) (by assumption) ?r7
  case y7=>(intro w hSw;go_simp;try with_reducible rfl)
  try simp only[Act.put,ZnK,Zqa,Zxo]
  refine wpAnyH_take (i:=8) (oi:=⟨some 35,_,_,_,_,_⟩) (v:=qd c mn cp) rfl (by kernel_rfl) (by kernel_rfl) (by kernel_rfl) (fun _ _ _ h=>h) (Or.inl ⟨by rfl,?y8⟩) (by assumption) ?r8
  case y8=>exact Lj (ad:=.pointer (some ⟨bc,0,Option.none⟩)) rfl rfl (fun w h=>h.c)
  try simp only[Act.put,ZnK,Zqa,Zxo]
  refine wpAnyH_take (i:=9) (oi:=⟨some 36,_,_,_,_,_⟩) (v:=bH t) rfl (by kernel_rfl) (by kernel_rfl) (by kernel_rfl) (fun _ _ _ h=>h) (Or.inl ⟨by rfl,?y9⟩) (by assumption) ?r9
  case y9=>exact Lj (ad:=.pointer (some ⟨B2,0,Option.none⟩)) rfl rfl (fun w h=>h.t)
  try simp only[Act.put,ZnK,Zqa,Zxo]
  refine wpAnyH_ready (rs:=[10,14]) (by kernel_rfl) (by simp) ?_;refine AllReadyH.cons (o:=⟨some 37,_,_,_,_,_⟩) rfl (fun K hK => ?_) (AllReadyH.cons (o:=⟨some 10,_,_,_,_,_⟩) rfl (fun K hK => ?_) AllReadyH.nil)
  ·go_simp
   refine(ng.out HA.out).mono ?_;rintro r w6 ⟨rfl,h6⟩;have H6:=ZkQ (h6.perm (ZsW _ _ _ _ _ _ _).symm);clear h6;refine hK.out _ _ (Gu H6.out) (fun nK => ?_);clear hK K hHeld;try simp only[Act.put,ZnK,Zqa,Zxo]
   refine wpAnyH_take (i:=11) (oi:=⟨some 26,_,_,_,_,_⟩) (v := ?v11) rfl (by kernel_rfl) (by kernel_rfl) (by kernel_rfl) (fun _ _ _ h=>h) (Or.inl ⟨by rfl,?bQ⟩) (by assumption) ?r11
   case bQ=>(intro w hSw;go_simp;try with_reducible rfl)
   try simp only[Act.put,ZnK,Zqa,Zxo]
   refine wpAnyH_take (i:=12) (oi:=⟨some 38,_,_,_,_,_⟩) (v := ?v12) rfl (by kernel_rfl) (by kernel_rfl) (by kernel_rfl) (fun _ _ _ h=>h) (Or.inl ⟨by rfl,?Xi⟩) (by assumption) ?r12
   case Xi=>(intro w hSw;go_simp;try with_reducible rfl)
   try simp only[Act.put,ZnK,Zqa,Zxo]
   refine wpAnyH_take (i:=13) (oi:=⟨some 39,_,_,_,_,_⟩) (v := ?v13) rfl (by kernel_rfl) (by kernel_rfl) (by kernel_rfl) (fun _ _ _ h=>h) (Or.inl ⟨by rfl,?y13⟩) (by assumption) ?r13
   case y13=>(intro w hSw;go_simp;try with_reducible rfl)
   try simp only[Act.put,ZnK,Zqa,Zxo]
   refine wpAnyH_ready (rs:=[14]) (by kernel_rfl) (by simp) ?_;refine AllReadyH.cons (o:=⟨some 10,_,_,_,_,_⟩) rfl (fun K hK => ?_) AllReadyH.nil;refine Y0 rfl rfl H6.out (fun B3 w7 h7 => ?_);refine hK.out _ _ (Gu h7.skip) (fun nL => ?_);clear hK K nK;try simp only[Act.put,ZnK,Zqa,Zxo]
   refine wpAnyH_ready (rs:=[15]) (by kernel_rfl) (by simp) ?_;refine AllReadyH.cons (o:=⟨none,_,_,_,_,_⟩) rfl (fun K hK => ?_) AllReadyH.nil;refine Pk (t:=59) (new:=dm tr) rfl _ _ rfl rfl rfl h7 gQ rfl (jU tr) (fun w9 h9 => ?_);refine hK.out _ _ (Gu h9.skip) (fun qh => ?_);clear hK K nL;try simp only[Act.put]
   refine wpAnyH_take (i:=16) (oi:=⟨some 11,_,_,_,_,_⟩) (v := ?v16) rfl (by kernel_rfl) (by kernel_rfl) (by kernel_rfl) (fun _ _ _ h=>h) (Or.inl ⟨by rfl,?Xl⟩) (by assumption) ?r16
   case Xl=>(intro w hSw;go_simp;try with_reducible rfl)
   try simp only[Act.put,ZnK,Zqa,Zxo]
   refine wpAnyH_done (by kernel_rfl) ?_ _;have H9:=ZkQ h9;clear h9 h7 qh H6 HA hcf HB;rcases HQ.out with⟨aK,rfl,rfl,rfl⟩|⟨rfl,rfl,rfl,rfl,rfl⟩
   ·clear HQ ng
    go_wp2_with fail
    exact⟨⟨k+1,rfl,by omega,H9.out.skip⟩,by simp[intOf];omega⟩
   ·clear HQ ng HR
    go_wp2_with (first
     |(refine qC (t:=59) (old:=dm tr) rfl _ rfl rfl Tryz.underlying59 H9.out gQ ?_))
    have H8:Hid (Own W (aY bc b0 bt c mn cp::(bt,.map es ck)::(B3,Obj.cells (dm tr) 59)::(B2,Obj.cells (dm t) 59)::(B,z17)::mB b0 b1 gr.length (cnt+1)::wB b1 gr::m) w9):=H9.out.perm (fO fun _ q=>by simp only[Zxv];omega);refine(Pb H8.out HV.out HI.out).mono ?_;rintro e Ej ⟨es',bO,rfl,k1,lX⟩;have K1:=ZkQ k1;have Em:Hid (Own W ((B,z17)::aY bc b0 bt c mn cp::(bt,.map es' bO)::mB b0 b1 gr.length (cnt+1)::wB b1 gr::(B3,Obj.cells (dm tr) 59)::(B2,Obj.cells (dm t) 59)::m) Ej):=lX.perm (fO fun _ q=>by simp only[Zxv];omega);have zf:=ZkQ (jU tr);clear k1 lX
    go_wp2_with (first
     |(refine jm (t:=59) (new:=dm tr) rfl _ _ rfl rfl rfl gQ Em.out rfl zf.out ?_;intro OM hT))
    have hT:Own W (tB B tr::aY bc b0 bt c mn cp::(bt,.map es' bO)::mB b0 b1 gr.length (cnt+1)::wB b1 gr::(B3,Obj.cells (dm tr) 59)::(B2,Obj.cells (dm t) 59)::m) OM:=hT;obtain⟨⟨x0,x1,x2,x3,x4,x5,x6,x7,x8,x9,x10,gz,gB,gD,gG,gH,fT⟩,-⟩:=iV (t:=tr) hT;have hT:Own W (tB B tr::(B3,Obj.cells (dm tr) 59)::(B2,Obj.cells (dm t) 59)::aY bc b0 bt c mn cp::(bt,.map es' bO)::mB b0 b1 gr.length (cnt+1)::wB b1 gr::m) OM:=hT.perm (fO fun _ q=>by simp only[Zxv];omega);exact bodyPost_ret (v:=.tuple #[bH tr,.int .i64 0]) (by simp[results,Tryz.f26,go_sem,x0,x1,x2,x3,x4,x5,x6,x7,x8,x9,x10,gz,gB,gD,gG,gH,fT,bH]) rfl ⟨es',bO,rfl,K1.out,hT.skip.skip.skip⟩
  ·refine Y0 rfl rfl HR.out.drew (fun B3 w7 h7 => ?_)
   refine hK.out _ _ (Gu h7.skip) (fun nK => ?_);clear hK K hHeld;try simp only[Act.put,ZnK,Zqa,Zxo]
   refine wpAnyH_ready (rs:=[10]) (by kernel_rfl) (by simp) ?_;refine AllReadyH.cons (o:=⟨some 37,_,_,_,_,_⟩) rfl (fun K hK => ?_) AllReadyH.nil;have HB:=ZkQ (h7.perm (ZsX _ _ _ _ _ _ _ _));clear h7;go_simp;refine(ng.out HB.out).mono ?_;rintro r w6 ⟨rfl,h6⟩;have H6:=ZkQ (h6.perm (ZsX _ _ _ _ _ _ _ _).symm);clear h6;refine hK.out _ _ (Gu H6.out.skip) (fun nL => ?_);clear hK K nK;try simp only[Act.put,ZnK,Zqa,Zxo]
   refine wpAnyH_take (i:=11) (oi:=⟨some 26,_,_,_,_,_⟩) (v := ?v11b) rfl (by kernel_rfl) (by kernel_rfl) (by kernel_rfl) (fun _ _ _ h=>h) (Or.inl ⟨by rfl,?Xh⟩) (by assumption) ?r11b
   case Xh=>(intro w hSw;go_simp;try with_reducible rfl)
   try simp only[Act.put,ZnK,Zqa,Zxo]
   refine wpAnyH_take (i:=12) (oi:=⟨some 38,_,_,_,_,_⟩) (v := ?v12b) rfl (by kernel_rfl) (by kernel_rfl) (by kernel_rfl) (fun _ _ _ h=>h) (Or.inl ⟨by rfl,?Xj⟩) (by assumption) ?r12b
   case Xj=>(intro w hSw;go_simp;try with_reducible rfl)
   try simp only[Act.put,ZnK,Zqa,Zxo]
   refine wpAnyH_take (i:=13) (oi:=⟨some 39,_,_,_,_,_⟩) (v := ?v13b) rfl (by kernel_rfl) (by kernel_rfl) (by kernel_rfl) (fun _ _ _ h=>h) (Or.inl ⟨by rfl,?Xk⟩) (by assumption) ?r13b
   case Xk=>(intro w hSw;go_simp;try with_reducible rfl)
   try simp only[Act.put,ZnK,Zqa,Zxo]
   refine wpAnyH_ready (rs:=[15]) (by kernel_rfl) (by simp) ?_;refine AllReadyH.cons (o:=⟨none,_,_,_,_,_⟩) rfl (fun K hK => ?_) AllReadyH.nil;refine Pk (t:=59) (new:=dm tr) rfl _ _ rfl rfl rfl H6.out gQ rfl (jU tr) (fun w9 h9 => ?_);refine hK.out _ _ (Gu h9.skip) (fun qh => ?_);clear hK K nL;try simp only[Act.put]
   refine wpAnyH_take (i:=16) (oi:=⟨some 11,_,_,_,_,_⟩) (v := ?v16b) rfl (by kernel_rfl) (by kernel_rfl) (by kernel_rfl) (fun _ _ _ h=>h) (Or.inl ⟨by rfl,?Xm⟩) (by assumption) ?r16b
   case Xm=>(intro w hSw;go_simp;try with_reducible rfl)
   try simp only[Act.put,ZnK,Zqa,Zxo]
   refine wpAnyH_done (by kernel_rfl) ?_ _;have H9:=ZkQ h9;clear h9 qh H6 HB hcf HA;rcases HQ.out with⟨aK,rfl,rfl,rfl⟩|⟨rfl,rfl,rfl,rfl,rfl⟩
   ·clear HQ ng
    go_wp2_with fail
    exact⟨⟨k+1,rfl,by omega,H9.out.skip⟩,by simp[intOf];omega⟩
   ·clear HQ ng HR
    go_wp2_with (first
     |(refine qC (t:=59) (old:=dm tr) rfl _ rfl rfl Tryz.underlying59 H9.out gQ ?_))
    have H8:Hid (Own W (aY bc b0 bt c mn cp::(bt,.map es ck)::(B3,Obj.cells (dm tr) 59)::(B2,Obj.cells (dm t) 59)::(B,z17)::mB b0 b1 gr.length (cnt+1)::wB b1 gr::m) w9):=H9.out.perm (fO fun _ q=>by simp only[Zxv];omega);refine(Pb H8.out HV.out HI.out).mono ?_;rintro e Ej ⟨es',bO,rfl,k1,lX⟩;have K1:=ZkQ k1;have Em:Hid (Own W ((B,z17)::aY bc b0 bt c mn cp::(bt,.map es' bO)::mB b0 b1 gr.length (cnt+1)::wB b1 gr::(B3,Obj.cells (dm tr) 59)::(B2,Obj.cells (dm t) 59)::m) Ej):=lX.perm (fO fun _ q=>by simp only[Zxv];omega);have zf:=ZkQ (jU tr);clear k1 lX
    go_wp2_with (first
     |(refine jm (t:=59) (new:=dm tr) rfl _ _ rfl rfl rfl gQ Em.out rfl zf.out ?_;intro OM hT))
    have hT:Own W (tB B tr::aY bc b0 bt c mn cp::(bt,.map es' bO)::mB b0 b1 gr.length (cnt+1)::wB b1 gr::(B3,Obj.cells (dm tr) 59)::(B2,Obj.cells (dm t) 59)::m) OM:=hT;obtain⟨⟨x0,x1,x2,x3,x4,x5,x6,x7,x8,x9,x10,gz,gB,gD,gG,gH,fT⟩,-⟩:=iV (t:=tr) hT;have hT:Own W (tB B tr::(B3,Obj.cells (dm tr) 59)::(B2,Obj.cells (dm t) 59)::aY bc b0 bt c mn cp::(bt,.map es' bO)::mB b0 b1 gr.length (cnt+1)::wB b1 gr::m) OM:=hT.perm (fO fun _ q=>by simp only[Zxv];omega);exact bodyPost_ret (v:=.tuple #[bH tr,.int .i64 0]) (by simp[results,Tryz.f26,go_sem,x0,x1,x2,x3,x4,x5,x6,x7,x8,x9,x10,gz,gB,gD,gG,gH,fT,bH]) rfl ⟨es',bO,rfl,K1.out,hT.skip.skip.skip⟩
end
end Cw
end Go.Proofs.YtfcpdlbkmkhhcaaGreatDoor
