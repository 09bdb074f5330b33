/-
  Texts of this claim, joined. No condition.
-/
import Derived.Test.YtfcpdlbkmkhhcaaGreatDoorCh1
import Derived.Test.YtfcpdlbkmkhhcaaGreatDoorCh14
import Derived.WalkMore
import Derived.Test.YtfcpdlbkmkhhcaaGreatDoorRows
import Derived.Test.YtfcpdlbkmkhhcaaGreatDoorCh13
import Derived.Test.YtfcpdlbkmkhhcaaGreatDoorCh10
import Derived.Test.YtfcpdlbkmkhhcaaGreatDoorCh12
namespace Go.Proofs.YtfcpdlbkmkhhcaaGreatDoor
set_option maxRecDepth 100000
set_option maxHeartbeats 40000000
namespace See
open Go.RowKit
attribute [local go_sem ↓] Go.wp_at_zero Go.wp_at_succ
def Rd (W:World)(m:List (Nat×Obj))(B o:Nat)(g:List Nat):Prop:=∀ ws,Own W m ws→∀ (j:Nat) (x:Nat),g[j]?=some x→ws.cell? ⟨B,o+j,none⟩=some (.int .u64 (x:Int))
theorem Rd.more {W:World}{m m':List (Nat×Obj)}{B o:Nat}{g:List Nat}(h:Rd W m B o g):Rd W (m'++m) B o g:=fun ws hw j x hj=>h ws hw.bD j x hj
def yG (out:List Int):Array Value:=((List.range 16).map fun (i:Nat)=>Value.bool (decide ((i:Int)∈out))).toArray
theorem Vn (out:List Int){i:Nat}(h:i<16):(yG out)[i]?=some (.bool (decide ((i:Int)∈out))):=by simp[yG,h]
theorem Zvt (out:List Int){i:Nat}(h:i<16):(yG out).setIfInBounds i (.bool true)=yG (out++[(i:Int)]):=by
 apply Array.ext_getElem?;intro j;rw[Array.getElem?_setIfInBounds];by_cases hj:j<16
 ·rw[Vn _ hj]
  by_cases hx:i=j
  ·subst hx;simp[yG,h]
  ·rw[if_neg hx,Vn _ hj]
   have:¬ (j:Int)=(i:Int):=fun e=>hx (by omega);simp[this]
 ·rw[if_neg (by omega),Zx1 (by simp[yG];omega),Zx1 (by simp[yG];omega)]
def JR:Value→Nat
 | .slice _ n _=>n
 |_=>0
def Kv (key:Nat)(w:Nat)(o:Int):Option Int:=qG w key o.toNat
section
variable {W w:World}{m:List (Nat×Obj)}{B o c:Nat}{g:List Nat}
def Zv1 (W:World)(m:List (Nat×Obj))(r:Option (List Int))(e:Ending)(w':World):Prop:=match r with
 |some l=>∃ v bs,e = .returned (.tuple #[v,.int .i64 0])∧Hid (lS true v l bs)∧Own W (bs++m) w'
 |none=>e = .returned (.tuple #[.slice none 0 0,.int .i64 150])∧Own W m w'
theorem ZvI (h:Own W m w)(hr:Rd W m B o g){n:Nat}(hn:g.length=n)(hg:n≤16)(hw:xX g)(_hnc:n≤c)(qK:c≤maxLen)(key:Nat)(hk:key<18446744073709551616)(first:Int)(h0 : -1≤first)(h1:first<n) :
 Calls Tryz.prog 70 #[.slice (some ⟨B,o,none⟩) n c,.int .u64 key,.int .i64 first] w (Zv1 W m (walk (Kv key) g (n+1) [] first)):=by
 obtain⟨R,hR⟩:=Zx9 (walk (Kv key) g (n+1) [] first);have HR:=ZkQ hR;have RY:=ZkQ hr;have HN:=ZkQ hn;have HW:=ZkQ hw;have HK:=ZkQ hk;have HC:=ZkQ qK;rw[hR];have Ro:(n:Int)≤16:=by omega
 have hb1:decide ((16:Int)<(n:Int))=false:=Zx7 (by omega);have Hu:decide (first < -1)=false:=Zx7 (by omega);have hb3:decide ((n:Int)≤first)=false:=Zx7 (by omega);clear hr hn hw hk qK hR
 go_enter Tryz.func70,Tryz.ntmps70
 go_wp2_with fail
 go_step3
 go_wp2_with fail
 go_step3
 go_wp2_with fail
 have h1:Own W ([(w.heap.size,.cells (yG []) 139)]++m) (w.alloc (.cells #[.bool false,.bool false,.bool false,.bool false,.bool false,.bool false,.bool false,.bool false,.bool false,.bool false,.bool false,.bool false,.bool false,.bool false,.bool false,.bool false] 139)):=h.new (.cells (yG []) 139);obtain⟨d,hd⟩:=Zx9 (w.heap.size);obtain⟨wa,eQ⟩:=Zx9 (w.alloc (.cells #[.bool false,.bool false,.bool false,.bool false,.bool false,.bool false,.bool false,.bool false,.bool false,.bool false,.bool false,.bool false,.bool false,.bool false,.bool false,.bool false] 139));rw[eQ,hd]at h1;rw[eQ,hd];have H1:=ZkQ h1;clear h1 hd eQ hb1 Hu hb3
 go_loopw [2,9] (fun iv ov wr=>∃ (i:Int) (out:List Int) (bs:List (Nat×Obj)),iv = .int .i64 i ∧ -1≤i∧i<n∧Hid (out.Nodup∧∀ x∈out,0≤x∧x<n)∧Hid (walk (Kv key) g (n+1 - out.length) out i=R)∧Hid (lS true ov out bs)∧Own W ([(d,.cells (yG out) 139)]++(bs++m)) wr) (fun _ ov _=>17 - JR ov)
 case atStart=>exact⟨first,[],[],rfl,h0,h1,⟨List.nodup_nil,fun x hx=>(by simp at hx)⟩,HR,gI.nil _ _ _,H1.out⟩
 case round =>
  clear H1 HR h0 h1 h;obtain⟨i,out,bs,rfl,i0,i1,oZ,xV,HO,hr⟩:=hrel;obtain⟨A8,c8,hv,-,-⟩:=HO.out.slice;subst hv;have Af:=few oZ.out.1 oZ.out.2;obtain⟨z,hz⟩:=Zx9 (out.length);have HZ:=ZkQ hz;rw[hz]at Af ⊢;by_cases Cu:i = -1
  ·subst Cu
   have hk:=xV.out;rw[hz,show n+1 - z=(n - z)+1 by omega]at hk;simp only[walk,if_true]at hk;have ku:=ZkQ hk;clear hz hk;go_wp2_with fail
   rw[Exit.noGoto_ret]
   go_ret2
   rw[← ku.out];exact⟨_,bs,rfl,by have:=HO.out;rw[HZ.out]at this;exact this,hr.bD⟩
  ·have J6:(i == -1)=false:=beq_eq_false_iff_ne.2 Cu
   obtain⟨j,rfl⟩:∃ j:Nat,i=j:=⟨i.toNat,by omega⟩;have Ih:j<16:=(by omega);have cj:=hr.cell ZnJ j;have fj:=hr.frozen ZnJ j;rw[Vn _ Ih]at cj;have ND:(0:Int)≤(j:Int):=(by omega);have hji1:(j:Int)<16:=(by omega);by_cases ja:(j:Int)∈out
   ·rw[Zx8 ja]at cj
    have hk:=xV.out;rw[hz,show n+1 - z=(n - z)+1 by omega]at hk;simp only[walk,Cu,ja,if_false,if_true]at hk;have ku:=ZkQ hk;clear hz hk;go_wp2_with fail
    rw[Exit.noGoto_ret]
    go_ret2
    rw[← ku.out];exact⟨rfl,hr.bD.bD⟩
   ·rw[Zx7 ja]at cj
    obtain⟨x,hx⟩:∃ x,g[j]?=some x:=⟨_,Zxp (by have:=HN.out;omega)⟩;have hxw:=HW.out x (Zxz hx);have jw:g.getD j 0=x:=(by rw[Zxx,hx];rfl);have aK:=Vq oZ.out.1 oZ.out.2 ND i1 ja;rw[hz]at aK;have fE:=fun w=>UB x key j hxw HK.out Ih w;have hk:=xV.out;rw[hz,show n+1 - z=(n - z)+1 by omega]at hk;simp only[walk,Cu,ja,if_false,Zx2,jw,Kv,HN.out]at hk;have dO:Own W ((d,.cells (yG out) 139)::(bs++m)) wr:=hr;have h2:=dO.set j (.bool true);rw[Zvt _ Ih]at h2;have h3:Own W (bs++((d,.cells (yG (out++[(j:Int)])) 139)::m)) _:=h2.perm List.perm_middle.symm;have h4:=h3.alloc (.cells #[.int .i64 (j:Int)] 3);have aX:=QE (wr.setCell ⟨d,j,none⟩ (.bool true)) (j:Int);rw[World.size_setCell]at aX;have jZ:(out++[(j:Int)]).Nodup∧∀ x∈out++[(j:Int)],0≤x∧x<n:=by
     refine⟨List.nodup_append.2 ⟨oZ.out.1,by simp,fun a ha b hb he => ?_⟩,fun x hx => ?_⟩
     ·simp at hb
      subst hb;subst he;exact ja ha
     ·rcases List.mem_append.1 hx with hx|hx
      ·exact oZ.out.2 x hx
      ·simp at hx
       subst hx;exact⟨ND,i1⟩
    have ze:=ZkQ jZ;have ni:=ZkQ aX;have HX:=ZkQ hx;have CS:Hid (lS true (.slice A8 z c8) out bs):=(by have:=HO.out;rw[hz]at this;exact this);have H4:=ZkQ h4;have hlen:out.length+[(j:Int)].length≤60000:=(by simp;omega);have HLEN:=ZkQ hlen;unfold Mq at fE;clear aX hx jZ h2 dO h3 h4 HO jw hxw hlen hz;cases Oq:qG x key j with
    |none =>
     rw[Oq]at fE hk;simp only at fE hk;have HS:=ZkQ fE;have ku:=ZkQ hk;clear fE hk Oq;go_wp2_with (first|(at_builtin;refine LQ rfl _ _ rfl rfl rfl CS.out H4.out ni.out HLEN.out ?_;intro v' w' bs' k1 k2 k3;have K1:=ZkQ k1;have cx:=RY.out _ k2.bD.skip j x HX.out;clear k1 k3)|(go_at_call 120;refine(HS.out _).mono ?_;rintro e w5 ⟨rfl,rfl⟩))
     rw[Exit.noGoto_ret]
     go_ret2
     rw[← ku.out];exact⟨rfl,k2.bD.skip⟩
    |some y =>
     rw[Oq]at fE hk;simp only at fE hk;obtain⟨y0,y1⟩:=Lu Oq;have HS:=ZkQ fE;clear fE Oq;by_cases hny:(n:Int)≤y
     ·rw[if_pos hny]at hk
      have ku:=ZkQ hk;clear hk;go_wp2_with (first|(at_builtin;refine LQ rfl _ _ rfl rfl rfl CS.out H4.out ni.out HLEN.out ?_;intro v' w' bs' k1 k2 k3;have K1:=ZkQ k1;have cx:=RY.out _ k2.bD.skip j x HX.out;clear k1 k3)|(go_at_call 120;refine(HS.out _).mono ?_;rintro e w5 ⟨rfl,rfl⟩))
      rw[Exit.noGoto_ret]
      go_ret2
      rw[← ku.out];exact⟨rfl,k2.bD.skip⟩
     ·rw[if_neg hny]at hk
      have ku:Hid (walk (Kv key) g (n+1 - (out++[(j:Int)]).length) (out++[(j:Int)]) y=R):=by
       show _=_;rw[Zxw,HZ.out,Zx5,show n+1 - (z+1)=n - z by omega];exact hk
      clear hk;have Wz:y<n:=(by omega);go_wp2_with (first|(at_builtin;refine LQ rfl _ _ rfl rfl rfl CS.out H4.out ni.out HLEN.out ?_;intro v' w' bs' k1 k2 k3;have K1:=ZkQ k1;have cx:=RY.out _ k2.bD.skip j x HX.out;clear k1 k3)|(go_at_call 120;refine(HS.out _).mono ?_;rintro e w5 ⟨rfl,rfl⟩))
      obtain⟨A9,c9,yN,-,-⟩:=K1.out.slice;rw[Zxw,HZ.out,Zx5]at yN;refine⟨⟨y,_,bs',rfl,y0,Wz,ze,ku,K1,?_⟩,?_⟩
      ·exact k2.perm ZxT
      ·rw[yN]
       simp[JR];omega
end
end See
namespace Apart
def Zr1 (i:Nat):List Nat:=[4 * i,4 * i+1,4 * i+2,4 * i+3]
def ZpU (C S O s:Nat):List Nat:=[4 * C+4+4 * s,4 * C+4+4 * s+1,4 * C+4+4 * s+2]++(List.range O).map fun i=>4 * C+4+4 * S+s * O+i
def pl (C S O:Nat):List Nat:=[4 * C,4 * C+1,4 * C+2]++((List.range C).flatMap Zr1++(List.range S).flatMap (ZpU C S O))
end Apart
namespace See
open Apart (pl Zr1 ZpU)
variable {c:Ch}{g g':List Nat}
theorem ZvG (hO:g.length=c.words){s:Nat}(hs:s<c.S){i:Nat}(hi:i<c.O):(links c g s)[i]?=some (at_ g (4 * c.C+4+4 * c.S+s * c.O+i)):=by
 have hm:s * c.O+c.O≤c.S * c.O:=by
  have:=ZxR c.O (show s+1≤c.S by omega);rw[Nat.succ_mul]at this;exact this
 unfold Ch.words at hO;unfold links at_;rw[List.getElem?_take,if_pos hi,List.getElem?_drop,Zxp (by omega),Zxx,Zxp (by omega)];rfl
theorem Zvb (hO:g.length=c.words){s:Nat}(hs:s<c.S):(links c g s).length=c.O:=by
 have hm:s * c.O+c.O≤c.S * c.O:=by
  have:=ZxR c.O (show s+1≤c.S by omega);rw[Nat.succ_mul]at this;exact this
 unfold Ch.words at hO;unfold links;rw[List.length_take,List.length_drop];omega
theorem LB {w:Nat}{s o:Int}(h:sO w=some (s,o)):(s = -1∧o = -1)∨(0≤s∧s<32 ∧ -1≤o∧o<16):=by
 unfold sO at h;split at h
 ·simp at h;omega
 ·split at h
  ·simp at h;omega
  ·cases h
end See
namespace bI
open Go Ex
def v (i:Nat):SE:=.var i
def l (n:Int):SE:=.lit n
def add (a b:SE):SE:=.iH .add a b
def mul (a b:SE):SE:=.iH .mul a b
def Ca:AV:=.agg [.sym .i64 (v 0),.sym .i64 (v 1),.sym .i64 (v 2),.sym .i64 (v 3),.sym .i64 (v 4),.sym .u64 (v 5)]
def is (e:SE):DT:=.is (.sym .i64 e)
def num (n:Int):DT:=.is (.int .i64 n)
def no:DT:=num (-1)
def oG (σ:Nat→Int):DT→Value
 | .leaf=>.bool true
 | .is a=>Ex.valOf σ a
 | .bad=>undef
 | .node c t e=>if c.ev σ=true then oG σ t else oG σ e
theorem LK {σ:Nat→Int}:∀ {d:DT} {x:Value},Ex.Ends σ d x→x=oG σ d
 | .leaf,_,h=>h
 | .is _,_,h=>h
 | .bad,_,h=>h.elim
 | .node c t e,x,h=>by
   unfold oG;rcases h with⟨h1,h2⟩|⟨h1,h2⟩
   ·rw[if_pos h1];exact LK h2
   ·rw[if_neg (by rw[h1];simp)];exact LK h2
def iv:Value→Int
 | .int _ n=>n
 |_=>0
def Jr (k:IntKind):DT→Bool
 | .is (.int k' _)=>decide (k=k')
 | .is (.sym k' _)=>decide (k=k')
 | .node _ t e=>Jr k t&&Jr k e
 | .bad=>true
 |_=>false
theorem Uf {σ:Nat→Int}{k:IntKind}:∀ {d:DT},Jr k d=true→¬ Cc σ d→oG σ d = .int k (iv (oG σ d))
 | .is a,h,_=>by
   cases a<;>simp[Jr]at h<;>subst h<;>simp[oG,Ex.valOf,iv]
 | .bad,_,h=>absurd trivial h
 | .leaf,h,_=>by cases h
 | .node c t e,h,hb=>by
   unfold Jr at h;rw[Zxu]at h;unfold oG;by_cases hc:c.ev σ=true
   ·rw[if_pos hc];exact Uf h.1 fun hx=>hb (.inl ⟨hc,hx⟩)
   ·rw[if_neg hc];exact Uf h.2 fun hx=>hb (.inr ⟨by simpa using hc,hx⟩)
def chain:List (SE×SE)→DT→DT→DT
 |[],_,y=>y
 |(a,b)::r,n,y=>.node (.lt a b) n (chain r n y)
def MG:DT:=chain [(v 0,l 1),(l 8,v 0),(v 1,l 1),(l 32,v 1),(v 2,l 1),(l 16,v 2),(v 3,l 0),(l 32,v 3),(v 4,l 0),(l 32,v 4)] (num 2) (num 0)
def yQ:dB:=.eq (v 8) (l 0)
def base:SE:=mul (l 4) (v 0)
def mQ:SE:=add base (l 4)
def links:SE:=add mQ (mul (l 4) (v 1))
def t0 (e:SE):DT:=.node yQ (is e) no
def t1 (n:Nat)(e:SE):DT:=.node yQ (.node (.lt (v 6) (l 0)) no (.node (.lt (v 6) (v n)) (is e) no)) (.node (.lt (v 6) (l 0)) no (.node (.lt (v 6) (v n)) no no))
def LZ:DT:=.node yQ (chain [(v 0,l 1),(l 8,v 0),(v 1,l 1),(l 32,v 1),(v 2,l 1),(l 16,v 2)] .bad (is (add links (mul (v 1) (v 2))))) (num 0)
def U7:DT:=t1 0 (mul (l 4) (v 6))
def ZtP:DT:=t1 0 (add (mul (l 4) (v 6)) (l 2))
def U8:DT:=t0 base
def U3:DT:=t0 (add base (l 1))
def ZtM:DT:=t0 (add base (l 2))
def UJ:DT:=t1 1 (add mQ (mul (l 4) (v 6)))
def U9:DT:=t1 1 (add (add mQ (mul (l 4) (v 6))) (l 2))
def U2:DT :=
 .node yQ (.node (.lt (v 6) (l 0)) no (.node (.lt (v 6) (v 1)) (.node (.lt (v 7) (l 0)) no (.node (.lt (v 7) (v 2)) (is (add (add links (mul (v 6) (v 2))) (v 7))) no)) no))
  (.node (.lt (v 6) (l 0)) no (.node (.lt (v 6) (v 1)) (.node (.lt (v 7) (l 0)) no (.node (.lt (v 7) (v 2)) no no)) no))
def Zuh:DT:=.is (.sym .u64 (.fH .add (v 5) (.fH .mul (.cv .u64 (v 6)) (l 11400714819323198485))))
section
variable (a b c d e key i k:Int)
def s0:Nat→Int:=fun n=>[a,b,c,d,e,key,i,k].getD n 0
def kL:Int:=iv (oG (s0 a b c d e key i k) MG)
def s1:Nat→Int:=fun n=>[a,b,c,d,e,key,i,k,kL a b c d e key i k].getD n 0
def val (t:DT):Int:=iv (oG (s1 a b c d e key i k) t)
def s2:Nat→Int:=fun n=>[a,b,c,d,e,key,i,k,kL a b c d e key i k,val a b c d e key i k LZ,val a b c d e key i k U7,val a b c d e key i k ZtP,val a b c d e key i k U8,val a b c d e key i k U3,val a b c d e key i k ZtM,val a b c d e key i k UJ,val a b c d e key i k U9,val a b c d e key i k U2,val a b c d e key i k Zuh].getD n 0
def Ok (a b c d e:Int):Prop:=1≤a∧a≤8∧1≤b∧b≤32∧1≤c∧c≤16∧0≤d∧d≤32∧0≤e∧e≤32
instance:Decidable (Ok a b c d e):=by unfold Ok;infer_instance
theorem Ur:oG (s0 a b c d e key i k) MG = .int .i64 (if Ok a b c d e then 0 else 2):=by
 simp only[MG,chain,oG,num,dB.ev,SE.ev,v,l,s0,Ex.valOf,List.getD_cons_zero,List.getD_cons_succ,decide_eq_true_eq,Ok];by_cases h1:a<1<;>by_cases h2:8<a<;>by_cases h3:b<1<;>by_cases h4:32<b<;>by_cases h5:c<1<;>by_cases h6:16<c<;>by_cases h7:d<0<;>by_cases h8:32<d<;>by_cases h9:e<0<;>by_cases lX:32<e<;>simp[*]<;>omega
theorem ZmS:¬ Cc (s1 a b c d e key i k) LZ:=by
 have VY:kL a b c d e key i k=if Ok a b c d e then 0 else 2:=by unfold kL;rw[Ur];rfl
 have e8:s1 a b c d e key i k 8=kL a b c d e key i k:=rfl;have e0:s1 a b c d e key i k 0=a:=rfl;have e1:s1 a b c d e key i k 1=b:=rfl;have e2:s1 a b c d e key i k 2=c:=rfl;intro h;simp only[LZ,chain,Cc,dB.ev,yQ,v,l,SE.ev,is,num,e8,e0,e1,e2,VY,decide_eq_true_eq,decide_eq_false_iff_not,beq_iff_eq,beq_eq_false_iff_ne,and_false,or_false,and_true]at h;by_cases uX:Ok a b c d e
 ·unfold Ok at uX
  omega
 ·simp[uX]at h
end
theorem known {σ σ':Nat→Int}{ov:Ov}(qw:zL Tryz.prog [] σ ov){f:FuncId}{xs:List AV}{t:DT}{k:IntKind}{e:SE}(ha:AV.shuts xs=true)(h:tree Tryz.prog [] ov 30 f xs t []=true)(hb:¬ Cc σ t)(hk:Jr k t=true)
 (he:eU σ' xs=eU σ xs) (hv:e.ev σ'=iv (oG σ t)) (w:World) (hg:jR [] w):Calls Tryz.prog f (eU σ' xs).toArray w fun r w'=>r = .returned (Ex.valOf σ' (.sym k e))∧RowKit.Below w.heap.size w w':=by
 rw[he];refine(Jk mixed qw ha t [] (by simp) h hb w hg).mono ?_;rintro _ _ ⟨⟨x,rfl,hx⟩,h2⟩;refine⟨?_,h2⟩;rw[LK hx,Uf hk hb];unfold Ex.valOf;rw[hv]
def Qy:DT→Bool
 | .bad=>true
 | .node _ t e=>Qy t||Qy e
 |_=>false
theorem EX {σ:Nat→Int}{t:DT}(h:Qy t=false):¬ Cc σ t:=by
 induction t with
 |leaf=>exact fun h=>h
 |is _=>exact fun h=>h
 |bad=>cases h
 |node c t e i1 i2 =>
  unfold Qy at h;rw[Bool.or_eq_false_iff]at h;rintro(⟨_,h1⟩|⟨_,h1⟩)
  ·exact i1 h.1 h1
  ·exact i2 h.2 h1
def i6:AV:=.sym .i64 (v 6)
def k7:AV:=.sym .i64 (v 7)
theorem Zq:tree Tryz.prog [] [] 30 20 [Ca] MG []=true:=by kernel_rfl
def Eg:Ov:=[(20,[Ca],.sym .i64 (v 8))]
theorem Zpd:tree Tryz.prog [] Eg 30 22 [Ca] LZ []=true:=by kernel_rfl
theorem ZwA:tree Tryz.prog [] Eg 30 51 [Ca,i6] U7 []=true:=by kernel_rfl
theorem ZwB:tree Tryz.prog [] Eg 30 33 [Ca] U8 []=true:=by kernel_rfl
theorem Zwk:tree Tryz.prog [] Eg 30 36 [Ca] U3 []=true:=by kernel_rfl
theorem Zpc:tree Tryz.prog [] Eg 30 41 [Ca,i6] UJ []=true:=by kernel_rfl
theorem ZwC:tree Tryz.prog [] Eg 30 55 [Ca,i6] U9 []=true:=by kernel_rfl
theorem Zrg:tree Tryz.prog [] Eg 30 29 [Ca,i6,k7] U2 []=true:=by kernel_rfl
section
variable {a b c d e key i k:Int}
theorem ok1:zL Tryz.prog [] (s1 a b c d e key i k) Eg :=
 Zq6 Qp rfl rfl ⟨Tryz.f20,_,Tryz.func20,by kernel_rfl,rfl⟩ (known (σ:=s0 a b c d e key i k) Qp rfl Zq (EX rfl) rfl rfl rfl)
end
end bI
namespace Apart
open Go Ex bI
abbrev tF (C S O d e key:Int):Value:=.agg #[.int .i64 C,.int .i64 S,.int .i64 O,.int .i64 d,.int .i64 e,.int .u64 key]
theorem lQ {n:Int}(h : -9223372036854775808≤n∧n≤9223372036854775807):IntKind.i64.wrap n=n:=by
 simp[IntKind.wrap,IntKind.signed,IntKind.bits];split<;>omega
section
variable {C S O d e key i k:Int}{W w:World}{m:List (Nat×Obj)}
theorem GZ (h:Ok C S O d e):s1 C S O d e key i k 8=0:=by
 show bI.kL C S O d e key i k=0;unfold bI.kL;rw[Ur,if_pos h];rfl
theorem place (_h:Ok C S O d e){f:FuncId}{xs:List AV}{t:DT}(ht:tree Tryz.prog [] Eg 30 f xs t []=true)(ha:AV.shuts xs=true)(hb:¬ Cc (s1 C S O d e key i k) t)(hO:Own W m w) :
 Calls Tryz.prog f (eU (s1 C S O d e key i k) xs).toArray w fun r w'=>r = .returned (oG (s1 C S O d e key i k) t)∧Own W m w':=by
 refine(Jk mixed ok1 ha t [] (by simp) ht hb w Zv).mono ?_;rintro _ _ ⟨⟨x,rfl,hx⟩,h2⟩;exact⟨by rw[LK hx],hO.O9 h2⟩
theorem ZsL (h:Ok C S O d e):0≤S * O∧S * O≤512:=by
 unfold Ok at h;have h1:S * O≤32 * O:=Int.mul_le_mul_of_nonneg_right (by omega) (by omega);have h2:0≤S * O:=Int.mul_nonneg (by omega) (by omega);omega
theorem Zox (h:Ok C S O d e)(hO:Own W m w):Calls Tryz.prog 20 #[tF C S O d e key] w fun r w'=>r = .returned (.int .i64 0)∧Own W m w':=by
 refine(Jk (σ:=s0 C S O d e key 0 0) mixed Qp (args:=[Ca]) rfl MG [] (by simp) Zq (EX rfl) w Zv).mono ?_;rintro _ _ ⟨⟨x,rfl,hx⟩,h2⟩;refine⟨?_,hO.O9 h2⟩;rw[LK hx,Ur,if_pos h]
theorem Zpw (h:Ok C S O d e)(hO:Own W m w):Calls Tryz.prog 22 #[tF C S O d e key] w fun r w'=>r = .returned (.int .i64 (4 * C+4+4 * S+S * O))∧Own W m w':=by
 refine(place (key:=key) (i:=0) (k:=0) h Zpd rfl (ZmS _ _ _ _ _ _ _ _) hO).mono ?_;rintro _ _ ⟨rfl,h2⟩;refine⟨?_,h2⟩;have hm:=ZsL h;have h8:=GZ (key:=key) (i:=0) (k:=0) h;have e0:s1 C S O d e key 0 0 0=C:=rfl;have e1:s1 C S O d e key 0 0 1=S:=rfl;have e2:s1 C S O d e key 0 0 2=O:=rfl;unfold Ok at h;simp only[LZ,chain,oG,dB.ev,yQ,v,l,SE.ev,is,num,h8,e0,e1,e2,Ex.valOf,add,mul,links,mQ,base,decide_eq_true_eq,beq_self_eq_true,if_true];rw[if_neg (by omega),if_neg (by omega),if_neg (by omega),if_neg (by omega),if_neg (by omega),if_neg (by omega)];rw[lQ (n:=4 * C) (by omega),lQ (n:=4 * C+4) (by omega),lQ (n:=4 * S) (by omega),lQ (n:=4 * C+4+4 * S) (by omega),lQ (n:=S * O) (by omega),lQ (n:=4 * C+4+4 * S+S * O) (by omega)]
theorem Zwz (h:Ok C S O d e)(hO:Own W m w):Calls Tryz.prog 33 #[tF C S O d e key] w fun r w'=>r = .returned (.int .i64 (4 * C))∧Own W m w':=by
 refine(place (key:=key) (i:=0) (k:=0) h ZwB rfl (EX rfl) hO).mono ?_;rintro _ _ ⟨rfl,h2⟩;refine⟨?_,h2⟩;have h8:=GZ (key:=key) (i:=0) (k:=0) h;have e0:s1 C S O d e key 0 0 0=C:=rfl;have e1:s1 C S O d e key 0 0 1=S:=rfl;have e2:s1 C S O d e key 0 0 2=O:=rfl;have e6:s1 C S O d e key 0 0 6=0:=rfl;have e7:s1 C S O d e key 0 0 7=0:=rfl;unfold Ok at h;simp only[U8,t0,oG,dB.ev,yQ,v,l,SE.ev,is,no,num,h8,e0,Ex.valOf,mul,base,beq_self_eq_true,if_true];rw[lQ (n:=4 * C) (by omega)]
theorem Zvp (h:Ok C S O d e)(hO:Own W m w):Calls Tryz.prog 36 #[tF C S O d e key] w fun r w'=>r = .returned (.int .i64 (4 * C+1))∧Own W m w':=by
 refine(place (key:=key) (i:=0) (k:=0) h Zwk rfl (EX rfl) hO).mono ?_;rintro _ _ ⟨rfl,h2⟩;refine⟨?_,h2⟩;have h8:=GZ (key:=key) (i:=0) (k:=0) h;have e0:s1 C S O d e key 0 0 0=C:=rfl;have e1:s1 C S O d e key 0 0 1=S:=rfl;have e2:s1 C S O d e key 0 0 2=O:=rfl;have e6:s1 C S O d e key 0 0 6=0:=rfl;have e7:s1 C S O d e key 0 0 7=0:=rfl;unfold Ok at h;simp only[U3,t0,oG,dB.ev,yQ,v,l,SE.ev,is,no,num,h8,e0,Ex.valOf,add,mul,base,beq_self_eq_true,if_true];rw[lQ (n:=4 * C) (by omega),lQ (n:=4 * C+1) (by omega)]
theorem Cb (h:Ok C S O d e)(hi:0≤i∧i<C)(hO:Own W m w):Calls Tryz.prog 51 #[tF C S O d e key,.int .i64 i] w fun r w'=>r = .returned (.int .i64 (4 * i))∧Own W m w':=by
 refine(place (key:=key) (i:=i) (k:=0) h ZwA rfl (EX rfl) hO).mono ?_;rintro _ _ ⟨rfl,h2⟩;refine⟨?_,h2⟩;have h8:=GZ (key:=key) (i:=i) (k:=0) h;have e0:s1 C S O d e key i 0 0=C:=rfl;have e1:s1 C S O d e key i 0 1=S:=rfl;have e2:s1 C S O d e key i 0 2=O:=rfl;have e6:s1 C S O d e key i 0 6=i:=rfl;have e7:s1 C S O d e key i 0 7=0:=rfl;unfold Ok at h;simp only[U7,t1,oG,dB.ev,yQ,v,l,SE.ev,is,no,num,h8,e0,e6,Ex.valOf,mul,decide_eq_true_eq,beq_self_eq_true,if_true];rw[if_neg (by omega),if_pos (by omega)];rw[lQ (n:=4 * i) (by omega)]
theorem Mk (h:Ok C S O d e)(hi:0≤i∧i<S)(hO:Own W m w):Calls Tryz.prog 41 #[tF C S O d e key,.int .i64 i] w fun r w'=>r = .returned (.int .i64 (4 * C+4+4 * i))∧Own W m w':=by
 refine(place (key:=key) (i:=i) (k:=0) h Zpc rfl (EX rfl) hO).mono ?_;rintro _ _ ⟨rfl,h2⟩;refine⟨?_,h2⟩;have h8:=GZ (key:=key) (i:=i) (k:=0) h;have e0:s1 C S O d e key i 0 0=C:=rfl;have e1:s1 C S O d e key i 0 1=S:=rfl;have e2:s1 C S O d e key i 0 2=O:=rfl;have e6:s1 C S O d e key i 0 6=i:=rfl;have e7:s1 C S O d e key i 0 7=0:=rfl;unfold Ok at h;simp only[UJ,t1,oG,dB.ev,yQ,v,l,SE.ev,is,no,num,h8,e0,e1,e6,Ex.valOf,add,mul,mQ,base,decide_eq_true_eq,beq_self_eq_true,if_true];rw[if_neg (by omega),if_pos (by omega)];rw[lQ (n:=4 * C) (by omega),lQ (n:=4 * C+4) (by omega),lQ (n:=4 * i) (by omega),lQ (n:=4 * C+4+4 * i) (by omega)]
theorem ZvJ (h:Ok C S O d e)(hi:0≤i∧i<S)(hO:Own W m w):Calls Tryz.prog 55 #[tF C S O d e key,.int .i64 i] w fun r w'=>r = .returned (.int .i64 (4 * C+4+4 * i+2))∧Own W m w':=by
 refine(place (key:=key) (i:=i) (k:=0) h ZwC rfl (EX rfl) hO).mono ?_;rintro _ _ ⟨rfl,h2⟩;refine⟨?_,h2⟩;have h8:=GZ (key:=key) (i:=i) (k:=0) h;have e0:s1 C S O d e key i 0 0=C:=rfl;have e1:s1 C S O d e key i 0 1=S:=rfl;have e2:s1 C S O d e key i 0 2=O:=rfl;have e6:s1 C S O d e key i 0 6=i:=rfl;have e7:s1 C S O d e key i 0 7=0:=rfl;unfold Ok at h;simp only[U9,t1,oG,dB.ev,yQ,v,l,SE.ev,is,no,num,h8,e0,e1,e6,Ex.valOf,add,mul,mQ,base,decide_eq_true_eq,beq_self_eq_true,if_true];rw[if_neg (by omega),if_pos (by omega)];rw[lQ (n:=4 * C) (by omega),lQ (n:=4 * C+4) (by omega),lQ (n:=4 * i) (by omega),lQ (n:=4 * C+4+4 * i) (by omega),lQ (n:=4 * C+4+4 * i+2) (by omega)]
theorem UZ (h:Ok C S O d e)(hi:0≤i∧i<S)(hk:0≤k∧k<O)(hO:Own W m w):Calls Tryz.prog 29 #[tF C S O d e key,.int .i64 i,.int .i64 k] w fun r w'=>r = .returned (.int .i64 (4 * C+4+4 * S+i * O+k))∧Own W m w':=by
 refine(place (key:=key) (i:=i) (k:=k) h Zrg rfl (EX rfl) hO).mono ?_;rintro _ _ ⟨rfl,h2⟩;refine⟨?_,h2⟩;have hm:0≤i * O∧i * O≤32 * O:=⟨Int.mul_nonneg (by omega) (by omega),Int.mul_le_mul_of_nonneg_right (by unfold Ok at h;omega) (by omega)⟩;have h8:=GZ (key:=key) (i:=i) (k:=k) h;have e0:s1 C S O d e key i k 0=C:=rfl;have e1:s1 C S O d e key i k 1=S:=rfl;have e2:s1 C S O d e key i k 2=O:=rfl;have e6:s1 C S O d e key i k 6=i:=rfl;have e7:s1 C S O d e key i k 7=k:=rfl;unfold Ok at h;simp only[U2,oG,dB.ev,yQ,v,l,SE.ev,is,no,num,h8,e0,e1,e2,e6,e7,Ex.valOf,add,mul,links,mQ,base,decide_eq_true_eq,beq_self_eq_true,if_true];rw[if_neg (by omega),if_pos (by omega),if_neg (by omega),if_pos (by omega)];rw[lQ (n:=4 * C) (by omega),lQ (n:=4 * C+4) (by omega),lQ (n:=4 * S) (by omega),lQ (n:=4 * C+4+4 * S) (by omega),lQ (n:=i * O) (by omega),lQ (n:=4 * C+4+4 * S+i * O) (by omega),lQ (n:=4 * C+4+4 * S+i * O+k) (by omega)]
end
section
open Go.RowKit
variable {W w:World}{m:List (Nat×Obj)}
def uH (b:Nat)(C S O d e key:Int):Nat×Obj:=(b,.cells #[.int .i64 C,.int .i64 S,.int .i64 O,.int .i64 d,.int .i64 e,.int .u64 key] 24)
def Vb (w:World)(b:Nat)(C S O d e key:Int):Prop :=
 w.cell? ⟨b,0,none⟩=some (.int .i64 C)∧w.cell? ⟨b,1,none⟩=some (.int .i64 S)∧w.cell? ⟨b,2,none⟩=some (.int .i64 O)∧w.cell? ⟨b,3,none⟩=some (.int .i64 d)∧w.cell? ⟨b,4,none⟩=some (.int .i64 e)∧w.cell? ⟨b,5,none⟩=some (.int .u64 key)
theorem tC {b:Nat}{C S O d e key:Int}(h:Own W (uH b C S O d e key::m) w):Vb w b C S O d e key :=
 ⟨h.cell ZnJ 0,h.cell ZnJ 1,h.cell ZnJ 2,h.cell ZnJ 3,h.cell ZnJ 4,h.cell ZnJ 5⟩
end
end Apart
section
open Go.RowKit
section
variable {W w:World}{m:List (Nat×Obj)}{e size n:Nat}{v:Value}{xs:List Value}{bs:List (Nat×Obj)}{P:Program}
theorem Zpo {ops:Array Oper}{o:Oper}{a:Act}{K:Act→World→Prop}{Q:Exit→Act→World→Prop}{E:Prop}(jw:o.guard=none)(s x:Operand)(t:TypeId)
 (ho:o.op = .call { callee:=.builtin .append,args:=#[s,x],argTypes:=#[t,t] }) {v xv:Value} (oM:a.eval s=v) (hex:a.eval x=xv)
 (e:TypeId) (i:TypeInfo) (z:Value) (size bytes:Nat) (ht:P.underlying t=some (.slice e)) (hi:P.info? e=some i) (hz:i.zero=some z)
 (nU:i.size=size) (kV:i.bytes=bytes) (xO:z.cells.size=size) (dn:0<size)
 (hs:Jz e size v n xs bs) (hO:Own W (bs++m) w) {k:Nat} {news:List Value} (hx:Src w size xv k news) (h1:∀ u∈news,u.oneCell'=true)
 (uN:n+k≤maxLen) (lF:(n+k) * bytes≤140737488355328)
 (h:∀ v' w' bs',Jz e size v' (n+k) (xs++news) bs'→Own W (bs'++m) w'→K (a.put o.dst v') w') :
 if Region.wanted o (yielded ops a.tmps)=true then Oper.wp P o a w K Q else E:=by
 have hw:Region.wanted o (yielded ops a.tmps)=true:=by simp[Region.wanted,jw]
 rw[if_pos hw];obtain⟨v',w',bs',hr,h2,h3,h4⟩:=ZW (P:=P) t o.type e i z size bytes ht hi hz nU kV xO dn hs hO hx h1 uN lF;unfold Oper.wp execOp;simp only[ho,resolve,invoke,builtin,Zxy,ZxM,Zxs,List.map_toArray,List.map_cons,List.map_nil,oM,hex,hr];exact h v' w' bs' h2 h3
end
end
end Go.Proofs.YtfcpdlbkmkhhcaaGreatDoor
