/-
  Texts of this claim, joined. No condition.
-/
import Derived.Test.YtfcpdlbkmkhhcaaGreatDoorCh1
import Derived.Test.YtfcpdlbkmkhhcaaGreatDoorCh13
import Derived.Test.YtfcpdlbkmkhhcaaGreatDoorCh10
import Derived.Test.YtfcpdlbkmkhhcaaGreatDoorCh12
namespace Go.Proofs.YtfcpdlbkmkhhcaaGreatDoor
set_option maxRecDepth 100000
set_option maxHeartbeats 40000000
namespace See
open Go.RowKit
attribute [local go_sem ↓] Go.wp_at_zero Go.wp_at_succ
def GN (a b:Int)(f l:Bool):Bool:=decide ((l=true∧1≤b∧b≤16∧0≤a∧a≤b)∨(a=0∧b=0∧f=false∧l=false))
section
variable {W w:World}{m:List (Nat×Obj)}
theorem CZ (h:Own W m w)(a b:Int)(f l:Bool):Calls Tryz.prog 74 #[.agg #[.int .i64 a,.int .i64 b,.bool f,.bool l]] w fun e w'=>e = .returned (.bool (GN a b f l))∧Own W m w':=by
 have h0:=h.alloc (.cells #[.int .i64 a,.int .i64 b,.bool f,.bool l] 47);cases hm:GN a b f l with
 |true =>
  rcases Zx6 hm with⟨rfl,h1,h2,h3,h4⟩|⟨rfl,rfl,rfl,rfl⟩
  ·clear hm
   go_enter Tryz.func74,Tryz.ntmps74
   go_wp2_with fail
   go_ret;exact⟨rfl,h0⟩
  ·clear hm
   go_enter Tryz.func74,Tryz.ntmps74
   go_wp2_with fail
   go_ret;exact⟨rfl,h0⟩
 |false =>
  have hm:=of_decide_eq_false hm;cases l with
  |false =>
   have hn:¬ (a=0∧b=0∧f=false):=fun hh=>hm (.inr ⟨hh.1,hh.2.1,hh.2.2,rfl⟩);by_cases ha:a=0
   ·by_cases hb:b=0
    ·have hf:f=true:=by
      cases f
      ·exact absurd ⟨ha,hb,rfl⟩ hn
      ·rfl
     subst ha hb hf;clear hm hn
     go_enter Tryz.func74,Tryz.ntmps74
     go_wp2_with fail
     go_ret;exact⟨rfl,h0⟩
    ·have Cq:(b==0)=false:=beq_eq_false_iff_ne.2 hb
     subst ha;clear hm hn
     go_enter Tryz.func74,Tryz.ntmps74
     go_wp2_with fail
     go_ret;exact⟨rfl,h0⟩
   ·have Ho:(a==0)=false:=beq_eq_false_iff_ne.2 ha
    clear hm hn
    go_enter Tryz.func74,Tryz.ntmps74
    go_wp2_with fail
    go_ret;exact⟨rfl,h0⟩
  |true =>
   have hn:¬ (1≤b∧b≤16∧0≤a∧a≤b):=fun hh=>hm (.inl ⟨rfl,hh⟩);clear hm;rcases(show b<1∨(1≤b∧16<b)∨(1≤b∧b≤16∧a<0)∨(1≤b∧b≤16∧0≤a∧b<a) by omega) with h1|⟨h1,h2⟩|⟨h1,h2,h3⟩|⟨h1,h2,h3,h4⟩
   all_goals
    clear hn;try have h5:¬ a≤b:=by omega
    go_enter Tryz.func74,Tryz.ntmps74
    go_wp2_with fail
    go_ret;exact⟨rfl,h0⟩
theorem ZQ (x k:Nat)(hx:x<18446744073709551616)(hk:k<64):bits .and .u64 (x:Int) ((2 ^ k:Nat):Int)=((2 ^ k * (x / 2 ^ k % 2):Nat):Int):=by
 have hp:2 ^ k<18446744073709551616:=by
  have:=Nat.pow_lt_pow_right (a:=2) (by omega) hk;exact this
 rw[u64_and_nat x (2 ^ k) hx hp]
 congr 1
 have ht:x.testBit k=decide (x / 2 ^ k % 2=1):=Nat.testBit_eq_decide_div_mod_eq;apply Nat.eq_of_testBit_eq;intro i;rw[Nat.testBit_and,Nat.testBit_two_pow];rcases(show x / 2 ^ k % 2=0∨x / 2 ^ k % 2=1 by omega) with h|h
 ·rw[h,Nat.mul_zero,Nat.zero_testBit]
  by_cases Ai:k=i
  ·subst Ai;rw[ht,h];simp
  ·simp[Ai]
 ·rw[h,Nat.mul_one,Nat.testBit_two_pow]
  by_cases Ai:k=i
  ·subst Ai;rw[ht,h];simp
  ·simp[Ai]
def Qi (w:Nat):Value:=match sM w with
 |some c=>.tuple #[.agg #[.int .i64 c.ay,.int .i64 c.objects,.bool c.frozen,.bool c.live],.bool true]
 |none=>.tuple #[.agg #[.int .i64 0,.int .i64 0,.bool false,.bool false],.bool false]
theorem Zja (x:Nat)(hx:x<262144):sM x=if GN ((x % 256:Nat):Int) ((x / 256 % 256:Nat):Int) (decide (x / 65536 % 2=1)) (decide (x / 131072 % 2=1))=true then some ⟨x % 256,x / 256 % 256,decide (x / 65536 % 2=1),decide (x / 131072 % 2=1)⟩ else none:=by
 unfold sM GN;by_cases h0:x=0
 ·subst h0
  decide
 ·rw[if_neg h0]
  by_cases hl:x / 131072 % 2=1
  ·rw[Zx8 hl]
   by_cases h1:131072≤x∧x<262144∧1≤x / 256 % 256∧x / 256 % 256≤16∧x % 256≤x / 256 % 256
   ·rw[if_pos h1,if_pos (Zx8 (.inl ⟨rfl,by omega⟩))]
   ·rw[if_neg h1,if_neg]
    intro h2;rcases Zx6 h2 with⟨-,h3⟩|⟨-,-,-,h3⟩
    ·omega
    ·cases h3
  ·rw[Zx7 hl,if_neg (by omega),if_neg]
   intro h2;rcases Zx6 h2 with⟨h3,-⟩|⟨h3,h4,h5,-⟩
   ·cases h3
   ·have h5:=of_decide_eq_false h5
    omega
theorem Zi9 (x:Nat)(hx:262144≤x):sM x=none:=by
 unfold sM;rw[if_neg (by omega),if_neg (by omega)]
theorem Ze (h:Own W m w)(x:Nat)(hx:x<18446744073709551616):Calls Tryz.prog 57 #[.int .u64 x] w fun e w'=>e = .returned (Qi x)∧Own W m w':=by
 have a1:=ZpD x hx;have a2:=ZpD (x / 256) (by omega);have hd:(x:Int) / 256=((x / 256:Nat):Int):=by omega
 have a3:=ZQ x 16 hx (by omega);have a4:=ZQ x 17 hx (by omega);rw[show(2:Nat) ^ 16=65536 from rfl]at a3;rw[show(2:Nat) ^ 17=131072 from rfl]at a4;have mU:=Zja x;have DW:=Zi9 x;unfold Qi;obtain⟨A,hA⟩:=Zx9 (x % 256);obtain⟨Q,hQ⟩:=Zx9 (x / 256);obtain⟨B,hB⟩:=Zx9 (Q % 256);obtain⟨F,hF⟩:=Zx9 (x / 65536 % 2);obtain⟨L,hL⟩:=Zx9 (x / 131072 % 2);rw[hA]at a1;rw[hQ]at hd a2;rw[hB]at a2;rw[hF]at a3;rw[hL]at a4;rw[hA,hQ,hB,hF,hL]at mU;have A255:A≤255:=by omega
 have B255:B≤255:=by omega
 have F2:F=0∨F=1:=by omega
 have L2:L=0∨L=1:=by omega
 have b3:(bits .and .u64 (x:Int) 65536 != 0)=decide (F=1):=by
  have a3:bits .and .u64 (x:Int) 65536=((65536 * F:Nat):Int):=a3;rw[a3];rcases F2 with rfl|rfl<;>rfl
 have b4:(bits .and .u64 (x:Int) 131072 != 0)=decide (L=1):=by
  have a4:bits .and .u64 (x:Int) 131072=((131072 * L:Nat):Int):=a4;rw[a4];rcases L2 with rfl|rfl<;>rfl
 obtain⟨f,hf⟩:=Zx9 (decide (F=1));obtain⟨l,hl⟩:=Zx9 (decide (L=1));rw[hf]at b3 mU;rw[hl]at b4 mU;have h1:=h.new (.cells #[.int .i64 0,.int .i64 0,.bool false,.bool false] 47);have h2:=h1.new (.cells #[.int .i64 A,.int .i64 B,.bool f,.bool l] 47);simp only[World.size_alloc]at h2;obtain⟨g,hg⟩:=Zx9 (w.heap.size);rw[hg]at h1 h2;have c1:=h1.cell ZnJ;have f1:=h1.frozen ZnJ;clear hA hQ hB hF hL hf hl a3 a4 F2 L2 hx;by_cases kE:x<262144
 ·have hc:=mU kE
  have hx:decide ((262144:Int)≤x)=false:=Zx7 (by omega);have hm:=fun ws (hs:Own W ((g+1,Obj.cells #[.int .i64 A,.int .i64 B,.bool f,.bool l] 47 (0,0))::(g,Obj.cells #[.int .i64 0,.int .i64 0,.bool false,.bool false] 47 (0,0))::m) ws)=>CZ hs A B f l;cases oU:GN A B f l with
  |true =>
   rw[oU]at hc hm;simp only[if_true]at hc;have HM:=ZkQ hm;rw[hc];clear hc kE mU DW hm oU
   go_enter Tryz.func57,Tryz.ntmps57
   go_wp2_with fail
   refine(HM.out _ h2).mono ?_;rintro e w3 ⟨rfl,h3⟩;have q:=h3.cell ZnJ;have u:=h3.frozen (ZnQ _ ZnJ);have q0:=q 0;have q1:=q 1;have q2:=q 2;have q3:=q 3;have u0:=u 0;have u1:=u 1;have u2:=u 2;have u3:=u 3;simp at q0 q1 q2 q3;have z:=h3.cell (ZnQ _ ZnJ);have z0:=z 0;have z1:=z 1;have z2:=z 2;have z3:=z 3;simp at z0 z1 z2 z3;clear q u z b3 b4 a1 a2 hd;go_wp2_with fail
   have h4:Own W ([(g+1,Obj.cells #[.int .i64 A,.int .i64 B,.bool f,.bool l] 47 (0,0))]++(g,Obj.cells #[.int .i64 0,.int .i64 0,.bool false,.bool false] 47 (0,0))::m) w3:=h3;have h5:=(((h4.EQ 0 (.int .i64 A)).EQ 1 (.int .i64 B)).EQ 2 (.bool f)).EQ 3 (.bool l);have ec:=h5.cell (ZxU _ ZnJ);have e0:=ec 0;have e1:=ec 1;have e2:=ec 2;have e3:=ec 3;simp at e0 e1 e2 e3;exact bodyPost_ret (v:=.tuple #[.agg #[(.int .i64 A),(.int .i64 B),(.bool f),(.bool l)],.bool true]) (by simp[results,Tryz.f57,go_sem,e0,e1,e2,e3]) rfl ⟨rfl,h5.drop1.bD⟩
  |false =>
   rw[oU]at hc hm;simp only[Bool.false_eq_true,if_false]at hc;have HM:=ZkQ hm;rw[hc];clear hc kE mU DW hm oU
   go_enter Tryz.func57,Tryz.ntmps57
   go_wp2_with fail
   refine(HM.out _ h2).mono ?_;rintro e w3 ⟨rfl,h3⟩;have q:=h3.cell ZnJ;have u:=h3.frozen (ZnQ _ ZnJ);have q0:=q 0;have q1:=q 1;have q2:=q 2;have q3:=q 3;have u0:=u 0;have u1:=u 1;have u2:=u 2;have u3:=u 3;simp at q0 q1 q2 q3;have z:=h3.cell (ZnQ _ ZnJ);have z0:=z 0;have z1:=z 1;have z2:=z 2;have z3:=z 3;simp at z0 z1 z2 z3;clear q u z b3 b4 a1 a2 hd;go_wp2_with fail
   have h4:Own W ([(g+1,Obj.cells #[.int .i64 A,.int .i64 B,.bool f,.bool l] 47 (0,0))]++(g,Obj.cells #[.int .i64 0,.int .i64 0,.bool false,.bool false] 47 (0,0))::m) w3:=h3;have h5:=(((h4.EQ 0 (.int .i64 0)).EQ 1 (.int .i64 0)).EQ 2 (.bool false)).EQ 3 (.bool false);have ec:=h5.cell (ZxU _ ZnJ);have e0:=ec 0;have e1:=ec 1;have e2:=ec 2;have e3:=ec 3;simp at e0 e1 e2 e3;exact bodyPost_ret (v:=.tuple #[.agg #[(.int .i64 0),(.int .i64 0),(.bool false),(.bool false)],.bool false]) (by simp[results,Tryz.f57,go_sem,e0,e1,e2,e3]) rfl ⟨rfl,h5.drop1.bD⟩
 ·have hc:=DW (by omega)
  have hx:¬ (x:Int)<262144:=by omega
  rw[hc];clear hc kE mU DW
  go_enter Tryz.func57,Tryz.ntmps57
  go_wp2_with fail
  have ec:=h2.cell (ZnQ _ ZnJ);have e0:=ec 0;have e1:=ec 1;have e2:=ec 2;have e3:=ec 3;simp at e0 e1 e2 e3;exact bodyPost_ret (v:=.tuple #[.agg #[.int .i64 0,.int .i64 0,.bool false,.bool false],.bool false]) (by simp[results,Tryz.f57,go_sem,e0,e1,e2,e3]) rfl ⟨rfl,h2.skip.skip⟩
end
end See
namespace See
open Go.RowKit
attribute [local go_sem ↓] Go.wp_at_zero Go.wp_at_succ
def rotl (x s:Nat):Nat:=(x <<< s) % 18446744073709551616 ||| x >>> (64 - s)
theorem ZsV (x s:Nat)(hx:x<18446744073709551616):x >>> s<18446744073709551616:=by
 rw[Nat.shiftRight_eq_div_pow];exact Nat.lt_of_le_of_lt (Nat.div_le_self _ _) hx
theorem Zpg (x s:Nat)(hx:x<18446744073709551616):bits .or .u64 (IntKind.u64.wrap ((x:Int) * 2 ^ s)) ((x:Int) / 2 ^ (64 - s))=((rotl x s:Nat):Int):=by
 unfold rotl;rw[← u64_or_nat _ _ (Nat.mod_lt _ (by omega)) (ZsV x _ hx),IntKind.wrap_u64,Nat.shiftLeft_eq,Nat.shiftRight_eq_div_pow]
 congr 1
 all_goals push_cast;rfl
theorem Zph (x k:Nat)(hx:x<18446744073709551616)(hk:k≤75)(w:World):Calls Tryz.prog 179 #[.int .u64 x,.int .i64 k] w fun e w'=>e = .returned (.int .u64 (rotl x (k % 64):Nat))∧w=w':=by
 have ha:=UM k (by omega);obtain⟨s,hs⟩:=Zx9 (k % 64);have hs64:s<64:=by omega
 rw[hs]at ha ⊢;have hb:=ZkQ (Zpg x s hx);clear hs hx
 go_enter Tryz.func179,Tryz.ntmps179
 go_wp2_with fail
 go_ret;exact⟨by rw[← hb.out];rfl,rfl⟩
theorem YM (key n:Nat):turned key n=(rotl key (5 * n % 64)+n * 2654435769) % 18446744073709551616:=rfl
theorem PO (key n:Nat):turned key n<18446744073709551616:=by
 rw[YM];exact Nat.mod_lt _ (by omega)
theorem Yt (key n:Nat)(hx:key<18446744073709551616)(hn:n<16)(w:World):Calls Tryz.prog 168 #[.int .u64 key,.int .i64 n] w fun e w'=>e = .returned (.int .u64 (turned key n:Nat))∧w=w':=by
 have hr:=fun w=>Zph key (5 * n) hx (by omega) w;rw[show((5 * n:Nat):Int)=5 * (n:Int) by omega]at hr;have HR:=ZkQ hr;have hv:IntKind.u64.wrap ((rotl key (5 * n % 64):Int)+(n:Int) * 2654435769)=((turned key n:Nat):Int):=by
  rw[YM,IntKind.wrap_u64];omega
 have HV:=ZkQ hv;clear hr hx hv
 go_enter Tryz.func168,Tryz.ntmps168
 go_wp2_with (go_at_call 179;refine(HR.out _).mono ?_;rintro e w' ⟨rfl,rfl⟩)
 go_ret;exact⟨by rw[← HV.out];rfl,rfl⟩
def Xe (i:Int):Bool:=decide (0≤i∧i<16)
theorem LG {i:Int}(h:0≤i∧i<16):Xe i=true:=Zx8 h
theorem Qm {i:Int}(h:¬ (0≤i∧i<16)):Xe i=false:=Zx7 h
theorem Sq (i:Int)(w:World):Calls Tryz.prog 167 #[.int .i64 i] w fun e w'=>e = .returned (.bool (Xe i))∧w=w':=by
 by_cases h0:0≤i
 ·by_cases h1:i<16
  ·rw[LG ⟨h0,h1⟩]
   go_enter Tryz.func167,Tryz.ntmps167
   go_wp2_with fail
   go_ret;exact⟨rfl,rfl⟩
  ·rw[Qm (by omega)]
   go_enter Tryz.func167,Tryz.ntmps167
   go_wp2_with fail
   go_ret;exact⟨rfl,rfl⟩
 ·rw[Qm (by omega)]
  go_enter Tryz.func167,Tryz.ntmps167
  go_wp2_with fail
  go_ret;exact⟨rfl,rfl⟩
def Mq (x key:Nat)(n:Nat):Value:=match qG x key n with
 |some i=>.tuple #[.int .i64 i,.bool true]
 |none=>.tuple #[.int .i64 0,.bool false]
theorem Lu {x key n:Nat}{i:Int}(h:qG x key n=some i) : -1≤i∧i<16:=by
 unfold qG at h;split at h
 ·simp at h;omega
 ·cases h
theorem UB (x key n:Nat)(hx:x<18446744073709551616)(hk:key<18446744073709551616)(hn:n<16)(w:World):Calls Tryz.prog 120 #[.int .u64 x,.int .u64 key,.int .i64 n] w fun e w'=>e = .returned (Mq x key n)∧w=w':=by
 have ht:=fun w=>Yt key n hk hn w;have hb:=u64_xor_nat x (turned key n) hx (PO key n);unfold Mq qG;obtain⟨T,hT⟩:=Zx9 (turned key n);obtain⟨X,hX⟩:=Zx9 (x ^^^ T);rw[hT]at ht hb ⊢;rw[hX]at hb ⊢;have ho:=fun w=>Sq (n:Int) w;rw[LG (by omega)]at ho;have HT:=ZkQ ht;have HO:=ZkQ ho;clear ht ho hT hX hx hk;by_cases hc:X≤16
 ·have VZ:decide ((16:Int)<X)=false:=Zx7 (by omega)
  rw[if_pos hc]
  go_enter Tryz.func120,Tryz.ntmps120
  go_wp2_with (first|(go_at_call 167;refine(HO.out _).mono ?_;rintro e w' ⟨rfl,rfl⟩)|(go_at_call 168;refine(HT.out _).mono ?_;rintro e w' ⟨rfl,rfl⟩))
  go_ret2
  exact⟨rfl,rfl⟩
 ·have VZ:decide ((16:Int)<X)=true:=Zx8 (by omega)
  rw[if_neg hc]
  go_enter Tryz.func120,Tryz.ntmps120
  go_wp2_with (first|(go_at_call 167;refine(HO.out _).mono ?_;rintro e w' ⟨rfl,rfl⟩)|(go_at_call 168;refine(HT.out _).mono ?_;rintro e w' ⟨rfl,rfl⟩))
  go_ret2
  exact⟨rfl,rfl⟩
def fZ (i:Int)(key n:Nat):Nat:=(i+1).toNat ^^^ turned key n
end See
namespace Fast
open Go Mem See
open Go.RowKit
attribute [local go_sem ↓] Go.wp_at_zero Go.wp_at_succ
section
variable {W w:World}{m:List (Nat×Obj)}{n key:Nat}
end
end Fast
namespace See
open Go.RowKit
attribute [local go_sem ↓] Go.wp_at_zero Go.wp_at_succ
section
variable {W w:World}{m:List (Nat×Obj)}
theorem Y5 (f:Bool)(x:Nat)(w:World):Calls Tryz.prog 173 #[.bool f,.int .u64 x] w fun e w'=>e = .returned (.int .u64 ((if f then x else 0:Nat):Int))∧w=w':=by
 cases f
 all_goals
  go_enter Tryz.func173,Tryz.ntmps173
  go_wp2_with fail
  go_ret;exact⟨rfl,rfl⟩
theorem Qx (x:Nat)(w:World):Calls Tryz.prog 173 #[.bool true,.int .u64 x] w fun e w'=>e = .returned (.int .u64 (x:Int))∧w=w':=Y5 true x w
theorem Qw (x:Nat)(w:World):Calls Tryz.prog 173 #[.bool false,.int .u64 x] w fun e w'=>e = .returned (.int .u64 0)∧w=w':=Y5 false x w
theorem UE (b a i:Nat)(h:a<2 ^ i):a ||| 2 ^ i * b=2 ^ i * b+a:=by
 rw[Nat.or_comm];exact(Nat.two_pow_add_eq_or_of_lt h b).symm
theorem Pq (A B F L:Nat)(ha:A≤255)(hb:B≤255)(hf:F=0∨F=65536)(hl:L=0∨L=131072) :
 bits .or .u64 (bits .or .u64 (bits .or .u64 (IntKind.u64.wrap (A:Int)) (IntKind.u64.wrap (IntKind.u64.wrap (B:Int) * 256))) (F:Int)) (L:Int)=(A:Int)+256 * (B:Int)+(F:Int)+(L:Int):=by
 have e1:IntKind.u64.wrap (A:Int)=(A:Int):=by rw[IntKind.wrap_u64];omega
 have e2:IntKind.u64.wrap (IntKind.u64.wrap (B:Int) * 256)=((256 * B:Nat):Int):=by rw[IntKind.wrap_u64,IntKind.wrap_u64];omega
 rw[e1,e2,u64_or_nat A (256 * B) (by omega) (by omega)];have h1:=UE B A 8 (by omega);rw[show(2:Nat) ^ 8=256 from rfl]at h1;rw[h1,u64_or_nat (256 * B+A) F (by omega) (by omega)];have h2:(256 * B+A) ||| F=256 * B+A+F:=by
  rcases hf with rfl|rfl
  ·simp
  ·have:=UE 1 (256 * B+A) 16 (by omega)
   simp only[Nat.mul_one]at this;rw[show(2:Nat) ^ 16=65536 from rfl]at this;omega
 rw[h2,u64_or_nat (256 * B+A+F) L (by omega) (by omega)];have h3:(256 * B+A+F) ||| L=256 * B+A+F+L:=by
  rcases hl with rfl|rfl
  ·simp
  ·have:=UE 1 (256 * B+A+F) 17 (by omega)
   simp only[Nat.mul_one]at this;rw[show(2:Nat) ^ 17=131072 from rfl]at this;omega
 rw[h3];omega
def dF (A B:Nat)(f l:Bool):Nat:=A+256 * B+(if f then 65536 else 0)+(if l then 131072 else 0)
theorem L6 {b:Nat}{a o:Int}{f l:Bool}(h:Own W ((b,.cells #[.int .i64 a,.int .i64 o,.bool f,.bool l] 47)::m) w):w.cell? ⟨b,0,none⟩=some (.int .i64 a)∧w.cell? ⟨b,1,none⟩=some (.int .i64 o)∧w.cell? ⟨b,2,none⟩=some (.bool f)∧w.cell? ⟨b,3,none⟩=some (.bool l) :=
 ⟨h.cell ZnJ 0,h.cell ZnJ 1,h.cell ZnJ 2,h.cell ZnJ 3⟩
theorem Zq9 (h:Own W m w)(A B:Nat)(ha:A≤255)(hb:B≤255)(f l:Bool)(hm:GN A B f l=true):Calls Tryz.prog 139 #[.agg #[.int .i64 A,.int .i64 B,.bool f,.bool l]] w fun e w'=>e = .returned (.tuple #[.int .u64 (dF A B f l:Nat),.int .i64 0])∧Own W m w':=by
 have h1:=h.new (.cells #[.int .i64 A,.int .i64 B,.bool f,.bool l] 47);obtain⟨g,hg⟩:=Zx9 (w.heap.size);rw[hg]at h1;have pO:=fun ws (hs:Own W ((g,Obj.cells #[.int .i64 A,.int .i64 B,.bool f,.bool l] 47)::m) ws)=>CZ hs A B f l;rw[hm]at pO;have HM:=ZkQ pO;have H1:=ZkQ h1;obtain⟨y0,y1,y2,y3⟩:=L6 h1;clear pO h1 h hm;cases f<;>cases l
 ·go_enter Tryz.func139,Tryz.ntmps139
  go_wp2_with fail
  refine(HM.out _ H1.out).mono ?_;rintro e w2 ⟨rfl,h2⟩;clear y0 y1 y2 y3;obtain⟨y0,y1,y2,y3⟩:=L6 h2;go_wp2_with fail
  go_region_held3 (fun w'=>w'.cell? ⟨g,0,none⟩=some (.int .i64 A)∧w'.cell? ⟨g,1,none⟩=some (.int .i64 B)∧w'.cell? ⟨g,2,none⟩=some (.bool false)∧w'.cell? ⟨g,3,none⟩=some (.bool false)) (first|(refine⟨?_,?_,?_,?_⟩<;>assumption)|go_keep)
   (first|(go_at_call 173;first|(refine(Qw 65536 _).mono ?_;rintro e w' ⟨rfl,rfl⟩)|(refine(Qw 131072 _).mono ?_;rintro e w' ⟨rfl,rfl⟩)))
  go_wp2_with fail
  go_ret2
  refine⟨?_,h2.drew.skip⟩;have xE:=Pq A B 0 0 ha hb (by simp) (by simp);simp[dF]at xE ⊢;omega
 ·go_enter Tryz.func139,Tryz.ntmps139
  go_wp2_with fail
  refine(HM.out _ H1.out).mono ?_;rintro e w2 ⟨rfl,h2⟩;clear y0 y1 y2 y3;obtain⟨y0,y1,y2,y3⟩:=L6 h2;go_wp2_with fail
  go_region_held3 (fun w'=>w'.cell? ⟨g,0,none⟩=some (.int .i64 A)∧w'.cell? ⟨g,1,none⟩=some (.int .i64 B)∧w'.cell? ⟨g,2,none⟩=some (.bool false)∧w'.cell? ⟨g,3,none⟩=some (.bool true)) (first|(refine⟨?_,?_,?_,?_⟩<;>assumption)|go_keep)
   (first|(go_at_call 173;first|(refine(Qw 65536 _).mono ?_;rintro e w' ⟨rfl,rfl⟩)|(refine(Qx 131072 _).mono ?_;rintro e w' ⟨rfl,rfl⟩)))
  go_wp2_with fail
  go_ret2
  refine⟨?_,h2.drew.skip⟩;have xE:=Pq A B 0 131072 ha hb (by simp) (by simp);simp[dF]at xE ⊢;omega
 ·go_enter Tryz.func139,Tryz.ntmps139
  go_wp2_with fail
  refine(HM.out _ H1.out).mono ?_;rintro e w2 ⟨rfl,h2⟩;clear y0 y1 y2 y3;obtain⟨y0,y1,y2,y3⟩:=L6 h2;go_wp2_with fail
  go_region_held3 (fun w'=>w'.cell? ⟨g,0,none⟩=some (.int .i64 A)∧w'.cell? ⟨g,1,none⟩=some (.int .i64 B)∧w'.cell? ⟨g,2,none⟩=some (.bool true)∧w'.cell? ⟨g,3,none⟩=some (.bool false)) (first|(refine⟨?_,?_,?_,?_⟩<;>assumption)|go_keep)
   (first|(go_at_call 173;first|(refine(Qx 65536 _).mono ?_;rintro e w' ⟨rfl,rfl⟩)|(refine(Qw 131072 _).mono ?_;rintro e w' ⟨rfl,rfl⟩)))
  go_wp2_with fail
  go_ret2
  refine⟨?_,h2.drew.skip⟩;have xE:=Pq A B 65536 0 ha hb (by simp) (by simp);simp[dF]at xE ⊢;omega
 ·go_enter Tryz.func139,Tryz.ntmps139
  go_wp2_with fail
  refine(HM.out _ H1.out).mono ?_;rintro e w2 ⟨rfl,h2⟩;clear y0 y1 y2 y3;obtain⟨y0,y1,y2,y3⟩:=L6 h2;go_wp2_with fail
  go_region_held3 (fun w'=>w'.cell? ⟨g,0,none⟩=some (.int .i64 A)∧w'.cell? ⟨g,1,none⟩=some (.int .i64 B)∧w'.cell? ⟨g,2,none⟩=some (.bool true)∧w'.cell? ⟨g,3,none⟩=some (.bool true)) (first|(refine⟨?_,?_,?_,?_⟩<;>assumption)|go_keep)
   (first|(go_at_call 173;first|(refine(Qx 65536 _).mono ?_;rintro e w' ⟨rfl,rfl⟩)|(refine(Qx 131072 _).mono ?_;rintro e w' ⟨rfl,rfl⟩)))
  go_wp2_with fail
  go_ret2
  refine⟨?_,h2.drew.skip⟩;have xE:=Pq A B 65536 131072 ha hb (by simp) (by simp);simp[dF]at xE ⊢;omega
end
end See
namespace See
open Go.RowKit
attribute [local go_sem ↓] Go.wp_at_zero Go.wp_at_succ
def UY (i:Int)(key:Nat)(n:Int):Value:=if (-1≤i∧i<16)∧(0≤n∧n<16) then .tuple #[.int .u64 (fZ i key n.toNat:Nat),.int .i64 0] else .tuple #[.int .u64 0,.int .i64 2]
theorem Znp (i:Int)(key:Nat)(n:Int)(hk:key<18446744073709551616)(w:World):Calls Tryz.prog 128 #[.int .i64 i,.int .u64 key,.int .i64 n] w fun e w'=>e = .returned (UY i key n)∧w=w':=by
 have ho:=fun w=>Sq i w;have hn:=fun w=>Sq n w;unfold UY;by_cases hi : -1≤i∧i<16
 ·by_cases D8:0≤n∧n<16
  ·rw[if_pos ⟨hi,D8⟩]
   obtain⟨n,rfl⟩:∃ k:Nat,n=k:=⟨n.toNat,by omega⟩;have ht:=fun w=>Yt key n hk (by omega) w;have hb:=u64_xor_nat (i+1).toNat (turned key n) (by omega) (PO key n);rw[show(((i+1).toNat:Nat):Int)=i+1 from by omega]at hb;have hw:IntKind.u64.wrap (i+1)=i+1:=(by rw[IntKind.wrap_u64];omega);rw[LG D8]at hn;rw[Zx2];unfold fZ;obtain⟨T,hT⟩:=Zx9 (turned key n);obtain⟨X,hX⟩:=Zx9 ((i+1).toNat ^^^ T);rw[hT]at ht hb ⊢;rw[hX]at hb ⊢;have HT:=ZkQ ht;have HN:=ZkQ hn;by_cases h1:i = -1
   ·subst h1
    rw[show(-1:Int)+1=0 from rfl]at hb hw;clear ht hn hT hX hk ho
    go_enter Tryz.func128,Tryz.ntmps128
    go_wp2_with (first|(go_at_call 167;refine(HN.out _).mono ?_;rintro e w' ⟨rfl,rfl⟩)|(go_at_call 168;refine(HT.out _).mono ?_;rintro e w' ⟨rfl,rfl⟩))
    go_ret2
    exact⟨rfl,rfl⟩
   ·rw[LG (by omega)]at ho
    have HO:=ZkQ ho;have hne:(i != -1)=true:=(by simpa using h1);clear ht hn hT hX hk ho
    go_enter Tryz.func128,Tryz.ntmps128
    go_wp2_with (first|(go_at_call 167;first|(refine(HO.out _).mono ?_;rintro e w' ⟨rfl,rfl⟩)|(refine(HN.out _).mono ?_;rintro e w' ⟨rfl,rfl⟩))|(go_at_call 168;refine(HT.out _).mono ?_;rintro e w' ⟨rfl,rfl⟩))
    go_ret2
    exact⟨rfl,rfl⟩
  ·rw[if_neg (fun h=>D8 h.2)]
   rw[Qm D8]at hn;have HN:=ZkQ hn;by_cases h1:i = -1
   ·subst h1
    clear hn ho hk
    go_enter Tryz.func128,Tryz.ntmps128
    go_wp2_with (go_at_call 167;refine(HN.out _).mono ?_;rintro e w' ⟨rfl,rfl⟩)
    go_ret2
    exact⟨rfl,rfl⟩
   ·rw[LG (by omega)]at ho
    have HO:=ZkQ ho;have hne:(i != -1)=true:=(by simpa using h1);clear hn ho hk
    go_enter Tryz.func128,Tryz.ntmps128
    go_wp2_with (go_at_call 167;first|(refine(HO.out _).mono ?_;rintro e w' ⟨rfl,rfl⟩)|(refine(HN.out _).mono ?_;rintro e w' ⟨rfl,rfl⟩))
    go_ret2
    exact⟨rfl,rfl⟩
 ·rw[if_neg (fun h=>hi h.1)]
  rw[Qm (by omega)]at ho;have HO:=ZkQ ho;have hne:(i != -1)=true:=by simp;omega
  clear hn ho hk
  go_enter Tryz.func128,Tryz.ntmps128
  go_wp2_with (go_at_call 167;refine(HO.out _).mono ?_;rintro e w' ⟨rfl,rfl⟩)
  go_ret2
  exact⟨rfl,rfl⟩
end See
section
open Go.RowKit
theorem Zoj (i n:Int)(hn:1≤n) : -n<i.tmod n∧i.tmod n<n∧(i.tmod n<0→i.tmod n+n=i % n)∧(0≤i.tmod n→i.tmod n=i % n):=by
 have h1:=Int.emod_nonneg i (show n≠0 from by omega);have h2:=Int.emod_lt_of_pos i (show 0<n from by omega);have h3:=Int.tmod_eq_emod (a:=i) (b:=n);have h4:n ∣ i↔i % n=0:=Int.dvd_iff_emod_eq_zero;have h5:(n.natAbs:Int)=n:=by omega
 have h6:0≤i→0≤i.tmod n:=fun h=>Int.tmod_nonneg n h;by_cases h0:0≤i∨n ∣ i
 ·rw[if_pos h0]at h3
  omega
 ·rw[if_neg h0,h5]at h3
  have:¬ n ∣ i:=fun h=>h0 (.inr h);have h7:i % n≠0:=fun h=>this (h4.2 h);omega
theorem Ta {n:Int}(h:(Lit.int .i64 n).wf=true) : -9223372036854775808≤n∧n≤9223372036854775807:=by
 simpa [Lit.wf,IntKind.min,IntKind.max,IntKind.signed,IntKind.bits] using h
theorem Zqe (i n:Int)(hn:1≤n):0≤i % n∧i % n<n:=⟨Int.emod_nonneg _ (by omega),Int.emod_lt_of_pos _ (by omega)⟩
theorem oC (i n:Int)(h1:1≤n)(h2:n≤4611686018427387904)(hi:(Lit.int .i64 i).wf=true)(w:World) :
 Calls Tryz.prog 10 #[.int .i64 i,.int .i64 n] w fun e w'=>e = .returned (.int .i64 (i % n))∧w=w':=by
 obtain⟨t1,t2,t3,t4⟩:=Zoj i n h1;have hi:=Ta hi;have T3:=ZkQ t3;have T4:=ZkQ t4;clear t3 t4;by_cases h0:0≤i
 ·have hp:i.tmod n=i % n:=T4.out (Int.tmod_nonneg n h0)
  have hq:=Zqe i n h1;have H:=ZkQ hp;clear hp
  go_enter Tryz.func10,Tryz.ntmps10
  go_wp2;all_goals first|(exfalso;omega)|skip
  all_goals go_ret
  all_goals exact⟨rfl,rfl⟩
 ·go_enter Tryz.func10,Tryz.ntmps10
  go_wp2;all_goals go_ret
  ·rename_i aK
   exact⟨by simpa using T3.out (by assumption),rfl⟩
  ·exact⟨by simpa using T4.out (by assumption),rfl⟩
theorem JN (i n:Int)(h0:0≤i)(h1:i<n)(h2:n≤4611686018427387904)(w:World) :
 Calls Tryz.prog 10 #[.int .i64 i,.int .i64 n] w fun e w'=>e = .returned (.int .i64 i)∧w=w':=by
 have c:=oC i n (by omega) h2 (by simp[Lit.wf,IntKind.min,IntKind.max,IntKind.signed,IntKind.bits];omega) w
 rwa [Int.emod_eq_of_lt h0 h1]at c
end
section
open Go.RowKit
theorem ZH:(Tryz.prog.info? 3).map (fun i=>(i.zero,i.size,i.bytes))=some (some (.int .i64 0),1,8):=by kernel_rfl
def ints (l:List Int):List Value:=l.map fun n=>.int .i64 n
theorem ZoU (l:List Int):(ints l).length=l.length:=by simp[ints]
theorem wX {l:List Int}{i:Nat}{n:Int}(h:l[i]?=some n):(ints l)[i]?=some (.int .i64 n):=by simp[ints,h]
theorem ZI (l:List Int):∀ u∈ints l,u.oneCell'=true:=by
 intro u hu;obtain⟨n,_,rfl⟩:=List.mem_map.1 hu;rfl
theorem X3 (a b:List Int):ints a++ints b=ints (a++b):=by simp[ints]
theorem Znr (l:List Int)(k:Nat):(ints l).take k=ints (l.take k):=by simp[ints]
theorem ints_set (l:List Int)(k:Nat)(n:Int):(ints l).set k (.int .i64 n)=ints (l.set k n):=by simp[ints]
abbrev lS (ex:Bool) (v:Value) (l:List Int) (bs:List (Nat×Obj)):Prop:=gI ex 3 1 v l.length (ints l) bs
abbrev jP (w:World) (v:Value) (l:List Int):Prop:=Src w 1 v l.length (ints l)
section
variable {W w:World}{m bs:List (Nat×Obj)}{v x:Value}{l l':List Int}
theorem LQ {ops:Array Oper}{rest:List Oper}{o:Oper}{a:Act}{Q:Exit→Act→World→Prop}(jw:o.guard=none)(s x:Operand)
 (ho:o.op = .call { callee:=.builtin .append,args:=#[s,x],argTypes:=#[25,25] }) {v xv:Value} (oM:a.eval s=v) (hex:a.eval x=xv)
 (hs:lS true v l bs) (hO:Own W (bs++m) w) (hx:jP w xv l') (hlen:l.length+l'.length≤60000)
 (h:∀ v' w' bs',lS true v' (l++l') bs'→Own W (bs'++m) w'→(v' = .slice none 0 0↔v = .slice none 0 0∧l'=[])→wpList Tryz.prog ops Q rest (a.put o.dst v') w') :
 wpList Tryz.prog ops Q (o::rest) a w:=by
 obtain⟨i,hi,hz,dn,hb⟩:=Gs ZH;refine Ty jw s x _ ho oM hex 3 i _ 1 8 Tryz.underlying25 hi hz dn hb rfl (by omega) hs hO hx (ZI l') (by unfold maxLen;omega) (by omega) fun v' w' bs' h1 h2 h3 => ?_;rw[X3,← Zxw]at h1;exact h v' w' bs' h1 h2 (by rw[h3,List.length_eq_zero_iff])
theorem QE (w:World)(p:Int):jP (w.alloc (.cells #[.int .i64 p] 3)) (.slice (some ⟨w.heap.size,0,none⟩) 1 1) [p]:=by
 refine⟨rfl,.inr ⟨_,_,rfl,fun j u hj => ?_⟩⟩;rw[PY]
 match j,hj with
 |0,hj=>simp[ints]at hj;subst hj;simp
 |j+1,hj=>simp[ints]at hj
end
end
end Go.Proofs.YtfcpdlbkmkhhcaaGreatDoor
