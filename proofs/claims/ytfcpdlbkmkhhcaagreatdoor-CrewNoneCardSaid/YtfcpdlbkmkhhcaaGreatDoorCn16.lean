/-
  Texts of this claim, joined. No condition.
-/
import Derived.Test.YtfcpdlbkmkhhcaaGreatDoorCn15
import Derived.Test.YtfcpdlbkmkhhcaaGreatDoorCn11
namespace Go.Proofs.YtfcpdlbkmkhhcaaGreatDoor.See
open Go.RowKit
attribute [local go_sem ↓] Go.wp_at_zero Go.wp_at_succ
def ZqZ (a b:Int)(f l:Bool):Bool:=decide ((l=true∧1≤b∧b≤16∧0≤a∧a≤b)∨(a=0∧b=0∧f=false∧l=false))
section
variable {W w:World}{m:List (Nat×Obj)}
set_option maxHeartbeats 1000000 in
theorem Zco (h:Own W m w)(a b:Int)(f l:Bool):Calls Tryz.prog 74 #[.agg #[.int .i64 a,.int .i64 b,.bool f,.bool l]] w fun e w'=>e = .returned (.bool (ZqZ a b f l))∧Own W m w':=by
 have h0:=h.alloc (.cells #[.int .i64 a,.int .i64 b,.bool f,.bool l] 47)
 cases hm:ZqZ a b f l with
 | true =>
   rcases of_decide_eq_true hm with ⟨rfl,h1,h2,h3,h4⟩ | ⟨rfl,rfl,rfl,rfl⟩
   ·clear hm
    go_enter Tryz.func74,Tryz.ntmps74
    go_wp2_with fail
    go_ret
    exact ⟨rfl,h0⟩
   ·clear hm
    go_enter Tryz.func74,Tryz.ntmps74
    go_wp2_with fail
    go_ret
    exact ⟨rfl,h0⟩
 | false =>
   have hm:=of_decide_eq_false hm
   cases l with
   | false =>
     have hn:¬ (a=0∧b=0∧f=false):=fun hh=>hm (.inr ⟨hh.1,hh.2.1,hh.2.2,rfl⟩)
     by_cases ha:a=0
     ·by_cases hb:b=0
      ·have hf:f=true:=by
        cases f
        ·exact absurd ⟨ha,hb,rfl⟩ hn
        ·rfl
       subst ha hb hf
       clear hm hn
       go_enter Tryz.func74,Tryz.ntmps74
       go_wp2_with fail
       go_ret
       exact ⟨rfl,h0⟩
      ·have hbb:(b==0)=false:=beq_eq_false_iff_ne.2 hb
       subst ha
       clear hm hn
       go_enter Tryz.func74,Tryz.ntmps74
       go_wp2_with fail
       go_ret
       exact ⟨rfl,h0⟩
     ·have hab:(a==0)=false:=beq_eq_false_iff_ne.2 ha
      clear hm hn
      go_enter Tryz.func74,Tryz.ntmps74
      go_wp2_with fail
      go_ret
      exact ⟨rfl,h0⟩
   | true =>
     have hn:¬ (1≤b∧b≤16∧0≤a∧a≤b):=fun hh=>hm (.inl ⟨rfl,hh⟩)
     clear hm
     rcases (show b<1∨(1≤b∧16<b)∨(1≤b∧b≤16∧a<0)∨(1≤b∧b≤16∧0≤a∧b<a) by omega) with h1 | ⟨h1,h2⟩ | ⟨h1,h2,h3⟩ | ⟨h1,h2,h3,h4⟩
     all_goals
      clear hn
      try have h5:¬ a≤b:=by omega
      go_enter Tryz.func74,Tryz.ntmps74
      go_wp2_with fail
      go_ret
      exact ⟨rfl,h0⟩
theorem ZmN (x k:Nat)(hx:x<18446744073709551616)(hk:k<64):bits .and .u64 (x:Int) ((2 ^ k:Nat):Int)=((2 ^ k * (x / 2 ^ k % 2):Nat):Int):=by
 have hp:2 ^ k<18446744073709551616:=by
  have:=Nat.pow_lt_pow_right (a:=2) (by omega) hk
  exact this
 rw [u64_and_nat x (2 ^ k) hx hp]
 congr 1
 have ht:x.testBit k=decide (x / 2 ^ k % 2=1):=Nat.testBit_eq_decide_div_mod_eq
 apply Nat.eq_of_testBit_eq
 intro i
 rw [Nat.testBit_and,Nat.testBit_two_pow]
 rcases (show x / 2 ^ k % 2=0∨x / 2 ^ k % 2=1 by omega) with h | h
 ·rw [h,Nat.mul_zero,Nat.zero_testBit]
  by_cases hki:k=i
  ·subst hki; rw [ht,h]; simp
  ·simp [hki]
 ·rw [h,Nat.mul_one,Nat.testBit_two_pow]
  by_cases hki:k=i
  ·subst hki; rw [ht,h]; simp
  ·simp [hki]
def ZkB (w:Nat):Value:=match ZbA w with
 | some c=>.tuple #[.agg #[.int .i64 c.inuse,.int .i64 c.objects,.bool c.frozen,.bool c.live],.bool true]
 | none=>.tuple #[.agg #[.int .i64 0,.int .i64 0,.bool false,.bool false],.bool false]
theorem Zja (x:Nat)(hx:x<262144):ZbA x=if ZqZ ((x % 256:Nat):Int) ((x / 256 % 256:Nat):Int) (decide (x / 65536 % 2=1)) (decide (x / 131072 % 2=1))=true then some ⟨x % 256,x / 256 % 256,decide (x / 65536 % 2=1),decide (x / 131072 % 2=1)⟩ else none:=by
 unfold ZbA ZqZ
 by_cases h0:x=0
 ·subst h0
  decide
 ·rw [if_neg h0]
  by_cases hl:x / 131072 % 2=1
  ·rw [decide_eq_true hl]
   by_cases h1:131072≤x∧x<262144∧1≤x / 256 % 256∧x / 256 % 256≤16∧x % 256≤x / 256 % 256
   ·rw [if_pos h1,if_pos (decide_eq_true (.inl ⟨rfl,by omega⟩))]
   ·rw [if_neg h1,if_neg]
    intro h2
    rcases of_decide_eq_true h2 with ⟨-,h3⟩ | ⟨-,-,-,h3⟩
    ·omega
    ·cases h3
  ·rw [decide_eq_false hl,if_neg (by omega),if_neg]
   intro h2
   rcases of_decide_eq_true h2 with ⟨h3,-⟩ | ⟨h3,h4,h5,-⟩
   ·cases h3
   ·have h5:=of_decide_eq_false h5
    omega
theorem Zi9 (x:Nat)(hx:262144≤x):ZbA x=none:=by
 unfold ZbA
 rw [if_neg (by omega),if_neg (by omega)]
set_option maxRecDepth 100000 in
set_option maxHeartbeats 2000000 in
theorem ZkC (h:Own W m w)(x:Nat)(hx:x<18446744073709551616):Calls Tryz.prog 57 #[.int .u64 x] w fun e w'=>e = .returned (ZkB x)∧Own W m w':=by
 have a1:=ZpD x hx
 have a2:=ZpD (x / 256) (by omega)
 have hd:(x:Int) / 256=((x / 256:Nat):Int):=by omega
 have a3:=ZmN x 16 hx (by omega)
 have a4:=ZmN x 17 hx (by omega)
 rw [show (2:Nat) ^ 16=65536 from rfl] at a3
 rw [show (2:Nat) ^ 17=131072 from rfl] at a4
 have hc1:=Zja x
 have hc2:=Zi9 x
 unfold ZkB
 obtain ⟨A,hA⟩:∃ A,x % 256=A:=⟨_,rfl⟩
 obtain ⟨Q,hQ⟩:∃ Q,x / 256=Q:=⟨_,rfl⟩
 obtain ⟨B,hB⟩:∃ B,Q % 256=B:=⟨_,rfl⟩
 obtain ⟨F,hF⟩:∃ F,x / 65536 % 2=F:=⟨_,rfl⟩
 obtain ⟨L,hL⟩:∃ L,x / 131072 % 2=L:=⟨_,rfl⟩
 rw [hA] at a1
 rw [hQ] at hd a2
 rw [hB] at a2
 rw [hF] at a3
 rw [hL] at a4
 rw [hA,hQ,hB,hF,hL] at hc1
 have A255:A≤255:=by omega
 have B255:B≤255:=by omega
 have F2:F=0∨F=1:=by omega
 have L2:L=0∨L=1:=by omega
 have b3:(bits .and .u64 (x:Int) 65536 != 0)=decide (F=1):=by
  have a3:bits .and .u64 (x:Int) 65536=((65536 * F:Nat):Int):=a3
  rw [a3]
  rcases F2 with rfl | rfl <;> rfl
 have b4:(bits .and .u64 (x:Int) 131072 != 0)=decide (L=1):=by
  have a4:bits .and .u64 (x:Int) 131072=((131072 * L:Nat):Int):=a4
  rw [a4]
  rcases L2 with rfl | rfl <;> rfl
 obtain ⟨f,hf⟩:∃ f,decide (F=1)=f:=⟨_,rfl⟩
 obtain ⟨l,hl⟩:∃ l,decide (L=1)=l:=⟨_,rfl⟩
 rw [hf] at b3 hc1
 rw [hl] at b4 hc1
 have h1:=h.new (.cells #[.int .i64 0,.int .i64 0,.bool false,.bool false] 47)
 have h2:=h1.new (.cells #[.int .i64 A,.int .i64 B,.bool f,.bool l] 47)
 simp only [World.size_alloc] at h2
 obtain ⟨g,hg⟩:∃ g,w.heap.size=g:=⟨_,rfl⟩
 rw [hg] at h1 h2
 have c1:=h1.cell List.mem_cons_self
 have f1:=h1.frozen List.mem_cons_self
 clear hA hQ hB hF hL hf hl a3 a4 F2 L2 hx
 by_cases hbig:x<262144
 ·have hc:=hc1 hbig
  have hx:decide ((262144:Int)≤x)=false:=decide_eq_false (by omega)
  have hm:=fun ws (hs:Own W ((g+1,Obj.cells #[.int .i64 A,.int .i64 B,.bool f,.bool l] 47 (0,0))::(g,Obj.cells #[.int .i64 0,.int .i64 0,.bool false,.bool false] 47 (0,0))::m) ws)=>Zco hs A B f l
  cases hmay:ZqZ A B f l with
  | true =>
    rw [hmay] at hc hm
    simp only [if_true] at hc
    have HM:=Lib.hid hm
    rw [hc]
    clear hc hbig hc1 hc2 hm hmay
    go_enter Tryz.func57,Tryz.ntmps57
    go_wp2_with fail
    refine (HM.out _ h2).mono ?_
    rintro e w3 ⟨rfl,h3⟩
    have q:=h3.cell List.mem_cons_self
    have u:=h3.frozen (List.mem_cons_of_mem _ List.mem_cons_self)
    have q0:=q 0
    have q1:=q 1
    have q2:=q 2
    have q3:=q 3
    have u0:=u 0
    have u1:=u 1
    have u2:=u 2
    have u3:=u 3
    simp at q0 q1 q2 q3
    have z:=h3.cell (List.mem_cons_of_mem _ List.mem_cons_self)
    have z0:=z 0
    have z1:=z 1
    have z2:=z 2
    have z3:=z 3
    simp at z0 z1 z2 z3
    clear q u z b3 b4 a1 a2 hd
    go_wp2_with fail
    have h4:Own W ([(g+1,Obj.cells #[.int .i64 A,.int .i64 B,.bool f,.bool l] 47 (0,0))]++(g,Obj.cells #[.int .i64 0,.int .i64 0,.bool false,.bool false] 47 (0,0))::m) w3:=h3
    have h5:=(((h4.ZjU 0 (.int .i64 A)).ZjU 1 (.int .i64 B)).ZjU 2 (.bool f)).ZjU 3 (.bool l)
    have ec:=h5.cell (List.mem_append_right _ List.mem_cons_self)
    have e0:=ec 0
    have e1:=ec 1
    have e2:=ec 2
    have e3:=ec 3
    simp at e0 e1 e2 e3
    exact bodyPost_ret (v:=.tuple #[.agg #[(.int .i64 A),(.int .i64 B),(.bool f),(.bool l)],.bool true]) (by simp [results,Tryz.f57,go_sem,e0,e1,e2,e3]) rfl ⟨rfl,h5.drop1.Zfu⟩
  | false =>
    rw [hmay] at hc hm
    simp only [Bool.false_eq_true,if_false] at hc
    have HM:=Lib.hid hm
    rw [hc]
    clear hc hbig hc1 hc2 hm hmay
    go_enter Tryz.func57,Tryz.ntmps57
    go_wp2_with fail
    refine (HM.out _ h2).mono ?_
    rintro e w3 ⟨rfl,h3⟩
    have q:=h3.cell List.mem_cons_self
    have u:=h3.frozen (List.mem_cons_of_mem _ List.mem_cons_self)
    have q0:=q 0
    have q1:=q 1
    have q2:=q 2
    have q3:=q 3
    have u0:=u 0
    have u1:=u 1
    have u2:=u 2
    have u3:=u 3
    simp at q0 q1 q2 q3
    have z:=h3.cell (List.mem_cons_of_mem _ List.mem_cons_self)
    have z0:=z 0
    have z1:=z 1
    have z2:=z 2
    have z3:=z 3
    simp at z0 z1 z2 z3
    clear q u z b3 b4 a1 a2 hd
    go_wp2_with fail
    have h4:Own W ([(g+1,Obj.cells #[.int .i64 A,.int .i64 B,.bool f,.bool l] 47 (0,0))]++(g,Obj.cells #[.int .i64 0,.int .i64 0,.bool false,.bool false] 47 (0,0))::m) w3:=h3
    have h5:=(((h4.ZjU 0 (.int .i64 0)).ZjU 1 (.int .i64 0)).ZjU 2 (.bool false)).ZjU 3 (.bool false)
    have ec:=h5.cell (List.mem_append_right _ List.mem_cons_self)
    have e0:=ec 0
    have e1:=ec 1
    have e2:=ec 2
    have e3:=ec 3
    simp at e0 e1 e2 e3
    exact bodyPost_ret (v:=.tuple #[.agg #[(.int .i64 0),(.int .i64 0),(.bool false),(.bool false)],.bool false]) (by simp [results,Tryz.f57,go_sem,e0,e1,e2,e3]) rfl ⟨rfl,h5.drop1.Zfu⟩
 ·have hc:=hc2 (by omega)
  have hx:¬ (x:Int)<262144:=by omega
  rw [hc]
  clear hc hbig hc1 hc2
  go_enter Tryz.func57,Tryz.ntmps57
  go_wp2_with fail
  have ec:=h2.cell (List.mem_cons_of_mem _ List.mem_cons_self)
  have e0:=ec 0
  have e1:=ec 1
  have e2:=ec 2
  have e3:=ec 3
  simp at e0 e1 e2 e3
  exact bodyPost_ret (v:=.tuple #[.agg #[.int .i64 0,.int .i64 0,.bool false,.bool false],.bool false]) (by simp [results,Tryz.f57,go_sem,e0,e1,e2,e3]) rfl ⟨rfl,h2.skip.skip⟩
end
end Go.Proofs.YtfcpdlbkmkhhcaaGreatDoor.See

namespace Go.Proofs.YtfcpdlbkmkhhcaaGreatDoor.See
open Go.RowKit
attribute [local go_sem ↓] Go.wp_at_zero Go.wp_at_succ
def rotl (x s:Nat):Nat:=(x <<< s) % 18446744073709551616 ||| x >>> (64 - s)
theorem ZsV (x s:Nat)(hx:x<18446744073709551616):x >>> s<18446744073709551616:=by
 rw [Nat.shiftRight_eq_div_pow]
 exact Nat.lt_of_le_of_lt (Nat.div_le_self _ _) hx
theorem Zpg (x s:Nat)(hx:x<18446744073709551616):bits .or .u64 (IntKind.u64.wrap ((x:Int) * 2 ^ s)) ((x:Int) / 2 ^ (64 - s))=((rotl x s:Nat):Int):=by
 unfold rotl
 rw [← u64_or_nat _ _ (Nat.mod_lt _ (by omega)) (ZsV x _ hx),IntKind.wrap_u64,Nat.shiftLeft_eq,Nat.shiftRight_eq_div_pow]
 congr 1
 all_goals push_cast; rfl
theorem Zph (x k:Nat)(hx:x<18446744073709551616)(hk:k≤75)(w:World):Calls Tryz.prog 179 #[.int .u64 x,.int .i64 k] w fun e w'=>e = .returned (.int .u64 (rotl x (k % 64):Nat))∧w=w':=by
 have ha:=Zp2 k (by omega)
 obtain ⟨s,hs⟩:∃ s,k % 64=s:=⟨_,rfl⟩
 have hs64:s<64:=by omega
 rw [hs] at ha ⊢
 have hb:=Lib.hid (Zpg x s hx)
 clear hs hx
 go_enter Tryz.func179,Tryz.ntmps179
 go_wp2_with fail
 go_ret
 exact ⟨by rw [← hb.out]; rfl,rfl⟩
theorem Zj6 (key n:Nat):turned key n=(rotl key (5 * n % 64)+n * 2654435769) % 18446744073709551616:=rfl
theorem Zfo (key n:Nat):turned key n<18446744073709551616:=by
 rw [Zj6]
 exact Nat.mod_lt _ (by omega)
set_option maxRecDepth 100000 in
theorem Zhc (key n:Nat)(hx:key<18446744073709551616)(hn:n<16)(w:World):Calls Tryz.prog 168 #[.int .u64 key,.int .i64 n] w fun e w'=>e = .returned (.int .u64 (turned key n:Nat))∧w=w':=by
 have hr:=fun w=>Zph key (5 * n) hx (by omega) w
 rw [show ((5 * n:Nat):Int)=5 * (n:Int) by omega] at hr
 have HR:=Lib.hid hr
 have hv:IntKind.u64.wrap ((rotl key (5 * n % 64):Int)+(n:Int) * 2654435769)=((turned key n:Nat):Int):=by
  rw [Zj6,IntKind.wrap_u64]
  omega
 have HV:=Lib.hid hv
 clear hr hx hv
 go_enter Tryz.func168,Tryz.ntmps168
 go_wp2_with (go_at_call 179; refine (HR.out _).mono ?_; rintro e w' ⟨rfl,rfl⟩)
 go_ret
 exact ⟨by rw [← HV.out]; rfl,rfl⟩
def oIs (i:Int):Bool:=decide (0≤i∧i<16)
theorem ZgW {i:Int}(h:0≤i∧i<16):oIs i=true:=decide_eq_true h
theorem ZlH {i:Int}(h:¬ (0≤i∧i<16)):oIs i=false:=decide_eq_false h
theorem ZeG (i:Int)(w:World):Calls Tryz.prog 167 #[.int .i64 i] w fun e w'=>e = .returned (.bool (oIs i))∧w=w':=by
 by_cases h0:0≤i
 ·by_cases h1:i<16
  ·rw [ZgW ⟨h0,h1⟩]
   go_enter Tryz.func167,Tryz.ntmps167
   go_wp2_with fail
   go_ret
   exact ⟨rfl,rfl⟩
  ·rw [ZlH (by omega)]
   go_enter Tryz.func167,Tryz.ntmps167
   go_wp2_with fail
   go_ret
   exact ⟨rfl,rfl⟩
 ·rw [ZlH (by omega)]
  go_enter Tryz.func167,Tryz.ntmps167
  go_wp2_with fail
  go_ret
  exact ⟨rfl,rfl⟩
def Zpm (x key:Nat)(n:Nat):Value:=match Zdc x key n with
 | some i=>.tuple #[.int .i64 i,.bool true]
 | none=>.tuple #[.int .i64 0,.bool false]
theorem Zfg {x key n:Nat}{i:Int}(h:Zdc x key n=some i) : -1≤i∧i<16:=by
 unfold Zdc at h
 split at h
 ·simp at h; omega
 ·cases h
set_option maxRecDepth 100000 in
theorem Zn9 (x key n:Nat)(hx:x<18446744073709551616)(hk:key<18446744073709551616)(hn:n<16)(w:World):Calls Tryz.prog 120 #[.int .u64 x,.int .u64 key,.int .i64 n] w fun e w'=>e = .returned (Zpm x key n)∧w=w':=by
 have ht:=fun w=>Zhc key n hk hn w
 have hb:=u64_xor_nat x (turned key n) hx (Zfo key n)
 unfold Zpm Zdc
 obtain ⟨T,hT⟩:∃ T,turned key n=T:=⟨_,rfl⟩
 obtain ⟨X,hX⟩:∃ X,x ^^^ T=X:=⟨_,rfl⟩
 rw [hT] at ht hb ⊢
 rw [hX] at hb ⊢
 have ho:=fun w=>ZeG (n:Int) w
 rw [ZgW (by omega)] at ho
 have HT:=Lib.hid ht
 have HO:=Lib.hid ho
 clear ht ho hT hX hx hk
 by_cases hc:X≤16
 ·have hci:decide ((16:Int)<X)=false:=decide_eq_false (by omega)
  rw [if_pos hc]
  go_enter Tryz.func120,Tryz.ntmps120
  go_wp2_with (first | (go_at_call 167; refine (HO.out _).mono ?_; rintro e w' ⟨rfl,rfl⟩) | (go_at_call 168; refine (HT.out _).mono ?_; rintro e w' ⟨rfl,rfl⟩))
  go_ret2
  exact ⟨rfl,rfl⟩
 ·have hci:decide ((16:Int)<X)=true:=decide_eq_true (by omega)
  rw [if_neg hc]
  go_enter Tryz.func120,Tryz.ntmps120
  go_wp2_with (first | (go_at_call 167; refine (HO.out _).mono ?_; rintro e w' ⟨rfl,rfl⟩) | (go_at_call 168; refine (HT.out _).mono ?_; rintro e w' ⟨rfl,rfl⟩))
  go_ret2
  exact ⟨rfl,rfl⟩
def ZaR (i:Int)(key n:Nat):Nat:=(i+1).toNat ^^^ turned key n
end Go.Proofs.YtfcpdlbkmkhhcaaGreatDoor.See

namespace Go.Proofs.YtfcpdlbkmkhhcaaGreatDoor.Fast
open Go Mem See
open Go.RowKit
attribute [local go_sem ↓] Go.wp_at_zero Go.wp_at_succ
section
variable {W w:World}{m:List (Nat×Obj)}{n key:Nat}
end
end Go.Proofs.YtfcpdlbkmkhhcaaGreatDoor.Fast

namespace Go.Proofs.YtfcpdlbkmkhhcaaGreatDoor.See
open Go.RowKit
attribute [local go_sem ↓] Go.wp_at_zero Go.wp_at_succ
section
variable {W w:World}{m:List (Nat×Obj)}
theorem Zji (f:Bool)(x:Nat)(w:World):Calls Tryz.prog 173 #[.bool f,.int .u64 x] w fun e w'=>e = .returned (.int .u64 ((if f then x else 0:Nat):Int))∧w=w':=by
 cases f
 all_goals
  go_enter Tryz.func173,Tryz.ntmps173
  go_wp2_with fail
  go_ret
  exact ⟨rfl,rfl⟩
theorem Zlp (x:Nat)(w:World):Calls Tryz.prog 173 #[.bool true,.int .u64 x] w fun e w'=>e = .returned (.int .u64 (x:Int))∧w=w':=Zji true x w
theorem Zlo (x:Nat)(w:World):Calls Tryz.prog 173 #[.bool false,.int .u64 x] w fun e w'=>e = .returned (.int .u64 0)∧w=w':=Zji false x w
theorem ZnN (b a i:Nat)(h:a<2 ^ i):a ||| 2 ^ i * b=2 ^ i * b+a:=by
 rw [Nat.or_comm]
 exact (Nat.two_pow_add_eq_or_of_lt h b).symm
theorem Ze8 (A B F L:Nat)(ha:A≤255)(hb:B≤255)(hf:F=0∨F=65536)(hl:L=0∨L=131072) :
 bits .or .u64 (bits .or .u64 (bits .or .u64 (IntKind.u64.wrap (A:Int)) (IntKind.u64.wrap (IntKind.u64.wrap (B:Int) * 256))) (F:Int)) (L:Int)=(A:Int)+256 * (B:Int)+(F:Int)+(L:Int):=by
 have e1:IntKind.u64.wrap (A:Int)=(A:Int):=by rw [IntKind.wrap_u64]; omega
 have e2:IntKind.u64.wrap (IntKind.u64.wrap (B:Int) * 256)=((256 * B:Nat):Int):=by rw [IntKind.wrap_u64,IntKind.wrap_u64]; omega
 rw [e1,e2,u64_or_nat A (256 * B) (by omega) (by omega)]
 have h1:=ZnN B A 8 (by omega)
 rw [show (2:Nat) ^ 8=256 from rfl] at h1
 rw [h1,u64_or_nat (256 * B+A) F (by omega) (by omega)]
 have h2:(256 * B+A) ||| F=256 * B+A+F:=by
  rcases hf with rfl | rfl
  ·simp
  ·have:=ZnN 1 (256 * B+A) 16 (by omega)
   simp only [Nat.mul_one] at this
   rw [show (2:Nat) ^ 16=65536 from rfl] at this
   omega
 rw [h2,u64_or_nat (256 * B+A+F) L (by omega) (by omega)]
 have h3:(256 * B+A+F) ||| L=256 * B+A+F+L:=by
  rcases hl with rfl | rfl
  ·simp
  ·have:=ZnN 1 (256 * B+A+F) 17 (by omega)
   simp only [Nat.mul_one] at this
   rw [show (2:Nat) ^ 17=131072 from rfl] at this
   omega
 rw [h3]
 omega
def Zat (A B:Nat)(f l:Bool):Nat:=A+256 * B+(if f then 65536 else 0)+(if l then 131072 else 0)
theorem ZjD {b:Nat}{a o:Int}{f l:Bool}(h:Own W ((b,.cells #[.int .i64 a,.int .i64 o,.bool f,.bool l] 47)::m) w):w.cell? ⟨b,0,none⟩=some (.int .i64 a)∧w.cell? ⟨b,1,none⟩=some (.int .i64 o)∧w.cell? ⟨b,2,none⟩=some (.bool f)∧w.cell? ⟨b,3,none⟩=some (.bool l) :=
 ⟨h.cell List.mem_cons_self 0,h.cell List.mem_cons_self 1,h.cell List.mem_cons_self 2,h.cell List.mem_cons_self 3⟩
set_option maxRecDepth 100000 in
set_option maxHeartbeats 2000000 in
theorem Zq9 (h:Own W m w)(A B:Nat)(ha:A≤255)(hb:B≤255)(f l:Bool)(hm:ZqZ A B f l=true):Calls Tryz.prog 139 #[.agg #[.int .i64 A,.int .i64 B,.bool f,.bool l]] w fun e w'=>e = .returned (.tuple #[.int .u64 (Zat A B f l:Nat),.int .i64 0])∧Own W m w':=by
 have h1:=h.new (.cells #[.int .i64 A,.int .i64 B,.bool f,.bool l] 47)
 obtain ⟨g,hg⟩:∃ g,w.heap.size=g:=⟨_,rfl⟩
 rw [hg] at h1
 have hmm:=fun ws (hs:Own W ((g,Obj.cells #[.int .i64 A,.int .i64 B,.bool f,.bool l] 47)::m) ws)=>Zco hs A B f l
 rw [hm] at hmm
 have HM:=Lib.hid hmm
 have H1:=Lib.hid h1
 obtain ⟨y0,y1,y2,y3⟩:=ZjD h1
 clear hmm h1 h hm
 cases f <;> cases l
 ·go_enter Tryz.func139,Tryz.ntmps139
  go_wp2_with fail
  refine (HM.out _ H1.out).mono ?_
  rintro e w2 ⟨rfl,h2⟩
  clear y0 y1 y2 y3
  obtain ⟨y0,y1,y2,y3⟩:=ZjD h2
  go_wp2_with fail
  go_region_held3 (fun w'=>w'.cell? ⟨g,0,none⟩=some (.int .i64 A)∧w'.cell? ⟨g,1,none⟩=some (.int .i64 B)∧w'.cell? ⟨g,2,none⟩=some (.bool false)∧w'.cell? ⟨g,3,none⟩=some (.bool false)) (first | (refine ⟨?_,?_,?_,?_⟩ <;> assumption) | go_keep)
   (first | (go_at_call 173; first | (refine (Zlo 65536 _).mono ?_; rintro e w' ⟨rfl,rfl⟩) | (refine (Zlo 131072 _).mono ?_; rintro e w' ⟨rfl,rfl⟩)))
  go_wp2_with fail
  go_ret2
  refine ⟨?_,h2.drew.skip⟩
  have hpb:=Ze8 A B 0 0 ha hb (by simp) (by simp)
  simp [Zat] at hpb ⊢
  omega
 ·go_enter Tryz.func139,Tryz.ntmps139
  go_wp2_with fail
  refine (HM.out _ H1.out).mono ?_
  rintro e w2 ⟨rfl,h2⟩
  clear y0 y1 y2 y3
  obtain ⟨y0,y1,y2,y3⟩:=ZjD h2
  go_wp2_with fail
  go_region_held3 (fun w'=>w'.cell? ⟨g,0,none⟩=some (.int .i64 A)∧w'.cell? ⟨g,1,none⟩=some (.int .i64 B)∧w'.cell? ⟨g,2,none⟩=some (.bool false)∧w'.cell? ⟨g,3,none⟩=some (.bool true)) (first | (refine ⟨?_,?_,?_,?_⟩ <;> assumption) | go_keep)
   (first | (go_at_call 173; first | (refine (Zlo 65536 _).mono ?_; rintro e w' ⟨rfl,rfl⟩) | (refine (Zlp 131072 _).mono ?_; rintro e w' ⟨rfl,rfl⟩)))
  go_wp2_with fail
  go_ret2
  refine ⟨?_,h2.drew.skip⟩
  have hpb:=Ze8 A B 0 131072 ha hb (by simp) (by simp)
  simp [Zat] at hpb ⊢
  omega
 ·go_enter Tryz.func139,Tryz.ntmps139
  go_wp2_with fail
  refine (HM.out _ H1.out).mono ?_
  rintro e w2 ⟨rfl,h2⟩
  clear y0 y1 y2 y3
  obtain ⟨y0,y1,y2,y3⟩:=ZjD h2
  go_wp2_with fail
  go_region_held3 (fun w'=>w'.cell? ⟨g,0,none⟩=some (.int .i64 A)∧w'.cell? ⟨g,1,none⟩=some (.int .i64 B)∧w'.cell? ⟨g,2,none⟩=some (.bool true)∧w'.cell? ⟨g,3,none⟩=some (.bool false)) (first | (refine ⟨?_,?_,?_,?_⟩ <;> assumption) | go_keep)
   (first | (go_at_call 173; first | (refine (Zlp 65536 _).mono ?_; rintro e w' ⟨rfl,rfl⟩) | (refine (Zlo 131072 _).mono ?_; rintro e w' ⟨rfl,rfl⟩)))
  go_wp2_with fail
  go_ret2
  refine ⟨?_,h2.drew.skip⟩
  have hpb:=Ze8 A B 65536 0 ha hb (by simp) (by simp)
  simp [Zat] at hpb ⊢
  omega
 ·go_enter Tryz.func139,Tryz.ntmps139
  go_wp2_with fail
  refine (HM.out _ H1.out).mono ?_
  rintro e w2 ⟨rfl,h2⟩
  clear y0 y1 y2 y3
  obtain ⟨y0,y1,y2,y3⟩:=ZjD h2
  go_wp2_with fail
  go_region_held3 (fun w'=>w'.cell? ⟨g,0,none⟩=some (.int .i64 A)∧w'.cell? ⟨g,1,none⟩=some (.int .i64 B)∧w'.cell? ⟨g,2,none⟩=some (.bool true)∧w'.cell? ⟨g,3,none⟩=some (.bool true)) (first | (refine ⟨?_,?_,?_,?_⟩ <;> assumption) | go_keep)
   (first | (go_at_call 173; first | (refine (Zlp 65536 _).mono ?_; rintro e w' ⟨rfl,rfl⟩) | (refine (Zlp 131072 _).mono ?_; rintro e w' ⟨rfl,rfl⟩)))
  go_wp2_with fail
  go_ret2
  refine ⟨?_,h2.drew.skip⟩
  have hpb:=Ze8 A B 65536 131072 ha hb (by simp) (by simp)
  simp [Zat] at hpb ⊢
  omega
end
end Go.Proofs.YtfcpdlbkmkhhcaaGreatDoor.See

namespace Go.Proofs.YtfcpdlbkmkhhcaaGreatDoor.See
open Go.RowKit
attribute [local go_sem ↓] Go.wp_at_zero Go.wp_at_succ
def ZqP (i:Int)(key:Nat)(n:Int):Value:=if (-1≤i∧i<16)∧(0≤n∧n<16) then .tuple #[.int .u64 (ZaR i key n.toNat:Nat),.int .i64 0] else .tuple #[.int .u64 0,.int .i64 2]
set_option maxRecDepth 100000 in
set_option maxHeartbeats 2000000 in
theorem Znp (i:Int)(key:Nat)(n:Int)(hk:key<18446744073709551616)(w:World):Calls Tryz.prog 128 #[.int .i64 i,.int .u64 key,.int .i64 n] w fun e w'=>e = .returned (ZqP i key n)∧w=w':=by
 have ho:=fun w=>ZeG i w
 have hn:=fun w=>ZeG n w
 unfold ZqP
 by_cases hi : -1≤i∧i<16
 ·by_cases hnn:0≤n∧n<16
  ·rw [if_pos ⟨hi,hnn⟩]
   obtain ⟨n,rfl⟩:∃ k:Nat,n=k:=⟨n.toNat,by omega⟩
   have ht:=fun w=>Zhc key n hk (by omega) w
   have hb:=u64_xor_nat (i+1).toNat (turned key n) (by omega) (Zfo key n)
   rw [show (((i+1).toNat:Nat):Int)=i+1 from by omega] at hb
   have hw:IntKind.u64.wrap (i+1)=i+1:=by rw [IntKind.wrap_u64]; omega
   rw [ZgW hnn] at hn
   rw [Int.toNat_natCast]
   unfold ZaR
   obtain ⟨T,hT⟩:∃ T,turned key n=T:=⟨_,rfl⟩
   obtain ⟨X,hX⟩:∃ X,(i+1).toNat ^^^ T=X:=⟨_,rfl⟩
   rw [hT] at ht hb ⊢
   rw [hX] at hb ⊢
   have HT:=Lib.hid ht
   have HN:=Lib.hid hn
   by_cases h1:i = -1
   ·subst h1
    rw [show (-1:Int)+1=0 from rfl] at hb hw
    clear ht hn hT hX hk ho
    go_enter Tryz.func128,Tryz.ntmps128
    go_wp2_with (first | (go_at_call 167; refine (HN.out _).mono ?_; rintro e w' ⟨rfl,rfl⟩) | (go_at_call 168; refine (HT.out _).mono ?_; rintro e w' ⟨rfl,rfl⟩))
    go_ret2
    exact ⟨rfl,rfl⟩
   ·rw [ZgW (by omega)] at ho
    have HO:=Lib.hid ho
    have hne:(i != -1)=true:=by simpa using h1
    clear ht hn hT hX hk ho
    go_enter Tryz.func128,Tryz.ntmps128
    go_wp2_with (first | (go_at_call 167; first | (refine (HO.out _).mono ?_; rintro e w' ⟨rfl,rfl⟩) | (refine (HN.out _).mono ?_; rintro e w' ⟨rfl,rfl⟩)) | (go_at_call 168; refine (HT.out _).mono ?_; rintro e w' ⟨rfl,rfl⟩))
    go_ret2
    exact ⟨rfl,rfl⟩
  ·rw [if_neg (fun h=>hnn h.2)]
   rw [ZlH hnn] at hn
   have HN:=Lib.hid hn
   by_cases h1:i = -1
   ·subst h1
    clear hn ho hk
    go_enter Tryz.func128,Tryz.ntmps128
    go_wp2_with (go_at_call 167; refine (HN.out _).mono ?_; rintro e w' ⟨rfl,rfl⟩)
    go_ret2
    exact ⟨rfl,rfl⟩
   ·rw [ZgW (by omega)] at ho
    have HO:=Lib.hid ho
    have hne:(i != -1)=true:=by simpa using h1
    clear hn ho hk
    go_enter Tryz.func128,Tryz.ntmps128
    go_wp2_with (go_at_call 167; first | (refine (HO.out _).mono ?_; rintro e w' ⟨rfl,rfl⟩) | (refine (HN.out _).mono ?_; rintro e w' ⟨rfl,rfl⟩))
    go_ret2
    exact ⟨rfl,rfl⟩
 ·rw [if_neg (fun h=>hi h.1)]
  rw [ZlH (by omega)] at ho
  have HO:=Lib.hid ho
  have hne:(i != -1)=true:=by simp; omega
  clear hn ho hk
  go_enter Tryz.func128,Tryz.ntmps128
  go_wp2_with (go_at_call 167; refine (HO.out _).mono ?_; rintro e w' ⟨rfl,rfl⟩)
  go_ret2
  exact ⟨rfl,rfl⟩
end Go.Proofs.YtfcpdlbkmkhhcaaGreatDoor.See

namespace Go.Proofs.YtfcpdlbkmkhhcaaGreatDoor
open Go.RowKit
theorem Zoj (i n:Int)(hn:1≤n) : -n<i.tmod n∧i.tmod n<n∧(i.tmod n<0→i.tmod n+n=i % n)∧(0≤i.tmod n→i.tmod n=i % n):=by
 have h1:=Int.emod_nonneg i (show n≠0 from by omega)
 have h2:=Int.emod_lt_of_pos i (show 0<n from by omega)
 have h3:=Int.tmod_eq_emod (a:=i) (b:=n)
 have h4:n ∣ i↔i % n=0:=Int.dvd_iff_emod_eq_zero
 have h5:(n.natAbs:Int)=n:=by omega
 have h6:0≤i→0≤i.tmod n:=fun h=>Int.tmod_nonneg n h
 by_cases h0:0≤i∨n ∣ i
 ·rw [if_pos h0] at h3
  omega
 ·rw [if_neg h0,h5] at h3
  have:¬ n ∣ i:=fun h=>h0 (.inr h)
  have h7:i % n≠0:=fun h=>this (h4.2 h)
  omega
theorem ZgF {n:Int}(h:(Lit.int .i64 n).wf=true) : -9223372036854775808≤n∧n≤9223372036854775807:=by
 simpa [Lit.wf,IntKind.min,IntKind.max,IntKind.signed,IntKind.bits] using h
theorem Zqe (i n:Int)(hn:1≤n):0≤i % n∧i % n<n:=⟨Int.emod_nonneg _ (by omega),Int.emod_lt_of_pos _ (by omega)⟩
set_option maxHeartbeats 400000 in
theorem ZaC (i n:Int)(h1:1≤n)(h2:n≤4611686018427387904)(hi:(Lit.int .i64 i).wf=true)(w:World) :
 Calls Tryz.prog 10 #[.int .i64 i,.int .i64 n] w fun e w'=>e = .returned (.int .i64 (i % n))∧w=w':=by
 obtain ⟨t1,t2,t3,t4⟩:=Zoj i n h1
 have hi:=ZgF hi
 have T3:=Lib.hid t3
 have T4:=Lib.hid t4
 clear t3 t4
 by_cases h0:0≤i
 ·have hp:i.tmod n=i % n:=T4.out (Int.tmod_nonneg n h0)
  have hq:=Zqe i n h1
  have H:=Lib.hid hp
  clear hp
  go_enter Tryz.func10,Tryz.ntmps10
  go_wp2
  all_goals first | (exfalso; omega) | skip
  all_goals go_ret
  all_goals exact ⟨rfl,rfl⟩
 ·go_enter Tryz.func10,Tryz.ntmps10
  go_wp2
  all_goals go_ret
  ·rename_i hlt
   exact ⟨by simpa using T3.out (by assumption),rfl⟩
  ·exact ⟨by simpa using T4.out (by assumption),rfl⟩
end Go.Proofs.YtfcpdlbkmkhhcaaGreatDoor
