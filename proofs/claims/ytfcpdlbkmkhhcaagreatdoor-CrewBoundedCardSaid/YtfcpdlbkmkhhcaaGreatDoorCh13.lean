/-
  Texts of this claim, joined. No condition.
-/
import Derived.Test.YtfcpdlbkmkhhcaaGreatDoorCh1
import Derived.Test.YtfcpdlbkmkhhcaaGreatDoorCh12
import Derived.SizedLaws
import Derived.Laws.StructEq
import Derived.Test.YtfcpdlbkmkhhcaaGreatDoorRows
import Derived.Test.YtfcpdlbkmkhhcaaGreatDoorCh10
import Derived.Laws.BitsAllLaws
namespace Go.Proofs.YtfcpdlbkmkhhcaaGreatDoor
set_option maxRecDepth 100000
set_option maxHeartbeats 40000000
section
open Go.RowKit
theorem YO:(Tryz.prog.info? 22).map (fun i=>(i.zero,i.size,i.bytes))=some (some (.int .u64 0),1,8):=by kernel_rfl
def words (l:List Nat):List Value:=l.map fun (n:Nat)=>.int .u64 (n:Int)
theorem Zg (l:List Nat):(words l).length=l.length:=by simp[words]
theorem Uj {l:List Nat}{i n:Nat}(h:l[i]?=some n):(words l)[i]?=some (.int .u64 (n:Int)):=by simp[words,h]
theorem Zom (l:List Nat):∀ u∈words l,u.oneCell'=true:=by
 intro u hu;obtain⟨n,_,rfl⟩:=List.mem_map.1 hu;rfl
theorem Zj9 (a b:List Nat):words a++words b=words (a++b):=by simp[words]
abbrev Lm (ex:Bool) (v:Value) (l:List Nat) (bs:List (Nat×Obj)):Prop:=gI ex 22 1 v l.length (words l) bs
abbrev Tz (w:World) (v:Value) (l:List Nat):Prop:=Src w 1 v l.length (words l)
section
variable {W w:World}{m bs:List (Nat×Obj)}{v x:Value}{l l':List Nat}
theorem Zf2 {ops:Array Oper}{rest:List Oper}{o:Oper}{a:Act}{Q:Exit→Act→World→Prop}(jw:o.guard=none)(s x:Operand)
 (ho:o.op = .call { callee:=.builtin .append,args:=#[s,x],argTypes:=#[67,67] }) {v xv:Value} (oM:a.eval s=v) (hex:a.eval x=xv)
 (hs:Lm true v l bs) (hO:Own W (bs++m) w) (hx:Tz w xv l') (hlen:(l.length+l'.length) * 8≤140737488351232)
 (h:∀ v' w' bs',Lm true v' (l++l') bs'→Own W (bs'++m) w'→(v' = .slice none 0 0↔v = .slice none 0 0∧l'=[])→wpList Tryz.prog ops Q rest (a.put o.dst v') w') :
 wpList Tryz.prog ops Q (o::rest) a w:=by
 obtain⟨i,hi,hz,dn,hb⟩:=Gs YO;refine Ty jw s x _ ho oM hex 22 i _ 1 8 Tryz.underlying67 hi hz dn hb rfl (by omega) hs hO hx (Zom l') (by unfold maxLen;omega) (by omega) fun v' w' bs' h1 h2 h3 => ?_;rw[Zj9,← Zxw]at h1;exact h v' w' bs' h1 h2 (by rw[h3,List.length_eq_zero_iff])
end
end
namespace Mem
open Go.RowKit
attribute [local go_sem ↓] Go.wp_at_zero Go.wp_at_succ
def l9 (g:List Nat):Array Value:=(words g).toArray
theorem TK {g:List Nat}{i x:Nat}(h:g[i]?=some x):(l9 g)[i]?=some (.int .u64 (x:Int)):=by simp[l9,words,h]
def mB (b0 b1 N k:Nat):Nat×Obj:=(b0,.cells #[.slice (some ⟨b1,0,none⟩) N N,.int .i64 (k:Int)] 97)
def wB (b1:Nat)(g:List Nat):Nat×Obj:=(b1,.cells (l9 g) 22)
section
variable {W w:World}{m:List (Nat×Obj)}{b0 b1 N k b:Nat}{g:List Nat}
theorem Zto (h:Own W (mB b0 b1 N k::m) w):w.cell? ⟨b0,0,none⟩=some (.slice (some ⟨b1,0,none⟩) N N)∧w.cell? ⟨b0,1,none⟩=some (.int .i64 (k:Int))∧w.frozen? ⟨b0,1,none⟩=false :=
 ⟨h.cell ZnJ 0,h.cell ZnJ 1,h.frozen ZnJ 1⟩
theorem ZrZ (h:Own W (wB b1 g::m) w){i x:Nat}(hx:g[i]?=some x):w.cell? ⟨b1,i,none⟩=some (.int .u64 (x:Int))∧w.frozen? ⟨b1,i,none⟩=false:=by
 have h1:=h.cell ZnJ i;rw[TK hx]at h1;exact⟨h1,h.frozen ZnJ i⟩
theorem sw {α:Type}(x y:α)(l:List α):(x::y::l).Perm (y::x::l):=List.Perm.swap _ _ _
theorem up1 {α:Type}(x y:α)(l:List α):(x::y::l).Perm (y::x::l):=List.Perm.swap _ _ _
theorem yU {α:Type}(x1 x2 y:α)(l:List α):(x1::x2::y::l).Perm (y::x1::x2::l):=((up1 x2 y l).cons x1).trans (up1 _ _ _)
end
end Mem
namespace Mem
open Go.RowKit
attribute [local go_sem ↓] Go.wp_at_zero Go.wp_at_succ
section
variable {W w:World}{m:List (Nat×Obj)}{b0 b1 N k b:Nat}{g:List Nat}{v:Value}
theorem Zmd (h:Own W m w)(hv:Tz w v g)(hlen:g.length * 8≤140737488351232) :
 Calls Tryz.prog 39 #[v] w fun e w'=>∃ v' bs',e = .returned v'∧Lm true v' g bs'∧Own W (bs'++m) w':=by
 rcases hv.2 with⟨rfl,hn⟩|⟨a,c,rfl,hc⟩
 ·have hl:g=[]:=List.eq_nil_of_length_eq_zero hn
  subst hl;have he:=Lib.run_eql_slice_nil (P:=Tryz.prog) w 67 22 none 0 0 0 0 Tryz.underlying67
  go_enter Tryz.func39,Tryz.ntmps39
  go_wp2;go_ret;exact⟨_,[],rfl,gI.nil _ _ _,h⟩
 ·have he:=Lib.run_eql_slice_nil (P:=Tryz.prog) w 67 22 (some a) g.length c 0 0 Tryz.underlying67
  have hn:=h.new (.cells #[] 22);have cO:Lm true (.slice (some ⟨w.heap.size,0,none⟩) 0 0) [] [(w.heap.size,.cells #[] 22)]:=gI.made true 22 1 w.heap.size 0 #[] 0 (Zxt _) (by unfold maxLen;omega) rfl;have hx:=hv.below (w':=w.alloc (.cells #[] 22)) ((Below.refl _ _).alloc (Zxt _) _);clear hv hc
  go_enter Tryz.func39,Tryz.ntmps39
  go_wp2_with (at_builtin;refine Zf2 rfl _ _ rfl rfl rfl cO hn hx (by simpa using hlen) ?_;intro v' w' bs' h1 h2 h3;have H1:=ZkQ h1;clear h1 h3)
  go_ret;exact⟨_,bs',rfl,H1.out,h2⟩
theorem Zrn (h:Own W (wB b1 g::m) w):Tz w (.slice (some ⟨b1,0,none⟩) g.length g.length) g :=
 ⟨by rw[Zg,Nat.mul_one],.inr ⟨_,_,rfl,fun j u hj=>by
  rw[PY];have Ah:j<g.length:=by
     have:=(List.getElem?_eq_some_iff.1 hj).1;rw[Zg]at this;exact this
  have oN:g[j]?=some (g[j]'Ah):=Zxp Ah;rw[Uj oN]at hj;rw[(ZrZ h oN).1,← hj]⟩⟩
theorem ZN (h:Own W (mB b0 b1 N k::wB b1 g::m) w)(hN:g.length=N)(hN2:N≤4096) :
 Calls Tryz.prog 19 #[.pointer (some ⟨b0,0,none⟩)] w fun e w'=>∃ v' bs',e = .returned v'∧Lm true v' g bs'∧Own W (bs'++(mB b0 b1 N k::wB b1 g::m)) w':=by
 obtain⟨y0,y1,f1⟩:=Zto h;have hs:=Zrn h.skip;have hc:=Zmd h hs (by omega);rw[hN]at hc;have HC:=ZkQ hc;clear hc hs h hN
 go_enter Tryz.func19,Tryz.ntmps19
 go_wp2_with fail
 refine HC.out.mono ?_;rintro e w3 ⟨v',bs',rfl,h3,h4⟩;obtain⟨A,c,rfl,-,-⟩:=h3.slice;have H3:=ZkQ h3;have H4:=ZkQ h4;clear h3 h4;go_wp2_with fail
 go_ret;exact⟨_,bs',rfl,H3.out,H4.out⟩
theorem row_zero (n:Nat):Array.replicate n (Value.int .u64 0)=l9 (List.replicate n 0):=by
 unfold l9 words;simp
theorem Zo5 (h:Own W m w)(h1:1≤N)(h2:N≤4096) :
 Calls Tryz.prog 21 #[.int .i64 N] w fun e w'=>∃ b0 b1,e = .returned (.tuple #[.pointer (some ⟨b0,0,none⟩),.int .i64 0])∧Own W (mB b0 b1 N 0::wB b1 (List.replicate N 0)::m) w':=by
 obtain⟨i,hi,hzz,hs,kV⟩:=Gs YO;have Wt:=fun W=>Ziv (P:=Tryz.prog) 67 22 i _ Tryz.underlying67 hi hzz .i64 .i64 N N (Zxt _) (by rw[kV];omega) (by omega) W;rw[hs,Nat.mul_one,ZgQ _ (.int .u64 0) _ (by simp[Value.cells]) (by intro j hj;obtain rfl:j=0:=(by simp[Value.cells]at hj;omega);rfl),row_zero]at Wt;clear hi hzz hs kV;have h3:Own W (wB w.heap.size (List.replicate N 0)::m) _:=h.new (.cells (l9 (List.replicate N 0)) 22);have h4:=h3.new (.cells #[.slice (some ⟨w.heap.size,0,none⟩) N N,.int .i64 0] 97);rw[World.size_alloc]at h4;have pG:(1:Int)≤N:=by omega
 have jy:(N:Int)≤4096:=by omega
 clear h h3
 go_enter Tryz.func21,Tryz.ntmps21
 go_wp2_with fail
 go_ret2
 exact⟨_,_,rfl,h4⟩
end
end Mem
namespace See
def walk (sh:Nat→Int→Option Int)(l:List Nat):Nat→List Int→Int→Option (List Int)
 |0,_,_=>none
 |n+1,out,i=>if i = -1 then some out else if i∈out then none else match sh (l.getD i.toNat 0) i with
  |none=>none
  |some x=>if (l.length:Int)≤x then none else walk sh l n (out++[i]) x
def chain (of:Nat→Option Int)(nx:Int→Nat)(S:Nat):Nat→List Int→Nat→Option (List Int)
 |0,_,_=>none
 |n+1,out,w=>match of w with
  |none=>none
  |some s=>if (S:Int)≤s∨s∈out then none else if s = -1 then some out else chain of nx S n (out++[s]) (nx s)
theorem few:∀ {S:Nat} {l:List Int},l.Nodup→(∀ x∈l,0≤x∧x<S)→l.length≤S
 |0,l,_,hb=>by
  cases l with
  |nil=>simp
  |cons x l =>
   have:=hb x ZnJ;omega
 |S+1,l,hn,hb=>by
  have h1:=few (S:=S) (l:=l.erase (S:Int)) (hn.erase _) fun x hx=>by
   have h2:=(hn.mem_erase_iff).1 hx;have:=hb x h2.2;omega
  by_cases hm:(S:Int)∈l
  ·rw[List.length_erase_of_mem hm]at h1
   omega
  ·rw[List.erase_of_not_mem hm]at h1
   omega
theorem Vq {S:Nat}{l:List Int}(hn:l.Nodup)(hb:∀ x∈l,0≤x∧x<S){i:Int}(h0:0≤i)(h1:i<S)(hi:i∉l):l.length<S:=by
 have:=few (S:=S) (l:=l++[i]) (List.nodup_append.2 ⟨hn,by simp,fun a ha b dP he=>by
  simp at dP;subst dP;subst he;exact hi ha⟩) (fun x hx=>by
  rcases List.mem_append.1 hx with hx|hx
  ·exact hb x hx
  ·simp at hx
   subst hx;exact⟨h0,h1⟩)
 simp at this;omega
def xX (g:List Nat):Prop:=∀ x∈g,x<18446744073709551616
def sO (w:Nat):Option (Int×Int):=if w=0 then some (-1,-1) else if 64≤w∧w<2112∧w % 64≤16 then some (((w / 64:Nat):Int) - 1,((w % 64:Nat):Int) - 1) else none
def partOf (w:Nat):Option (Int×Int):=if w=0 then some (-1,0) else if 64≤w∧w<4096∧1≤w % 64∧w % 64≤32 then some (((w % 64:Nat):Int) - 1,((w / 64:Nat):Int)) else none
def yI (w:Nat):Option Int:=if w≤32 then some ((w:Int) - 1) else none
structure Gt where
 ay:Nat
 objects:Nat
 frozen:Bool
 live:Bool
 deriving DecidableEq
def sM (w:Nat):Option Gt:=if w=0 then some ⟨0,0,false,false⟩ else
 if 131072≤w∧w<262144∧1≤w / 256 % 256∧w / 256 % 256≤16∧w % 256≤w / 256 % 256 then some ⟨w % 256,w / 256 % 256,decide (w / 65536 % 2=1),true⟩ else none
def turned (key n:Nat):Nat:=(((key <<< (5 * n % 64)) % 18446744073709551616 ||| key >>> (64 - 5 * n % 64))+n * 2654435769) % 18446744073709551616
def qG (w key n:Nat):Option Int:=if w ^^^ turned key n≤16 then some (((w ^^^ turned key n:Nat):Int) - 1) else none
def keyOf (key s:Nat):Nat:=(key+s * 11400714819323198485) % 18446744073709551616
structure Ch where
 C:Nat
 S:Nat
 O:Nat
 key:Nat
def Ch.words (c:Ch):Nat:=4 * c.C+4+4 * c.S+c.S * c.O
def Ch.ok (c:Ch):Prop:=1≤c.C∧c.C≤8∧1≤c.S∧c.S≤32∧1≤c.O∧c.O≤16
def at_ (g:List Nat)(i:Nat):Nat:=g.getD i 0
def nI (c:Ch)(g:List Nat)(s:Int):Nat:=at_ g (4 * c.C+4+4 * s.toNat+2)
def links (c:Ch)(g:List Nat)(s:Nat):List Nat:=(g.drop (4 * c.C+4+4 * c.S+s * c.O)).take c.O
def vT (c:Ch)(g:List Nat)(s i:Int):Option (List Int) :=
 if 0≤s∧s<c.S ∧ -1≤i∧i<c.O then walk (fun w o=>qG w (keyOf c.key s.toNat) o.toNat) (links c g s.toNat) (c.O+1) [] i else none
structure JK where
 aA:Int
 list:List Int
 turn:Nat
 parts:List Int
structure JJ where
 counts:Gt
 first:List Int
def DJ (c:Ch)(g:List Nat)(w:Nat):Option (List Int):=chain (fun w=>(partOf w).map (·.1)) (nI c g) c.S (c.S+1) [] w
def G5 (c:Ch)(g:List Nat):Option (List Int):=chain yI (nI c g) c.S (c.S+1) [] (at_ g (4 * c.C+1))
def DI (c:Ch)(g:List Nat)(i:Nat):Option JK :=
 match sO (at_ g (4 * i)) with
 |none=>none
 |some (s,o)=>match (if s = -1 then some [] else vT c g s o) with
  |none=>none
  |some l=>match DJ c g (at_ g (4 * i+2)) with
   |none=>none
   |some p=>some ⟨s,l,at_ g (4 * i+1),p⟩
def DF (c:Ch)(g:List Nat)(s:Nat):Option JJ :=
 match sM (at_ g (4 * c.C+4+4 * s+1)) with
 |none=>none
 |some n=>if c.O<at_ g (4 * c.C+4+4 * s) then none else match vT c g s ((at_ g (4 * c.C+4+4 * s):Int) - 1) with
  |none=>none
  |some l=>some ⟨n,l⟩
def upto {α:Type}(f:Nat→Option α):Nat→Option (List α)
 |0=>some []
 |n+1=>match upto f n with
  |none=>none
  |some l=>match f n with
   |none=>none
   |some x=>some (l++[x])
theorem Vp {α:Type}{f:Nat→Option α}{k:Nat}(h:f k=none):∀ {n:Nat},k<n→upto f n=none
 |0,hk=>by omega
 |n+1,hk=>by
  unfold upto;by_cases he:k=n
  ·subst he
   rw[h];cases upto f k<;>rfl
  ·rw[Vp h (show k<n by omega)]
structure Fh where
 slots:List JK
 shelf:List Int
 nE:Bool
 mQ:List JJ
def G8 (c:Ch)(g:List Nat):Option Fh :=
 match upto (DI c g) c.C with
 |none=>none
 |some a=>match G5 c g with
  |none=>none
  |some l=>match upto (DF c g) c.S with
   |none=>none
   |some b=>some ⟨a,l,decide (at_ g (4 * c.C)≠0),b⟩
end See
namespace See
open Go.RowKit
attribute [local go_sem ↓] Go.wp_at_zero Go.wp_at_succ
theorem UM (w:Nat)(h:w<18446744073709551616):bits .and .u64 (w:Int) 63=((w % 64:Nat):Int):=by
 have:=u64_and_nat w 63 h (by omega);rw[show(63:Int)=((63:Nat):Int) from rfl,this,show(63:Nat)=2 ^ 6 - 1 from rfl,Nat.and_two_pow_sub_one_eq_mod]
theorem ZpD (w:Nat)(h:w<18446744073709551616):bits .and .u64 (w:Int) 255=((w % 256:Nat):Int):=by
 have:=u64_and_nat w 255 h (by omega);rw[show(255:Int)=((255:Nat):Int) from rfl,this,show(255:Nat)=2 ^ 8 - 1 from rfl,Nat.and_two_pow_sub_one_eq_mod]
def EM (s o:Int):Prop:=0≤s∧s<32 ∧ -1≤o∧o<16
instance (s o:Int):Decidable (EM s o):=inferInstanceAs (Decidable (0≤s∧s<32 ∧ -1≤o∧o<16))
def headW (s o:Int):Nat:=(64 * (s+1)+(o+1)).toNat
theorem Zt1 (a b:Nat)(ha:a<1000)(hb:b<64):bits .or .u64 ((64 * a:Nat):Int) (b:Int)=((64 * a+b:Nat):Int):=by
 have:=u64_or_nat (64 * a) b (by omega) (by omega);rw[this];have h:=Nat.two_pow_add_eq_or_of_lt (i:=6) (b:=b) hb a;rw[← h]
def U6 (s:Int):Bool:=decide (0≤s∧s<32)
theorem Lv {s:Int}(h:0≤s∧s<32):U6 s=true:=Zx8 h
theorem Qh {s:Int}(h:¬ (0≤s∧s<32)):U6 s=false:=Zx7 h
theorem EA (s:Int)(w:World):Calls Tryz.prog 119 #[.int .i64 s] w fun e w'=>e = .returned (.bool (U6 s))∧w=w':=by
 by_cases h0:0≤s
 ·by_cases h1:s<32
  ·rw[Lv ⟨h0,h1⟩]
   go_enter Tryz.func119,Tryz.ntmps119
   go_wp2_with fail
   go_ret;exact⟨rfl,rfl⟩
  ·rw[Qh (by omega)]
   go_enter Tryz.func119,Tryz.ntmps119
   go_wp2_with fail
   go_ret;exact⟨rfl,rfl⟩
 ·rw[Qh (by omega)]
  go_enter Tryz.func119,Tryz.ntmps119
  go_wp2_with fail
  go_ret;exact⟨rfl,rfl⟩
theorem Cb (s o:Int)(h:EM s o)(w:World):Calls Tryz.prog 69 #[.int .i64 s,.int .i64 o] w fun e w'=>e = .returned (.tuple #[.int .u64 (headW s o),.int .i64 0])∧w=w':=by
 obtain⟨h0,h1,h2,h3⟩:=h;have hb:(s == -1)=false:=beq_eq_false_iff_ne.2 (by omega);have hw:bits .or .u64 ((s+1) * 64) (o+1)=headW s o:=by
  have:=Zt1 (s+1).toNat (o+1).toNat (by omega) (by omega);rw[show((64 * (s+1).toNat:Nat):Int)=(s+1) * 64 by omega,show((o+1).toNat:Int)=o+1 by omega]at this;rw[this];unfold headW;omega
 have HW:=ZkQ hw;clear hw
 go_enter Tryz.func69,Tryz.ntmps69
 go_wp2_with (go_at_call 119;refine(EA s _).mono ?_;rintro e w' ⟨rfl,rfl⟩;rw[Lv ⟨h0,h1⟩])
 go_ret2
 exact⟨by rw[← HW.out];rfl,rfl⟩
theorem Znn (w:World):Calls Tryz.prog 69 #[.int .i64 (-1),.int .i64 (-1)] w fun e w'=>e = .returned (.tuple #[.int .u64 0,.int .i64 0])∧w=w':=by
 go_enter Tryz.func69,Tryz.ntmps69
 go_wp2_with fail
 go_ret2
 exact⟨rfl,rfl⟩
theorem ZoT (s o:Int)(h:¬ EM s o)(hn:¬ (s = -1∧o = -1))(w:World):Calls Tryz.prog 69 #[.int .i64 s,.int .i64 o] w fun e w'=>e = .returned (.tuple #[.int .u64 0,.int .i64 2])∧w=w':=by
 unfold EM at h;by_cases hs:s = -1
 ·subst hs
  have hb:(o == -1)=false:=beq_eq_false_iff_ne.2 (by omega)
  go_enter Tryz.func69,Tryz.ntmps69
  go_wp2_with (go_at_call 119;refine(EA (-1) _).mono ?_;rintro e w' ⟨rfl,rfl⟩)
  go_ret2
  exact⟨rfl,rfl⟩
 ·have hb:(s == -1)=false:=beq_eq_false_iff_ne.2 hs
  by_cases hm:0≤s∧s<32
  ·rcases(show o < -1∨(¬ o < -1∧16≤o) by omega) with ho|⟨ho,xD⟩
   all_goals
    go_enter Tryz.func69,Tryz.ntmps69
    go_wp2_with (go_at_call 119;refine(EA s _).mono ?_;rintro e w' ⟨rfl,rfl⟩;rw[Lv hm])
    go_ret2
    exact⟨rfl,rfl⟩
  ·go_enter Tryz.func69,Tryz.ntmps69
   go_wp2_with (go_at_call 119;refine(EA s _).mono ?_;rintro e w' ⟨rfl,rfl⟩;rw[Qh hm])
   go_ret2
   exact⟨rfl,rfl⟩
def hIs (s o:Int):Bool:=decide (EM s o∨(s = -1∧o = -1))
theorem Z9 (s o:Int)(w:World):Calls Tryz.prog 68 #[.int .i64 s,.int .i64 o] w fun e w'=>e = .returned (.bool (hIs s o))∧w=w':=by
 by_cases h:EM s o
 ·rw[show hIs s o=true from Zx8 (.inl h)]
  have HH:=ZkQ h
  go_enter Tryz.func68,Tryz.ntmps68
  go_wp2_with (go_at_call 69;refine(Cb s o HH.out _).mono ?_;rintro e w' ⟨rfl,rfl⟩)
  go_ret;exact⟨rfl,rfl⟩
 ·by_cases hn:s = -1∧o = -1
  ·obtain⟨rfl,rfl⟩:=hn
   rw[show hIs (-1) (-1)=true from Zx8 (.inr ⟨rfl,rfl⟩)]
   go_enter Tryz.func68,Tryz.ntmps68
   go_wp2_with (go_at_call 69;refine(Znn _).mono ?_;rintro e w' ⟨rfl,rfl⟩)
   go_ret;exact⟨rfl,rfl⟩
  ·rw[show hIs s o=false from Zx7 (by intro hh;exact hh.elim h hn)]
   have HH:=ZkQ h;have HN:=ZkQ hn;clear h hn
   go_enter Tryz.func68,Tryz.ntmps68
   go_wp2_with (go_at_call 69;refine(ZoT s o HH.out HN.out _).mono ?_;rintro e w' ⟨rfl,rfl⟩)
   go_ret;exact⟨rfl,rfl⟩
def yF (w:Nat)(hi lo:Int)(p:Int→Int→Bool):Value :=
 if w≤4095∧p (((w / 64:Nat):Int) - hi) (((w % 64:Nat):Int) - lo)=true then .tuple #[.int .i64 (((w / 64:Nat):Int) - hi),.int .i64 (((w % 64:Nat):Int) - lo),.bool true] else .tuple #[.int .i64 0,.int .i64 0,.bool false]
theorem Zs1 (x:Nat)(hx:x<18446744073709551616)(hi lo:Int)(h0:0≤hi)(h1:hi≤1)(l0:0≤lo)(l1:lo≤1)(w:World) :
 Calls Tryz.prog 67 #[.int .u64 x,.int .i64 hi,.int .i64 lo,.func (.func 68) #[] #[]] w fun e w'=>e = .returned (yF x hi lo hIs)∧w=w':=by
 have ha:=UM x hx;have hd:(x:Int) / 64=((x / 64:Nat):Int):=by omega
 obtain⟨q,hq⟩:∃ q:Nat,x / 64=q:=⟨_,rfl⟩;obtain⟨r,hr⟩:∃ r:Nat,x % 64=r:=⟨_,rfl⟩;have Ec:x≤4095→q≤63:=by omega
 have u6:r<64:=by omega
 unfold yF;rw[hq,hr];rw[hr]at ha;rw[hq]at hd;clear hq hr;by_cases kE:x≤4095
 ·have M7:(x:Int)≤4095:=by omega
  have Ec:=Ec kE;clear hx;cases hc:hIs ((q:Int) - hi) ((r:Int) - lo)
  ·rw[if_neg (by simp)]
   go_enter Tryz.func67,Tryz.ntmps67
   go_wp2_with fail
   refine(Z9 _ _ _).mono ?_;rintro e w' ⟨rfl,rfl⟩;rw[hc];go_wp2_with fail
   go_ret3
   exact⟨rfl,rfl⟩
  ·rw[if_pos ⟨kE,rfl⟩]
   go_enter Tryz.func67,Tryz.ntmps67
   go_wp2_with fail
   refine(Z9 _ _ _).mono ?_;rintro e w' ⟨rfl,rfl⟩;rw[hc];go_wp2_with fail
   go_ret3
   exact⟨rfl,rfl⟩
 ·have M7:¬ (x:Int)≤4095:=by omega
  rw[if_neg (by intro h;exact kE h.1)];clear hx Ec
  go_enter Tryz.func67,Tryz.ntmps67
  go_wp2_with fail
  go_ret3
  exact⟨rfl,rfl⟩
def QK (w:Nat):Value:=match sO w with
 |some (s,o)=>.tuple #[.int .i64 s,.int .i64 o,.bool true]
 |none=>.tuple #[.int .i64 (-1),.int .i64 (-1),.bool false]
theorem ZkL (w:Nat):sO w=if w≤4095∧hIs (((w / 64:Nat):Int) - 1) (((w % 64:Nat):Int) - 1)=true then some (((w / 64:Nat):Int) - 1,((w % 64:Nat):Int) - 1) else none:=by
 unfold sO hIs EM;by_cases h0:w=0
 ·subst h0
  rw[if_pos rfl,if_pos ⟨by omega,by decide⟩];rfl
 ·rw[if_neg h0]
  by_cases h1:64≤w∧w<2112∧w % 64≤16
  ·rw[if_pos h1,if_pos ⟨by omega,Zx8 (.inl (by omega))⟩]
  ·rw[if_neg h1,if_neg]
   rintro⟨h2,h3⟩;have h3:=Zx6 h3;omega
theorem Zf (x:Nat)(hx:x<18446744073709551616)(w:World):Calls Tryz.prog 52 #[.int .u64 x] w fun e w'=>e = .returned (QK x)∧w=w':=by
 have ht:=fun w=>Zs1 x hx 1 1 (by omega) (by omega) (by omega) (by omega) w;have HT:=ZkQ ht;unfold QK;have he:=ZkL x;clear hx ht;by_cases hc:x≤4095∧hIs (((x / 64:Nat):Int) - 1) (((x % 64:Nat):Int) - 1)=true
 ·rw[if_pos hc]at he
  rw[he];have hv:yF x 1 1 hIs = .tuple #[.int .i64 (((x / 64:Nat):Int) - 1),.int .i64 (((x % 64:Nat):Int) - 1),.bool true]:=by
   unfold yF;rw[if_pos hc]
  have HV:=ZkQ hv;clear hv he hc
  go_enter Tryz.func52,Tryz.ntmps52
  go_wp2_with fail
  refine(HT.out _).mono ?_;rintro e w' ⟨rfl,rfl⟩;rw[HV.out];go_wp2_with fail
  go_ret3
  exact⟨rfl,rfl⟩
 ·rw[if_neg hc]at he
  rw[he];have hv:yF x 1 1 hIs = .tuple #[.int .i64 0,.int .i64 0,.bool false]:=by
   unfold yF;rw[if_neg hc]
  have HV:=ZkQ hv;clear hv he hc
  go_enter Tryz.func52,Tryz.ntmps52
  go_wp2_with fail
  refine(HT.out _).mono ?_;rintro e w' ⟨rfl,rfl⟩;rw[HV.out];go_wp2_with fail
  go_ret3
  exact⟨rfl,rfl⟩
def BM (s n:Int):Prop:=0≤s∧s<32∧1≤n∧n≤63
instance (s n:Int):Decidable (BM s n):=inferInstanceAs (Decidable (0≤s∧s<32∧1≤n∧n≤63))
def qF (s n:Int):Nat:=(64 * n+(s+1)).toNat
theorem Z0 (s n:Int)(h:BM s n)(w:World):Calls Tryz.prog 122 #[.int .i64 s,.int .i64 n] w fun e w'=>e = .returned (.tuple #[.int .u64 (qF s n),.int .i64 0])∧w=w':=by
 obtain⟨h0,h1,h2,h3⟩:=h;have hb:(s == -1)=false:=beq_eq_false_iff_ne.2 (by omega);have hw:bits .or .u64 (n * 64) (s+1)=qF s n:=by
  have:=Zt1 n.toNat (s+1).toNat (by omega) (by omega);rw[show((64 * n.toNat:Nat):Int)=n * 64 by omega,show((s+1).toNat:Int)=s+1 by omega]at this;rw[this];unfold qF;omega
 have HW:=ZkQ hw;clear hw
 go_enter Tryz.func122,Tryz.ntmps122
 go_wp2_with (go_at_call 119;refine(EA s _).mono ?_;rintro e w' ⟨rfl,rfl⟩;rw[Lv ⟨h0,h1⟩])
 go_ret2
 exact⟨by rw[← HW.out];rfl,rfl⟩
theorem ZnR (w:World):Calls Tryz.prog 122 #[.int .i64 (-1),.int .i64 0] w fun e w'=>e = .returned (.tuple #[.int .u64 0,.int .i64 0])∧w=w':=by
 go_enter Tryz.func122,Tryz.ntmps122
 go_wp2_with fail
 go_ret2
 exact⟨rfl,rfl⟩
theorem Zpb (s n:Int)(h:¬ BM s n)(hn:¬ (s = -1∧n=0))(w:World):Calls Tryz.prog 122 #[.int .i64 s,.int .i64 n] w fun e w'=>e = .returned (.tuple #[.int .u64 0,.int .i64 2])∧w=w':=by
 unfold BM at h;by_cases hs:s = -1
 ·subst hs
  have hb:(n==0)=false:=beq_eq_false_iff_ne.2 (by omega)
  go_enter Tryz.func122,Tryz.ntmps122
  go_wp2_with (go_at_call 119;refine(EA (-1) _).mono ?_;rintro e w' ⟨rfl,rfl⟩)
  go_ret2
  exact⟨rfl,rfl⟩
 ·have hb:(s == -1)=false:=beq_eq_false_iff_ne.2 hs
  by_cases hm:0≤s∧s<32
  ·rcases(show n<1∨(¬ n<1∧63<n) by omega) with ho|⟨ho,xD⟩
   all_goals
    go_enter Tryz.func122,Tryz.ntmps122
    go_wp2_with (go_at_call 119;refine(EA s _).mono ?_;rintro e w' ⟨rfl,rfl⟩;rw[Lv hm])
    go_ret2
    exact⟨rfl,rfl⟩
  ·go_enter Tryz.func122,Tryz.ntmps122
   go_wp2_with (go_at_call 119;refine(EA s _).mono ?_;rintro e w' ⟨rfl,rfl⟩;rw[Qh hm])
   go_ret2
   exact⟨rfl,rfl⟩
def Bc (n s:Int):Bool:=decide (BM s n∨(s = -1∧n=0))
theorem Z4 (n s:Int)(w:World):Calls Tryz.prog 121 #[.int .i64 n,.int .i64 s] w fun e w'=>e = .returned (.bool (Bc n s))∧w=w':=by
 by_cases h:BM s n
 ·rw[show Bc n s=true from Zx8 (.inl h)]
  have HH:=ZkQ h;clear h
  go_enter Tryz.func121,Tryz.ntmps121
  go_wp2_with (go_at_call 122;refine(Z0 s n HH.out _).mono ?_;rintro e w' ⟨rfl,rfl⟩)
  go_ret;exact⟨rfl,rfl⟩
 ·by_cases hn:s = -1∧n=0
  ·obtain⟨rfl,rfl⟩:=hn
   rw[show Bc 0 (-1)=true from Zx8 (.inr ⟨rfl,rfl⟩)]
   go_enter Tryz.func121,Tryz.ntmps121
   go_wp2_with (go_at_call 122;refine(ZnR _).mono ?_;rintro e w' ⟨rfl,rfl⟩)
   go_ret;exact⟨rfl,rfl⟩
  ·rw[show Bc n s=false from Zx7 (by intro hh;exact hh.elim h hn)]
   have HH:=ZkQ h;have HN:=ZkQ hn;clear h hn
   go_enter Tryz.func121,Tryz.ntmps121
   go_wp2_with (go_at_call 122;refine(Zpb s n HH.out HN.out _).mono ?_;rintro e w' ⟨rfl,rfl⟩)
   go_ret;exact⟨rfl,rfl⟩
theorem Zs2 (x:Nat)(hx:x<18446744073709551616)(hi lo:Int)(h0:0≤hi)(h1:hi≤1)(l0:0≤lo)(l1:lo≤1)(w:World) :
 Calls Tryz.prog 67 #[.int .u64 x,.int .i64 hi,.int .i64 lo,.func (.func 121) #[] #[]] w fun e w'=>e = .returned (yF x hi lo Bc)∧w=w':=by
 have ha:=UM x hx;have hd:(x:Int) / 64=((x / 64:Nat):Int):=by omega
 obtain⟨q,hq⟩:∃ q:Nat,x / 64=q:=⟨_,rfl⟩;obtain⟨r,hr⟩:∃ r:Nat,x % 64=r:=⟨_,rfl⟩;have Ec:x≤4095→q≤63:=by omega
 have u6:r<64:=by omega
 unfold yF;rw[hq,hr];rw[hr]at ha;rw[hq]at hd;clear hq hr;by_cases kE:x≤4095
 ·have M7:(x:Int)≤4095:=by omega
  have Ec:=Ec kE;clear hx;cases hc:Bc ((q:Int) - hi) ((r:Int) - lo)
  ·rw[if_neg (by simp)]
   go_enter Tryz.func67,Tryz.ntmps67
   go_wp2_with fail
   refine(Z4 _ _ _).mono ?_;rintro e w' ⟨rfl,rfl⟩;rw[hc];go_wp2_with fail
   go_ret3
   exact⟨rfl,rfl⟩
  ·rw[if_pos ⟨kE,rfl⟩]
   go_enter Tryz.func67,Tryz.ntmps67
   go_wp2_with fail
   refine(Z4 _ _ _).mono ?_;rintro e w' ⟨rfl,rfl⟩;rw[hc];go_wp2_with fail
   go_ret3
   exact⟨rfl,rfl⟩
 ·have M7:¬ (x:Int)≤4095:=by omega
  rw[if_neg (by intro h;exact kE h.1)];clear hx Ec
  go_enter Tryz.func67,Tryz.ntmps67
  go_wp2_with fail
  go_ret3
  exact⟨rfl,rfl⟩
def Mo (w:Nat):Value:=match partOf w with
 |some (s,n)=>.tuple #[.int .i64 s,.int .i64 n,.bool true]
 |none=>.tuple #[.int .i64 (-1),.int .i64 0,.bool false]
theorem ZkX (w:Nat):partOf w=if w≤4095∧Bc (((w / 64:Nat):Int) - 0) (((w % 64:Nat):Int) - 1)=true then some (((w % 64:Nat):Int) - 1,((w / 64:Nat):Int) - 0) else none:=by
 unfold partOf Bc BM;by_cases h0:w=0
 ·subst h0
  rw[if_pos rfl,if_pos ⟨by omega,by decide⟩];rfl
 ·rw[if_neg h0]
  by_cases h1:64≤w∧w<4096∧1≤w % 64∧w % 64≤32
  ·rw[if_pos h1,if_pos ⟨by omega,Zx8 (.inl (by omega))⟩,Int.sub_zero]
  ·rw[if_neg h1,if_neg]
   rintro⟨h2,h3⟩;have h3:=Zx6 h3;omega
theorem Tf (x:Nat)(hx:x<18446744073709551616)(w:World):Calls Tryz.prog 72 #[.int .u64 x] w fun e w'=>e = .returned (Mo x)∧w=w':=by
 have ht:=fun w=>Zs2 x hx 0 1 (by omega) (by omega) (by omega) (by omega) w;have HT:=ZkQ ht;unfold Mo;have he:=ZkX x;clear hx ht;by_cases hc:x≤4095∧Bc (((x / 64:Nat):Int) - 0) (((x % 64:Nat):Int) - 1)=true
 ·rw[if_pos hc]at he
  rw[he];have hv:yF x 0 1 Bc = .tuple #[.int .i64 (((x / 64:Nat):Int) - 0),.int .i64 (((x % 64:Nat):Int) - 1),.bool true]:=by
   unfold yF;rw[if_pos hc]
  have HV:=ZkQ hv;clear hv he hc
  go_enter Tryz.func72,Tryz.ntmps72
  go_wp2_with fail
  refine(HT.out _).mono ?_;rintro e w' ⟨rfl,rfl⟩;rw[HV.out];go_wp2_with fail
  go_ret3
  exact⟨by simp,rfl⟩
 ·rw[if_neg hc]at he
  rw[he];have hv:yF x 0 1 Bc = .tuple #[.int .i64 0,.int .i64 0,.bool false]:=by
   unfold yF;rw[if_neg hc]
  have HV:=ZkQ hv;clear hv he hc
  go_enter Tryz.func72,Tryz.ntmps72
  go_wp2_with fail
  refine(HT.out _).mono ?_;rintro e w' ⟨rfl,rfl⟩;rw[HV.out];go_wp2_with fail
  go_ret3
  exact⟨rfl,rfl⟩
end See
end Go.Proofs.YtfcpdlbkmkhhcaaGreatDoor
