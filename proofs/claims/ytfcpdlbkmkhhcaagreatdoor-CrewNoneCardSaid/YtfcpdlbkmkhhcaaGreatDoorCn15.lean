/-
  Texts of this claim, joined. No condition.
-/
import Derived.Test.YtfcpdlbkmkhhcaaGreatDoorCn14
import Derived.SizedLaws
import Derived.Laws.StructEq
import Derived.Test.YtfcpdlbkmkhhcaaGreatDoorRows
import Derived.Test.YtfcpdlbkmkhhcaaGreatDoorCn11
import Derived.Laws.BitsAllLaws
namespace Go.Proofs.YtfcpdlbkmkhhcaaGreatDoor
open Go.RowKit
theorem Zj8:(Tryz.prog.info? 22).map (fun i=>(i.zero,i.size,i.bytes))=some (some (.int .u64 0),1,8):=by kernel_rfl
def words (l:List Nat):List Value:=l.map fun (n:Nat)=>.int .u64 (n:Int)
theorem Zkb (l:List Nat):(words l).length=l.length:=by simp [words]
theorem Zka {l:List Nat}{i n:Nat}(h:l[i]?=some n):(words l)[i]?=some (.int .u64 (n:Int)):=by simp [words,h]
theorem Zom (l:List Nat):∀ u∈words l,u.oneCell'=true:=by
 intro u hu
 obtain ⟨n,_,rfl⟩:=List.mem_map.1 hu
 rfl
theorem Zj9 (a b:List Nat):words a++words b=words (a++b):=by simp [words]
abbrev ZeR (ex:Bool) (v:Value) (l:List Nat) (bs:List (Nat×Obj)):Prop:=SlO ex 22 1 v l.length (words l) bs
abbrev ZhW (w:World) (v:Value) (l:List Nat):Prop:=Src w 1 v l.length (words l)
section
variable {W w:World}{m bs:List (Nat×Obj)}{v x:Value}{l l':List Nat}
theorem Zf2 {ops:Array Oper}{rest:List Oper}{o:Oper}{a:Act}{Q:Exit→Act→World→Prop}(hgd:o.guard=none)(s x:Operand)
 (ho:o.op = .call { callee:=.builtin .append,args:=#[s,x],argTypes:=#[67,67] }) {v xv:Value} (hes:a.eval s=v) (hex:a.eval x=xv)
 (hs:ZeR true v l bs) (hO:Own W (bs++m) w) (hx:ZhW w xv l') (hlen:(l.length+l'.length) * 8≤140737488351232)
 (h:∀ v' w' bs',ZeR true v' (l++l') bs'→Own W (bs'++m) w'→(v' = .slice none 0 0↔v = .slice none 0 0∧l'=[])→wpList Tryz.prog ops Q rest (a.put o.dst v') w') :
 wpList Tryz.prog ops Q (o::rest) a w:=by
 obtain ⟨i,hi,hz,hsz,hb⟩:=Zf8 Zj8
 refine ZhV hgd s x _ ho hes hex 22 i _ 1 8 Tryz.underlying67 hi hz hsz hb rfl (by omega) hs hO hx (Zom l') (by unfold maxLen; omega) (by omega) fun v' w' bs' h1 h2 h3 => ?_
 rw [Zj9,← List.length_append] at h1
 exact h v' w' bs' h1 h2 (by rw [h3,List.length_eq_zero_iff])
end
end Go.Proofs.YtfcpdlbkmkhhcaaGreatDoor

namespace Go.Proofs.YtfcpdlbkmkhhcaaGreatDoor.Mem
open Go.RowKit
attribute [local go_sem ↓] Go.wp_at_zero Go.wp_at_succ
def Zf1 (g:List Nat):Array Value:=(words g).toArray
theorem ZiK {g:List Nat}{i x:Nat}(h:g[i]?=some x):(Zf1 g)[i]?=some (.int .u64 (x:Int)):=by simp [Zf1,words,h]
def mB (b0 b1 N k:Nat):Nat×Obj:=(b0,.cells #[.slice (some ⟨b1,0,none⟩) N N,.int .i64 (k:Int)] 97)
def wB (b1:Nat)(g:List Nat):Nat×Obj:=(b1,.cells (Zf1 g) 22)
section
variable {W w:World}{m:List (Nat×Obj)}{b0 b1 N k b:Nat}{g:List Nat}
theorem Zto (h:Own W (mB b0 b1 N k::m) w):w.cell? ⟨b0,0,none⟩=some (.slice (some ⟨b1,0,none⟩) N N)∧w.cell? ⟨b0,1,none⟩=some (.int .i64 (k:Int))∧w.frozen? ⟨b0,1,none⟩=false :=
 ⟨h.cell List.mem_cons_self 0,h.cell List.mem_cons_self 1,h.frozen List.mem_cons_self 1⟩
theorem ZrZ (h:Own W (wB b1 g::m) w){i x:Nat}(hx:g[i]?=some x):w.cell? ⟨b1,i,none⟩=some (.int .u64 (x:Int))∧w.frozen? ⟨b1,i,none⟩=false:=by
 have h1:=h.cell List.mem_cons_self i
 rw [ZiK hx] at h1
 exact ⟨h1,h.frozen List.mem_cons_self i⟩
theorem sw {α:Type}(x y:α)(l:List α):(x::y::l).Perm (y::x::l):=List.Perm.swap _ _ _
theorem up1 {α:Type}(x y:α)(l:List α):(x::y::l).Perm (y::x::l):=List.Perm.swap _ _ _
theorem up2 {α:Type}(x1 x2 y:α)(l:List α):(x1::x2::y::l).Perm (y::x1::x2::l):=((up1 x2 y l).cons x1).trans (up1 _ _ _)
end
end Go.Proofs.YtfcpdlbkmkhhcaaGreatDoor.Mem

namespace Go.Proofs.YtfcpdlbkmkhhcaaGreatDoor.Mem
open Go.RowKit
attribute [local go_sem ↓] Go.wp_at_zero Go.wp_at_succ
section
variable {W w:World}{m:List (Nat×Obj)}{b0 b1 N k b:Nat}{g:List Nat}{v:Value}
set_option maxHeartbeats 400000 in
theorem Zmd (h:Own W m w)(hv:ZhW w v g)(hlen:g.length * 8≤140737488351232) :
 Calls Tryz.prog 39 #[v] w fun e w'=>∃ v' bs',e = .returned v'∧ZeR true v' g bs'∧Own W (bs'++m) w':=by
 rcases hv.2 with ⟨rfl,hn⟩ | ⟨a,c,rfl,hc⟩
 ·have hl:g=[]:=List.eq_nil_of_length_eq_zero hn
  subst hl
  have he:=Lib.run_eql_slice_nil (P:=Tryz.prog) w 67 22 none 0 0 0 0 Tryz.underlying67
  go_enter Tryz.func39,Tryz.ntmps39
  go_wp2
  go_ret
  exact ⟨_,[],rfl,SlO.nil _ _ _,h⟩
 ·have he:=Lib.run_eql_slice_nil (P:=Tryz.prog) w 67 22 (some a) g.length c 0 0 Tryz.underlying67
  have hn:=h.new (.cells #[] 22)
  have hs0:ZeR true (.slice (some ⟨w.heap.size,0,none⟩) 0 0) [] [(w.heap.size,.cells #[] 22)]:=SlO.made true 22 1 w.heap.size 0 #[] 0 (Nat.le_refl _) (by unfold maxLen; omega) rfl
  have hx:=hv.below (w':=w.alloc (.cells #[] 22)) ((Below.refl _ _).alloc (Nat.le_refl _) _)
  clear hv hc
  go_enter Tryz.func39,Tryz.ntmps39
  go_wp2_with (at_builtin; refine Zf2 rfl _ _ rfl rfl rfl hs0 hn hx (by simpa using hlen) ?_; intro v' w' bs' h1 h2 h3; have H1:=Lib.hid h1; clear h1 h3)
  go_ret
  exact ⟨_,bs',rfl,H1.out,h2⟩
theorem Zrn (h:Own W (wB b1 g::m) w):ZhW w (.slice (some ⟨b1,0,none⟩) g.length g.length) g :=
 ⟨by rw [Zkb,Nat.mul_one],.inr ⟨_,_,rfl,fun j u hj=>by
  rw [ZhX]
  have hjl:j<g.length:=by
     have:=(List.getElem?_eq_some_iff.1 hj).1
     rw [Zkb] at this
     exact this
  have hg1:g[j]?=some (g[j]'hjl):=List.getElem?_eq_getElem hjl
  rw [Zka hg1] at hj
  rw [(ZrZ h hg1).1,← hj]⟩⟩
theorem ZmD (h:Own W (mB b0 b1 N k::wB b1 g::m) w)(hN:g.length=N)(hN2:N≤4096) :
 Calls Tryz.prog 19 #[.pointer (some ⟨b0,0,none⟩)] w fun e w'=>∃ v' bs',e = .returned v'∧ZeR true v' g bs'∧Own W (bs'++(mB b0 b1 N k::wB b1 g::m)) w':=by
 obtain ⟨y0,y1,f1⟩:=Zto h
 have hs:=Zrn h.skip
 have hc:=Zmd h hs (by omega)
 rw [hN] at hc
 have HC:=Lib.hid hc
 clear hc hs h hN
 go_enter Tryz.func19,Tryz.ntmps19
 go_wp2_with fail
 refine HC.out.mono ?_
 rintro e w3 ⟨v',bs',rfl,h3,h4⟩
 obtain ⟨A,c,rfl,-,-⟩:=h3.slice
 have H3:=Lib.hid h3
 have H4:=Lib.hid h4
 clear h3 h4
 go_wp2_with fail
 go_ret
 exact ⟨_,bs',rfl,H3.out,H4.out⟩
theorem row_zero (n:Nat):Array.replicate n (Value.int .u64 0)=Zf1 (List.replicate n 0):=by
 unfold Zf1 words
 simp
set_option maxRecDepth 100000 in
theorem Zo5 (h:Own W m w)(h1:1≤N)(h2:N≤4096) :
 Calls Tryz.prog 21 #[.int .i64 N] w fun e w'=>∃ b0 b1,e = .returned (.tuple #[.pointer (some ⟨b0,0,none⟩),.int .i64 0])∧Own W (mB b0 b1 N 0::wB b1 (List.replicate N 0)::m) w':=by
 obtain ⟨i,hi,hzz,hs,hby⟩:=Zf8 Zj8
 have hmk:=fun W=>Ziv (P:=Tryz.prog) 67 22 i _ Tryz.underlying67 hi hzz .i64 .i64 N N (Nat.le_refl _) (by rw [hby]; omega) (by omega) W
 rw [hs,Nat.mul_one,ZgQ _ (.int .u64 0) _ (by simp [Value.cells]) (by intro j hj; obtain rfl:j=0:=(by simp [Value.cells] at hj; omega); rfl),row_zero] at hmk
 clear hi hzz hs hby
 have h3:Own W (wB w.heap.size (List.replicate N 0)::m) _:=h.new (.cells (Zf1 (List.replicate N 0)) 22)
 have h4:=h3.new (.cells #[.slice (some ⟨w.heap.size,0,none⟩) N N,.int .i64 0] 97)
 rw [World.size_alloc] at h4
 have hi1:(1:Int)≤N:=by omega
 have hi2:(N:Int)≤4096:=by omega
 clear h h3
 go_enter Tryz.func21,Tryz.ntmps21
 go_wp2_with fail
 go_ret2
 exact ⟨_,_,rfl,h4⟩
end
end Go.Proofs.YtfcpdlbkmkhhcaaGreatDoor.Mem

namespace Go.Proofs.YtfcpdlbkmkhhcaaGreatDoor.See
def chain (of:Nat→Option Int)(nx:Int→Nat)(S:Nat):Nat→List Int→Nat→Option (List Int)
 | 0,_,_=>none
 | n+1,out,w=>match of w with
   | none=>none
   | some s=>if (S:Int)≤s∨s∈out then none else if s = -1 then some out else chain of nx S n (out++[s]) (nx s)
theorem few:∀ {S:Nat} {l:List Int},l.Nodup→(∀ x∈l,0≤x∧x<S)→l.length≤S
 | 0,l,_,hb=>by
   cases l with
   | nil=>simp
   | cons x l =>
     have:=hb x List.mem_cons_self
     omega
 | S+1,l,hn,hb=>by
   have h1:=few (S:=S) (l:=l.erase (S:Int)) (hn.erase _) fun x hx=>by
    have h2:=(hn.mem_erase_iff).1 hx
    have:=hb x h2.2
    omega
   by_cases hm:(S:Int)∈l
   ·rw [List.length_erase_of_mem hm] at h1
    omega
   ·rw [List.erase_of_not_mem hm] at h1
    omega
def W64 (g:List Nat):Prop:=∀ x∈g,x<18446744073709551616
def ZdD (w:Nat):Option (Int×Int):=if w=0 then some (-1,-1) else if 64≤w∧w<2112∧w % 64≤16 then some (((w / 64:Nat):Int) - 1,((w % 64:Nat):Int) - 1) else none
def partOf (w:Nat):Option (Int×Int):=if w=0 then some (-1,0) else if 64≤w∧w<4096∧1≤w % 64∧w % 64≤32 then some (((w % 64:Nat):Int) - 1,((w / 64:Nat):Int)) else none
structure Zfq where
 inuse:Nat
 objects:Nat
 frozen:Bool
 live:Bool
 deriving DecidableEq
def ZbA (w:Nat):Option Zfq:=if w=0 then some ⟨0,0,false,false⟩ else
 if 131072≤w∧w<262144∧1≤w / 256 % 256∧w / 256 % 256≤16∧w % 256≤w / 256 % 256 then some ⟨w % 256,w / 256 % 256,decide (w / 65536 % 2=1),true⟩ else none
def turned (key n:Nat):Nat:=(((key <<< (5 * n % 64)) % 18446744073709551616 ||| key >>> (64 - 5 * n % 64))+n * 2654435769) % 18446744073709551616
def Zdc (w key n:Nat):Option Int:=if w ^^^ turned key n≤16 then some (((w ^^^ turned key n:Nat):Int) - 1) else none
def keyOf (key s:Nat):Nat:=(key+s * 11400714819323198485) % 18446744073709551616
structure Ch where
 C:Nat
 S:Nat
 O:Nat
 key:Nat
def Ch.words (c:Ch):Nat:=4 * c.C+4+4 * c.S+c.S * c.O
def Ch.ok (c:Ch):Prop:=1≤c.C∧c.C≤8∧1≤c.S∧c.S≤32∧1≤c.O∧c.O≤16
def at_ (g:List Nat)(i:Nat):Nat:=g.getD i 0
def links (c:Ch)(g:List Nat)(s:Nat):List Nat:=(g.drop (4 * c.C+4+4 * c.S+s * c.O)).take c.O
structure ZrC where
 slab:Int
 list:List Int
 turn:Nat
 parts:List Int
structure ZrA where
 counts:Zfq
 first:List Int
structure Zru where
 slots:List ZrC
 shelf:List Int
 Zcj:Bool
 ZjW:List ZrA
end Go.Proofs.YtfcpdlbkmkhhcaaGreatDoor.See

namespace Go.Proofs.YtfcpdlbkmkhhcaaGreatDoor.See
open Go.RowKit
attribute [local go_sem ↓] Go.wp_at_zero Go.wp_at_succ
theorem Zp2 (w:Nat)(h:w<18446744073709551616):bits .and .u64 (w:Int) 63=((w % 64:Nat):Int):=by
 have:=u64_and_nat w 63 h (by omega)
 rw [show (63:Int)=((63:Nat):Int) from rfl,this,show (63:Nat)=2 ^ 6 - 1 from rfl,Nat.and_two_pow_sub_one_eq_mod]
theorem ZpD (w:Nat)(h:w<18446744073709551616):bits .and .u64 (w:Int) 255=((w % 256:Nat):Int):=by
 have:=u64_and_nat w 255 h (by omega)
 rw [show (255:Int)=((255:Nat):Int) from rfl,this,show (255:Nat)=2 ^ 8 - 1 from rfl,Nat.and_two_pow_sub_one_eq_mod]
def ZfJ (s o:Int):Prop:=0≤s∧s<32 ∧ -1≤o∧o<16
instance (s o:Int):Decidable (ZfJ s o):=inferInstanceAs (Decidable (0≤s∧s<32 ∧ -1≤o∧o<16))
def headW (s o:Int):Nat:=(64 * (s+1)+(o+1)).toNat
theorem Zt1 (a b:Nat)(ha:a<1000)(hb:b<64):bits .or .u64 ((64 * a:Nat):Int) (b:Int)=((64 * a+b:Nat):Int):=by
 have:=u64_or_nat (64 * a) b (by omega) (by omega)
 rw [this]
 have h:=Nat.two_pow_add_eq_or_of_lt (i:=6) (b:=b) hb a
 rw [← h]
def ZtK (s:Int):Bool:=decide (0≤s∧s<32)
theorem Zfi {s:Int}(h:0≤s∧s<32):ZtK s=true:=decide_eq_true h
theorem Ziz {s:Int}(h:¬ (0≤s∧s<32)):ZtK s=false:=decide_eq_false h
theorem Zbk (s:Int)(w:World):Calls Tryz.prog 119 #[.int .i64 s] w fun e w'=>e = .returned (.bool (ZtK s))∧w=w':=by
 by_cases h0:0≤s
 ·by_cases h1:s<32
  ·rw [Zfi ⟨h0,h1⟩]
   go_enter Tryz.func119,Tryz.ntmps119
   go_wp2_with fail
   go_ret
   exact ⟨rfl,rfl⟩
  ·rw [Ziz (by omega)]
   go_enter Tryz.func119,Tryz.ntmps119
   go_wp2_with fail
   go_ret
   exact ⟨rfl,rfl⟩
 ·rw [Ziz (by omega)]
  go_enter Tryz.func119,Tryz.ntmps119
  go_wp2_with fail
  go_ret
  exact ⟨rfl,rfl⟩
theorem Zno (s o:Int)(h:ZfJ s o)(w:World):Calls Tryz.prog 69 #[.int .i64 s,.int .i64 o] w fun e w'=>e = .returned (.tuple #[.int .u64 (headW s o),.int .i64 0])∧w=w':=by
 obtain ⟨h0,h1,h2,h3⟩:=h
 have hb:(s == -1)=false:=beq_eq_false_iff_ne.2 (by omega)
 have hw:bits .or .u64 ((s+1) * 64) (o+1)=headW s o:=by
  have:=Zt1 (s+1).toNat (o+1).toNat (by omega) (by omega)
  rw [show ((64 * (s+1).toNat:Nat):Int)=(s+1) * 64 by omega,show ((o+1).toNat:Int)=o+1 by omega] at this
  rw [this]
  unfold headW
  omega
 have HW:=Lib.hid hw
 clear hw
 go_enter Tryz.func69,Tryz.ntmps69
 go_wp2_with (go_at_call 119; refine (Zbk s _).mono ?_; rintro e w' ⟨rfl,rfl⟩; rw [Zfi ⟨h0,h1⟩])
 go_ret2
 exact ⟨by rw [← HW.out]; rfl,rfl⟩
theorem Znn (w:World):Calls Tryz.prog 69 #[.int .i64 (-1),.int .i64 (-1)] w fun e w'=>e = .returned (.tuple #[.int .u64 0,.int .i64 0])∧w=w':=by
 go_enter Tryz.func69,Tryz.ntmps69
 go_wp2_with fail
 go_ret2
 exact ⟨rfl,rfl⟩
theorem ZoT (s o:Int)(h:¬ ZfJ s o)(hn:¬ (s = -1∧o = -1))(w:World):Calls Tryz.prog 69 #[.int .i64 s,.int .i64 o] w fun e w'=>e = .returned (.tuple #[.int .u64 0,.int .i64 2])∧w=w':=by
 unfold ZfJ at h
 by_cases hs:s = -1
 ·subst hs
  have hb:(o == -1)=false:=beq_eq_false_iff_ne.2 (by omega)
  go_enter Tryz.func69,Tryz.ntmps69
  go_wp2_with (go_at_call 119; refine (Zbk (-1) _).mono ?_; rintro e w' ⟨rfl,rfl⟩)
  go_ret2
  exact ⟨rfl,rfl⟩
 ·have hb:(s == -1)=false:=beq_eq_false_iff_ne.2 hs
  by_cases hm:0≤s∧s<32
  ·rcases (show o < -1∨(¬ o < -1∧16≤o) by omega) with ho | ⟨ho,ho2⟩
   all_goals
    go_enter Tryz.func69,Tryz.ntmps69
    go_wp2_with (go_at_call 119; refine (Zbk s _).mono ?_; rintro e w' ⟨rfl,rfl⟩; rw [Zfi hm])
    go_ret2
    exact ⟨rfl,rfl⟩
  ·go_enter Tryz.func69,Tryz.ntmps69
   go_wp2_with (go_at_call 119; refine (Zbk s _).mono ?_; rintro e w' ⟨rfl,rfl⟩; rw [Ziz hm])
   go_ret2
   exact ⟨rfl,rfl⟩
def hIs (s o:Int):Bool:=decide (ZfJ s o∨(s = -1∧o = -1))
theorem Znl (s o:Int)(w:World):Calls Tryz.prog 68 #[.int .i64 s,.int .i64 o] w fun e w'=>e = .returned (.bool (hIs s o))∧w=w':=by
 by_cases h:ZfJ s o
 ·rw [show hIs s o=true from decide_eq_true (.inl h)]
  have HH:=Lib.hid h
  go_enter Tryz.func68,Tryz.ntmps68
  go_wp2_with (go_at_call 69; refine (Zno s o HH.out _).mono ?_; rintro e w' ⟨rfl,rfl⟩)
  go_ret
  exact ⟨rfl,rfl⟩
 ·by_cases hn:s = -1∧o = -1
  ·obtain ⟨rfl,rfl⟩:=hn
   rw [show hIs (-1) (-1)=true from decide_eq_true (.inr ⟨rfl,rfl⟩)]
   go_enter Tryz.func68,Tryz.ntmps68
   go_wp2_with (go_at_call 69; refine (Znn _).mono ?_; rintro e w' ⟨rfl,rfl⟩)
   go_ret
   exact ⟨rfl,rfl⟩
  ·rw [show hIs s o=false from decide_eq_false (by intro hh; exact hh.elim h hn)]
   have HH:=Lib.hid h
   have HN:=Lib.hid hn
   clear h hn
   go_enter Tryz.func68,Tryz.ntmps68
   go_wp2_with (go_at_call 69; refine (ZoT s o HH.out HN.out _).mono ?_; rintro e w' ⟨rfl,rfl⟩)
   go_ret
   exact ⟨rfl,rfl⟩
def ZfZ (w:Nat)(hi lo:Int)(p:Int→Int→Bool):Value :=
 if w≤4095∧p (((w / 64:Nat):Int) - hi) (((w % 64:Nat):Int) - lo)=true then .tuple #[.int .i64 (((w / 64:Nat):Int) - hi),.int .i64 (((w % 64:Nat):Int) - lo),.bool true] else .tuple #[.int .i64 0,.int .i64 0,.bool false]
set_option maxRecDepth 100000 in
theorem Zs1 (x:Nat)(hx:x<18446744073709551616)(hi lo:Int)(h0:0≤hi)(h1:hi≤1)(l0:0≤lo)(l1:lo≤1)(w:World) :
 Calls Tryz.prog 67 #[.int .u64 x,.int .i64 hi,.int .i64 lo,.func (.func 68) #[] #[]] w fun e w'=>e = .returned (ZfZ x hi lo hIs)∧w=w':=by
 have ha:=Zp2 x hx
 have hd:(x:Int) / 64=((x / 64:Nat):Int):=by omega
 obtain ⟨q,hq⟩:∃ q:Nat,x / 64=q:=⟨_,rfl⟩
 obtain ⟨r,hr⟩:∃ r:Nat,x % 64=r:=⟨_,rfl⟩
 have hqb:x≤4095→q≤63:=by omega
 have hrb:r<64:=by omega
 unfold ZfZ
 rw [hq,hr]
 rw [hr] at ha
 rw [hq] at hd
 clear hq hr
 by_cases hbig:x≤4095
 ·have hbi:(x:Int)≤4095:=by omega
  have hqb:=hqb hbig
  clear hx
  cases hc:hIs ((q:Int) - hi) ((r:Int) - lo)
  ·rw [if_neg (by simp)]
   go_enter Tryz.func67,Tryz.ntmps67
   go_wp2_with fail
   refine (Znl _ _ _).mono ?_
   rintro e w' ⟨rfl,rfl⟩
   rw [hc]
   go_wp2_with fail
   go_ret3
   exact ⟨rfl,rfl⟩
  ·rw [if_pos ⟨hbig,rfl⟩]
   go_enter Tryz.func67,Tryz.ntmps67
   go_wp2_with fail
   refine (Znl _ _ _).mono ?_
   rintro e w' ⟨rfl,rfl⟩
   rw [hc]
   go_wp2_with fail
   go_ret3
   exact ⟨rfl,rfl⟩
 ·have hbi:¬ (x:Int)≤4095:=by omega
  rw [if_neg (by intro h; exact hbig h.1)]
  clear hx hqb
  go_enter Tryz.func67,Tryz.ntmps67
  go_wp2_with fail
  go_ret3
  exact ⟨rfl,rfl⟩
def ZqN (w:Nat):Value:=match ZdD w with
 | some (s,o)=>.tuple #[.int .i64 s,.int .i64 o,.bool true]
 | none=>.tuple #[.int .i64 (-1),.int .i64 (-1),.bool false]
theorem ZkL (w:Nat):ZdD w=if w≤4095∧hIs (((w / 64:Nat):Int) - 1) (((w % 64:Nat):Int) - 1)=true then some (((w / 64:Nat):Int) - 1,((w % 64:Nat):Int) - 1) else none:=by
 unfold ZdD hIs ZfJ
 by_cases h0:w=0
 ·subst h0
  rw [if_pos rfl,if_pos ⟨by omega,by decide⟩]
  rfl
 ·rw [if_neg h0]
  by_cases h1:64≤w∧w<2112∧w % 64≤16
  ·rw [if_pos h1,if_pos ⟨by omega,decide_eq_true (.inl (by omega))⟩]
  ·rw [if_neg h1,if_neg]
   rintro ⟨h2,h3⟩
   have h3:=of_decide_eq_true h3
   omega
theorem ZkK (x:Nat)(hx:x<18446744073709551616)(w:World):Calls Tryz.prog 52 #[.int .u64 x] w fun e w'=>e = .returned (ZqN x)∧w=w':=by
 have ht:=fun w=>Zs1 x hx 1 1 (by omega) (by omega) (by omega) (by omega) w
 have HT:=Lib.hid ht
 unfold ZqN
 have he:=ZkL x
 clear hx ht
 by_cases hc:x≤4095∧hIs (((x / 64:Nat):Int) - 1) (((x % 64:Nat):Int) - 1)=true
 ·rw [if_pos hc] at he
  rw [he]
  have hv:ZfZ x 1 1 hIs = .tuple #[.int .i64 (((x / 64:Nat):Int) - 1),.int .i64 (((x % 64:Nat):Int) - 1),.bool true]:=by
   unfold ZfZ
   rw [if_pos hc]
  have HV:=Lib.hid hv
  clear hv he hc
  go_enter Tryz.func52,Tryz.ntmps52
  go_wp2_with fail
  refine (HT.out _).mono ?_
  rintro e w' ⟨rfl,rfl⟩
  rw [HV.out]
  go_wp2_with fail
  go_ret3
  exact ⟨rfl,rfl⟩
 ·rw [if_neg hc] at he
  rw [he]
  have hv:ZfZ x 1 1 hIs = .tuple #[.int .i64 0,.int .i64 0,.bool false]:=by
   unfold ZfZ
   rw [if_neg hc]
  have HV:=Lib.hid hv
  clear hv he hc
  go_enter Tryz.func52,Tryz.ntmps52
  go_wp2_with fail
  refine (HT.out _).mono ?_
  rintro e w' ⟨rfl,rfl⟩
  rw [HV.out]
  go_wp2_with fail
  go_ret3
  exact ⟨rfl,rfl⟩
def Zen (s n:Int):Prop:=0≤s∧s<32∧1≤n∧n≤63
instance (s n:Int):Decidable (Zen s n):=inferInstanceAs (Decidable (0≤s∧s<32∧1≤n∧n≤63))
def ZdG (s n:Int):Nat:=(64 * n+(s+1)).toNat
theorem ZnS (s n:Int)(h:Zen s n)(w:World):Calls Tryz.prog 122 #[.int .i64 s,.int .i64 n] w fun e w'=>e = .returned (.tuple #[.int .u64 (ZdG s n),.int .i64 0])∧w=w':=by
 obtain ⟨h0,h1,h2,h3⟩:=h
 have hb:(s == -1)=false:=beq_eq_false_iff_ne.2 (by omega)
 have hw:bits .or .u64 (n * 64) (s+1)=ZdG s n:=by
  have:=Zt1 n.toNat (s+1).toNat (by omega) (by omega)
  rw [show ((64 * n.toNat:Nat):Int)=n * 64 by omega,show ((s+1).toNat:Int)=s+1 by omega] at this
  rw [this]
  unfold ZdG
  omega
 have HW:=Lib.hid hw
 clear hw
 go_enter Tryz.func122,Tryz.ntmps122
 go_wp2_with (go_at_call 119; refine (Zbk s _).mono ?_; rintro e w' ⟨rfl,rfl⟩; rw [Zfi ⟨h0,h1⟩])
 go_ret2
 exact ⟨by rw [← HW.out]; rfl,rfl⟩
theorem ZnR (w:World):Calls Tryz.prog 122 #[.int .i64 (-1),.int .i64 0] w fun e w'=>e = .returned (.tuple #[.int .u64 0,.int .i64 0])∧w=w':=by
 go_enter Tryz.func122,Tryz.ntmps122
 go_wp2_with fail
 go_ret2
 exact ⟨rfl,rfl⟩
theorem Zpb (s n:Int)(h:¬ Zen s n)(hn:¬ (s = -1∧n=0))(w:World):Calls Tryz.prog 122 #[.int .i64 s,.int .i64 n] w fun e w'=>e = .returned (.tuple #[.int .u64 0,.int .i64 2])∧w=w':=by
 unfold Zen at h
 by_cases hs:s = -1
 ·subst hs
  have hb:(n==0)=false:=beq_eq_false_iff_ne.2 (by omega)
  go_enter Tryz.func122,Tryz.ntmps122
  go_wp2_with (go_at_call 119; refine (Zbk (-1) _).mono ?_; rintro e w' ⟨rfl,rfl⟩)
  go_ret2
  exact ⟨rfl,rfl⟩
 ·have hb:(s == -1)=false:=beq_eq_false_iff_ne.2 hs
  by_cases hm:0≤s∧s<32
  ·rcases (show n<1∨(¬ n<1∧63<n) by omega) with ho | ⟨ho,ho2⟩
   all_goals
    go_enter Tryz.func122,Tryz.ntmps122
    go_wp2_with (go_at_call 119; refine (Zbk s _).mono ?_; rintro e w' ⟨rfl,rfl⟩; rw [Zfi hm])
    go_ret2
    exact ⟨rfl,rfl⟩
  ·go_enter Tryz.func122,Tryz.ntmps122
   go_wp2_with (go_at_call 119; refine (Zbk s _).mono ?_; rintro e w' ⟨rfl,rfl⟩; rw [Ziz hm])
   go_ret2
   exact ⟨rfl,rfl⟩
def pIs (n s:Int):Bool:=decide (Zen s n∨(s = -1∧n=0))
theorem ZnT (n s:Int)(w:World):Calls Tryz.prog 121 #[.int .i64 n,.int .i64 s] w fun e w'=>e = .returned (.bool (pIs n s))∧w=w':=by
 by_cases h:Zen s n
 ·rw [show pIs n s=true from decide_eq_true (.inl h)]
  have HH:=Lib.hid h
  clear h
  go_enter Tryz.func121,Tryz.ntmps121
  go_wp2_with (go_at_call 122; refine (ZnS s n HH.out _).mono ?_; rintro e w' ⟨rfl,rfl⟩)
  go_ret
  exact ⟨rfl,rfl⟩
 ·by_cases hn:s = -1∧n=0
  ·obtain ⟨rfl,rfl⟩:=hn
   rw [show pIs 0 (-1)=true from decide_eq_true (.inr ⟨rfl,rfl⟩)]
   go_enter Tryz.func121,Tryz.ntmps121
   go_wp2_with (go_at_call 122; refine (ZnR _).mono ?_; rintro e w' ⟨rfl,rfl⟩)
   go_ret
   exact ⟨rfl,rfl⟩
  ·rw [show pIs n s=false from decide_eq_false (by intro hh; exact hh.elim h hn)]
   have HH:=Lib.hid h
   have HN:=Lib.hid hn
   clear h hn
   go_enter Tryz.func121,Tryz.ntmps121
   go_wp2_with (go_at_call 122; refine (Zpb s n HH.out HN.out _).mono ?_; rintro e w' ⟨rfl,rfl⟩)
   go_ret
   exact ⟨rfl,rfl⟩
set_option maxRecDepth 100000 in
theorem Zs2 (x:Nat)(hx:x<18446744073709551616)(hi lo:Int)(h0:0≤hi)(h1:hi≤1)(l0:0≤lo)(l1:lo≤1)(w:World) :
 Calls Tryz.prog 67 #[.int .u64 x,.int .i64 hi,.int .i64 lo,.func (.func 121) #[] #[]] w fun e w'=>e = .returned (ZfZ x hi lo pIs)∧w=w':=by
 have ha:=Zp2 x hx
 have hd:(x:Int) / 64=((x / 64:Nat):Int):=by omega
 obtain ⟨q,hq⟩:∃ q:Nat,x / 64=q:=⟨_,rfl⟩
 obtain ⟨r,hr⟩:∃ r:Nat,x % 64=r:=⟨_,rfl⟩
 have hqb:x≤4095→q≤63:=by omega
 have hrb:r<64:=by omega
 unfold ZfZ
 rw [hq,hr]
 rw [hr] at ha
 rw [hq] at hd
 clear hq hr
 by_cases hbig:x≤4095
 ·have hbi:(x:Int)≤4095:=by omega
  have hqb:=hqb hbig
  clear hx
  cases hc:pIs ((q:Int) - hi) ((r:Int) - lo)
  ·rw [if_neg (by simp)]
   go_enter Tryz.func67,Tryz.ntmps67
   go_wp2_with fail
   refine (ZnT _ _ _).mono ?_
   rintro e w' ⟨rfl,rfl⟩
   rw [hc]
   go_wp2_with fail
   go_ret3
   exact ⟨rfl,rfl⟩
  ·rw [if_pos ⟨hbig,rfl⟩]
   go_enter Tryz.func67,Tryz.ntmps67
   go_wp2_with fail
   refine (ZnT _ _ _).mono ?_
   rintro e w' ⟨rfl,rfl⟩
   rw [hc]
   go_wp2_with fail
   go_ret3
   exact ⟨rfl,rfl⟩
 ·have hbi:¬ (x:Int)≤4095:=by omega
  rw [if_neg (by intro h; exact hbig h.1)]
  clear hx hqb
  go_enter Tryz.func67,Tryz.ntmps67
  go_wp2_with fail
  go_ret3
  exact ⟨rfl,rfl⟩
def Zpa (w:Nat):Value:=match partOf w with
 | some (s,n)=>.tuple #[.int .i64 s,.int .i64 n,.bool true]
 | none=>.tuple #[.int .i64 (-1),.int .i64 0,.bool false]
theorem ZkX (w:Nat):partOf w=if w≤4095∧pIs (((w / 64:Nat):Int) - 0) (((w % 64:Nat):Int) - 1)=true then some (((w % 64:Nat):Int) - 1,((w / 64:Nat):Int) - 0) else none:=by
 unfold partOf pIs Zen
 by_cases h0:w=0
 ·subst h0
  rw [if_pos rfl,if_pos ⟨by omega,by decide⟩]
  rfl
 ·rw [if_neg h0]
  by_cases h1:64≤w∧w<4096∧1≤w % 64∧w % 64≤32
  ·rw [if_pos h1,if_pos ⟨by omega,decide_eq_true (.inl (by omega))⟩,Int.sub_zero]
  ·rw [if_neg h1,if_neg]
   rintro ⟨h2,h3⟩
   have h3:=of_decide_eq_true h3
   omega
theorem ZgZ (x:Nat)(hx:x<18446744073709551616)(w:World):Calls Tryz.prog 72 #[.int .u64 x] w fun e w'=>e = .returned (Zpa x)∧w=w':=by
 have ht:=fun w=>Zs2 x hx 0 1 (by omega) (by omega) (by omega) (by omega) w
 have HT:=Lib.hid ht
 unfold Zpa
 have he:=ZkX x
 clear hx ht
 by_cases hc:x≤4095∧pIs (((x / 64:Nat):Int) - 0) (((x % 64:Nat):Int) - 1)=true
 ·rw [if_pos hc] at he
  rw [he]
  have hv:ZfZ x 0 1 pIs = .tuple #[.int .i64 (((x / 64:Nat):Int) - 0),.int .i64 (((x % 64:Nat):Int) - 1),.bool true]:=by
   unfold ZfZ
   rw [if_pos hc]
  have HV:=Lib.hid hv
  clear hv he hc
  go_enter Tryz.func72,Tryz.ntmps72
  go_wp2_with fail
  refine (HT.out _).mono ?_
  rintro e w' ⟨rfl,rfl⟩
  rw [HV.out]
  go_wp2_with fail
  go_ret3
  exact ⟨by simp,rfl⟩
 ·rw [if_neg hc] at he
  rw [he]
  have hv:ZfZ x 0 1 pIs = .tuple #[.int .i64 0,.int .i64 0,.bool false]:=by
   unfold ZfZ
   rw [if_neg hc]
  have HV:=Lib.hid hv
  clear hv he hc
  go_enter Tryz.func72,Tryz.ntmps72
  go_wp2_with fail
  refine (HT.out _).mono ?_
  rintro e w' ⟨rfl,rfl⟩
  rw [HV.out]
  go_wp2_with fail
  go_ret3
  exact ⟨rfl,rfl⟩
end Go.Proofs.YtfcpdlbkmkhhcaaGreatDoor.See
