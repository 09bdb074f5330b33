/-
  Texts of this claim, joined. No condition.
-/
import Derived.Test.YtfcpdlbkmkhhcaaGreatDoorCn40
import Derived.Test.YtfcpdlbkmkhhcaaGreatDoorCn23
import Derived.Test.YtfcpdlbkmkhhcaaGreatDoorCn37
import Derived.Test.YtfcpdlbkmkhhcaaGreatDoorCn38
import Derived.Test.YtfcpdlbkmkhhcaaGreatDoorCn39
namespace Go.Proofs.YtfcpdlbkmkhhcaaGreatDoor.Cv
open See Cw
section
variable {c:Ch}{mn cp:Nat}{st st1 st':St}{g g':List Nat}{k:Nat}{t t':Tk}{jobs:List Int}{r r':Rn}
structure Quiet (c:Ch)(mn cp:Nat)(st:St)(g:List Nat):Prop where
 Z:Cw0 c mn cp st g
 no:∀ k,st.tk k=none
theorem ra0:RA c jobs (r0 c) st0 where
 job:=fun _ _ h=>by cases h
 own:=fun _ _=>⟨(fun e=>by cases e),(fun e=>by cases e),fun e=>by cases e⟩
 none:=rfl
 cnt:=by
  show 0+runs c (r0 c)=0
  unfold runs
  rw [Zdf (f:=fun k=>if ((r0 c).tk k).isSome then 1 else 0) (fun _ _=>rfl)]
 nx:=Nat.zero_le _
theorem ZnJ (A:RA c jobs r st)(h:∀ k,k<c.C→r.tk k=none∧¬(r.next<jobs.length∧r.next<120))(hC:1≤c.C)(hle:r.next≤120):r.none=0∧r.pile.length=min jobs.length 120:=by
 refine ⟨A.none,?_⟩
 have h1:runs c r=0:=Zdf fun j hj=>by rw [(h j hj).1]; rfl
 have h2:=A.cnt
 have h3:=(h 0 (by omega)).2
 have h4:=A.nx
 omega
end
end Go.Proofs.YtfcpdlbkmkhhcaaGreatDoor.Cv

namespace Go.Proofs.YtfcpdlbkmkhhcaaGreatDoor.Cw
open Go Mem See
open Go.RowKit
section
variable {W w:World}{m:List (Nat×Obj)}{bc b0 b1 bt:Nat}{c:Ch}{mn cp cnt n:Nat}{g g':List Nat}{tk:Nat→Option Tk}{t t':Tk}{k:Nat}{st:Cv.St}
theorem Zne (h:Zaf c mn g t=some (t',g')):70≤t.pc∧t.pc≤103:=by
 unfold Zaf at h
 split at h
 all_goals first | omega | cases h
theorem Zpn (h:ZaU c mn cp t g)(hs:Cv.Zba c mn cp g t=some (t',g')):∃ q,q<4∧(∀ j,j<q→Zkp (stF j) c mn cp t g)∧Zae (stF q) c mn cp t g t' g':=by
 by_cases h1:t.pc<20
 ·rw [Cv.Zeg h1] at hs
  exact ⟨0,by omega,fun j hj=>by omega,fast_ok h hs⟩
 ·by_cases h2:t.pc<50
  ·rw [Cv.ZbE (by omega) h2] at hs
   refine ⟨1,by omega,fun j hj => ?_,Zqj h hs⟩
   obtain rfl:j=0:=by omega
   exact Zmx h (Zmw ZkE (by omega) (by omega))
  ·by_cases h3:t.pc<69
   ·rw [Cv.Zb3 (by omega) h3] at hs
    refine ⟨2,by omega,fun j hj => ?_,Zp5 h hs⟩
    rcases (show j=0∨j=1 by omega) with rfl | rfl
    ·exact Zmx h (Zmw ZkE (by omega) (by omega))
    ·exact Zmx h (Zmw Znc (by omega) (by omega))
   ·rw [Cv.Zbb (by omega)] at hs
    have hd:=Zne hs
    refine ⟨3,by omega,fun j hj => ?_,ZoN h hs⟩
    rcases (show j=0∨j=1∨j=2 by omega) with rfl | rfl | rfl
    ·exact Zmx h (Zmw ZkE (by omega) (by omega))
    ·exact Zmx h (Zmw Znc (by omega) (by omega))
    ·exact Zmx h (Zmw Zp6 (by omega) (by omega))
theorem Zgg (Z:Cv.Cw0 c mn cp st g):g.length=c.words∧1≤g.length∧g.length≤4096:=by
 have h:=Z.E.len
 have hC:=Z.C
 have hS:=Z.S
 have hO:=Z.O
 have hm:c.S * c.O≤32 * 16:=Nat.mul_le_mul hS.2 hO.2
 refine ⟨h,?_,?_⟩ <;>
 ·rw [h]
  unfold Ch.words
  omega
theorem Ztq (Z:Cv.Cw0 c mn cp st g)(hkey:c.key<18446744073709551616)(ht:st.tk k=some t)(hw:t.want=0):ZaU c mn cp t g:=by
 obtain ⟨hk,hL⟩:=Z.I.loc k t ht
 have hC:=Z.C
 obtain ⟨-,h1,h2⟩:=Zgg Z
 exact ⟨⟨hC.1,by omega⟩,Z.S,Z.O,Z.mn,Z.cp,hkey,by rw [hL.cpu]; exact hk,⟨h1,h2⟩,Z.W,hL.fin,hw⟩
theorem Ztp (Z:Cv.Cw0 c mn cp st g)(hkey:c.key<18446744073709551616):COk c (mn:Int) (cp:Int):=by
 have hC:=Z.C
 have hS:=Z.S
 have hO:=Z.O
 have h1:=Z.mn
 have h2:=Z.cp
 refine ⟨?_,hkey⟩
 unfold chartPlaces.Ok
 omega
def CrS (W:World)(bc b0 b1 bt:Nat)(c:Ch)(mn cp:Nat)(g:List Nat)(tk:Nat→Option Tk)(cnt n:Nat)(m:List (Nat×Obj))(w:World):Prop :=
 ∃ es ck,VM es ck n (fOf tk c.C)∧Own W (crB bc b0 bt c mn cp::(bt,.map es ck)::mB b0 b1 g.length cnt::wB b1 g::m) w
theorem ZhG (Z:Cv.Cw0 c mn cp st g)(ht:st.tk k=some t)(hm:Cv.makes t=true):0≤t.slab∧t.slab<32:=by
 have hS:=Z.S
 obtain ⟨-,hL⟩:=Z.I.loc k t ht
 have hA:=hL.at_
 have key:Cv.Zan c t→0≤t.slab∧t.slab<32:=fun h=>by
  unfold Cv.Zan at h
  omega
 unfold Cv.makes at hm
 simp only [Bool.or_eq_true,Bool.and_eq_true,beq_iff_eq] at hm
 unfold Cv.At at hA
 rcases hm with (⟨h0,h1 | h1⟩ | h1) | h1
 ·rw [h1] at hA
  exact key (hA.2 h0).2.2.1
 ·rw [h1] at hA
  exact key hA.2.2.1
 ·rw [h1] at hA
  obtain ⟨l,ch,-,h2,-⟩:=hA
  exact key h2
 ·rw [h1] at hA
  obtain ⟨l,ch,-,h2,-⟩:=hA
  exact key h2
theorem ZeY (h:CrS W bc b0 b1 bt c mn cp g tk cnt n m w)(hC:c.C≤5)(hk:k<c.C) :
 Calls Tryz.prog 16 #[.pointer (some ⟨bc,0,Option.none⟩),.int .i64 (k:Int)] w fun e w'=>e = .returned (.tuple #[tkV ((tk k).getD tk0),.bool (tk k).isSome])∧CrS W bc b0 b1 bt c mn cp g tk cnt n m w':=by
 obtain ⟨es,ck,hv,h⟩:=h
 refine (Zoh h hv (show k<9 by omega) (t:=(tk k).getD tk0) (is:=(tk k).isSome) ?_ ?_).mono ?_
 ·rw [Zei hk]
  cases tk k <;> rfl
 ·rw [Zei hk]
  cases tk k <;> rfl
 ·rintro e w' ⟨rfl,h'⟩
  exact ⟨rfl,es,ck,hv,h'⟩
theorem Zjc (Z:Cv.Cw0 c mn cp st g)(hkey:c.key<18446744073709551616)(htk:st.tk=tk)(h:CrS W bc b0 b1 bt c mn cp g tk cnt n m w)(hn:n<1000000000) :
 Calls Tryz.prog 24 #[.pointer (some ⟨bc,0,Option.none⟩)] w fun e w'=>e = .returned (.tuple #[.int .i64 (((Cv.ZbI c g tk).getD 0:Nat):Int),.bool (Cv.ZbI c g tk).isSome])∧CrS W bc b0 b1 bt c mn cp g tk cnt n m w':=by
 obtain ⟨es,ck,hv,h⟩:=h
 obtain ⟨h1,-,h2⟩:=Zgg Z
 refine (Zhx (Ztp Z hkey) hv hn (fun j t hj ht hm=>ZhG Z (by rw [htk]; exact ht) hm) h1 h2 W w m h).mono ?_
 rintro e w' ⟨rfl,h'⟩
 exact ⟨rfl,es,ck,hv,h'⟩
theorem Zhw (Z:Cv.Cw0 c mn cp st g)(hkey:c.key<18446744073709551616)(htk:st.tk=tk)(h:CrS W bc b0 b1 bt c mn cp g tk cnt n m w)(hn:n<1000000000)(ht:tk k=some t)(hw:t.want=1)
 (ht':t'=match Cv.ZbI c g tk with | some s=>{ t with want:=0,slab:=(s:Int),many:=0,pc:=43 } | Option.none=>{ t with want:=0,fin:=2 }) :
 Calls Tryz.prog 15 #[.pointer (some ⟨bc,0,Option.none⟩),.int .i64 (k:Int),.bool (Cv.ZbI c g tk).isSome] w fun e w'=>e = .returned (.tuple #[tkV t',.int .i64 0])∧CrS W bc b0 b1 bt c mn cp g (Cv.upd tk k (Cv.stop t')) cnt (n+1) m w':=by
 obtain ⟨es,ck,hv,h⟩:=h
 obtain ⟨h1,-,h2⟩:=Zgg Z
 obtain ⟨hk,hL⟩:=Z.I.loc k t (by rw [htk]; exact ht)
 have hC:=Z.C
 have hcpu:t'.cpu=k:=by
  rw [ht']
  cases Cv.ZbI c g tk <;> exact hL.cpu
 refine (Zi3 (s:=(((Cv.ZbI c g tk).getD 0:Nat):Int)) (is:=(Cv.ZbI c g tk).isSome) (t':=t') h (by omega) hv hk (by rw [Zei hk,ht]; rfl) hw (Zhx (Ztp Z hkey) hv hn (fun j t hj ht hm=>ZhG Z (by rw [htk]; exact ht) hm) h1 h2) ?_ (by rw [hcpu]; omega)).mono ?_
 ·intro W w m hO
  cases hf:Cv.ZbI c g tk with
  | none =>
    rw [hf] at ht'
    subst ht'
    exact Zmh hO hL.fin hw
  | some s =>
    rw [hf] at ht'
    subst ht'
    have hs:=(Cv.find_range.2 s hf).1
    have hS:=Z.S
    exact ZkD hO (by show 0≤((s:Nat):Int)∧((s:Nat):Int)<32; omega) hL.fin hw
 ·rintro e w' ⟨es',ck',rfl,hv',h'⟩
  rw [Zh4 hk hcpu] at hv'
  exact ⟨rfl,es',ck',hv',h'⟩
theorem Zm6 (Z:Cv.Cw0 c mn cp st g)(hT:Ex.ZdY FillTab.gs W)(htk:st.tk=tk)(h:CrS W bc b0 b1 bt c mn cp g tk cnt n m w)(ht:tk k=some t)(hw:t.want=2)(hg:Zb2 { t with want:=0 }=some t')(hcpu:t'.cpu=t.cpu) :
 Calls Tryz.prog 25 #[.pointer (some ⟨bc,0,Option.none⟩),.int .i64 (k:Int)] w fun e w'=>e = .returned (.tuple #[tkV t',.int .i64 0])∧CrS W bc b0 b1 bt c mn cp g (Cv.upd tk k (Cv.stop t')) cnt (n+1) m w':=by
 obtain ⟨es,ck,hv,h⟩:=h
 obtain ⟨h1,-,h2⟩:=Zgg Z
 obtain ⟨hk,hL⟩:=Z.I.loc k t (by rw [htk]; exact ht)
 have hC:=Z.C
 rw [hL.cpu] at hcpu
 have hp:=Cv.Ztd hL hw
 refine (Zkz (t':=t') h hT (by omega) h2 hv hk (by rw [Zei hk,ht]; rfl) hp hL.fin hw hg (by rw [hcpu]; omega)).mono ?_
 rintro e w' ⟨es',ck',rfl,hv',h'⟩
 rw [Zh4 hk hcpu] at hv'
 exact ⟨rfl,es',ck',hv',h'⟩
theorem ZoA (Z:Cv.Cw0 c mn cp st g)(hkey:c.key<18446744073709551616)(hT:Ex.ZdY FillTab.gs W)(htk:st.tk=tk)(h:CrS W bc b0 b1 bt c mn cp g tk cnt n m w)(hc:cnt<1000000000)(ht:tk k=some t)(hw:t.want=0)(hs:Cv.Zba c mn cp g t=some (t',g'))(hcpu:t'.cpu=t.cpu) :
 Calls Tryz.prog 26 #[.pointer (some ⟨bc,0,Option.none⟩),.int .i64 (k:Int)] w fun e w'=>e = .returned (.tuple #[tkV t',.int .i64 0])∧CrS W bc b0 b1 bt c mn cp g' (Cv.upd tk k (Cv.stop t')) (cnt+1) (n+1) m w':=by
 obtain ⟨es,ck,hv,h⟩:=h
 have ht2:st.tk k=some t:=by rw [htk]; exact ht
 obtain ⟨hk,hL⟩:=Z.I.loc k t ht2
 have hC:=Z.C
 rw [hL.cpu] at hcpu
 have hok:=Ztq Z hkey ht2 hw
 obtain ⟨q,hq,hno,hto⟩:=Zpn hok hs
 refine (Zod h hT hok hv hk (by rw [Zei hk,ht]; rfl) hc hq hno hto (by rw [hcpu]; omega)).mono ?_
 rintro e w' ⟨es',ck',rfl,hv',h'⟩
 rw [Zh4 hk hcpu] at hv'
 exact ⟨rfl,es',ck',hv',h'⟩
theorem Zjb (hC:c.C≤5)(h:CrS W bc b0 b1 bt c mn cp g tk cnt n m w)(hk:k<c.C)(ht:tk k=Option.none) :
 Calls Tryz.prog 13 #[.pointer (some ⟨bc,0,Option.none⟩),.int .i64 (k:Int),.int .i64 1,.int .i64 0,.int .i64 0] w fun e w'=>e = .returned (.int .i64 0)∧CrS W bc b0 b1 bt c mn cp g (Cv.upd tk k (some (Cv.Zfj k))) cnt (n+1) m w':=by
 obtain ⟨es,ck,hv,h⟩:=h
 refine (Zkt h (by omega) hv hk (by rw [Zei hk,ht]; rfl)).mono ?_
 rintro e w' ⟨es',ck',rfl,hv',h'⟩
 rw [Zgu hk] at hv'
 exact ⟨rfl,es',ck',hv',h'⟩
theorem ZoB (hC:c.C≤5)(h:CrS W bc b0 b1 bt c mn cp g tk cnt n m w)(hk:k<c.C)(ht:tk k=Option.none) :
 Calls Tryz.prog 13 #[.pointer (some ⟨bc,0,Option.none⟩),.int .i64 (k:Int),.int .i64 4,.int .i64 0,.int .i64 0] w fun e w'=>e = .returned (.int .i64 0)∧CrS W bc b0 b1 bt c mn cp g (Cv.upd tk k (some (Cv.ZmB k))) cnt (n+1) m w':=by
 obtain ⟨es,ck,hv,h⟩:=h
 refine (Zl6 h (by omega) hv hk (by rw [Zei hk,ht]; rfl)).mono ?_
 rintro e w' ⟨es',ck',rfl,hv',h'⟩
 rw [Zgu hk] at hv'
 exact ⟨rfl,es',ck',hv',h'⟩
theorem Zm5 (hC:c.C≤5)(h:CrS W bc b0 b1 bt c mn cp g tk cnt n m w)(hk:k<c.C){f:Nat}(hf:f<c.C)(ht:tk k=Option.none) :
 Calls Tryz.prog 13 #[.pointer (some ⟨bc,0,Option.none⟩),.int .i64 (k:Int),.int .i64 3,.int .i64 (f:Int),.int .i64 0] w fun e w'=>e = .returned (.int .i64 0)∧CrS W bc b0 b1 bt c mn cp g (Cv.upd tk k (some (Cv.ZhT k f))) cnt (n+1) m w':=by
 obtain ⟨es,ck,hv,h⟩:=h
 refine (Zku h (by omega) hv hk hf (by rw [Zei hk,ht]; rfl)).mono ?_
 rintro e w' ⟨es',ck',rfl,hv',h'⟩
 rw [Zgu hk] at hv'
 exact ⟨rfl,es',ck',hv',h'⟩
theorem Zoz (hc:COk c (mn:Int) (cp:Int))(h:CrS W bc b0 b1 bt c mn cp g tk cnt n m w)(hk:k<c.C){x:Nat}(hs:x / 16<c.S)(ho:x % 16<c.O)(ht:tk k=Option.none) :
 Calls Tryz.prog 13 #[.pointer (some ⟨bc,0,Option.none⟩),.int .i64 (k:Int),.int .i64 2,.int .i64 ((x / 16:Nat):Int),.int .i64 ((x % 16:Nat):Int)] w fun e w'=>e = .returned (.int .i64 0)∧CrS W bc b0 b1 bt c mn cp g (Cv.upd tk k (some (Cv.Zk8 k x))) cnt (n+1) m w':=by
 obtain ⟨es,ck,hv,h⟩:=h
 refine (Zfs h hc hv hk hs ho (by rw [Zei hk,ht]; rfl)).mono ?_
 rintro e w' ⟨es',ck',rfl,hv',h'⟩
 rw [Zgu hk] at hv'
 exact ⟨rfl,es',ck',hv',h'⟩
end
end Go.Proofs.YtfcpdlbkmkhhcaaGreatDoor.Cw

namespace Go.Proofs.YtfcpdlbkmkhhcaaGreatDoor.Cw
open Go Mem See
open Go.RowKit
section
def ZlN (f:Nat→Bool):List Value:=(List.range 512).map fun i=>.bool (f i)
theorem Zdu (f:Nat→Bool):(ZlN f).length=512:=by simp [ZlN]
theorem Zip {f:Nat→Bool}{x:Nat}(h:x<512):(ZlN f)[x]?=some (.bool (f x)):=by simp [ZlN,h]
theorem Zo7 {f:Nat→Bool}{x:Nat}{b:Bool}(h:x<512):(ZlN f).set x (.bool b)=ZlN (fun y=>if y=x then b else f y):=by
 apply List.ext_getElem?
 intro i
 rw [List.getElem?_set]
 by_cases hi:i<512
 ·rw [Zip hi,Zip hi,Zdu]
  by_cases e:x=i
  ·subst e
   simp [h]
  ·rw [if_neg e,if_neg (fun e2=>e e2.symm)]
 ·rw [if_neg (by omega),List.getElem?_eq_none (by rw [Zdu]; omega),List.getElem?_eq_none (by rw [Zdu]; omega)]
def Zg5 (bc:Nat)(c:Ch)(mn cp:Nat)(jv:Value)(next:Nat)(out:Nat→Bool)(pv:Value)(none_:Nat)(good:Bool):List Value :=
 .pointer (some ⟨bc,0,Option.none⟩)::.int .i64 (c.C:Int)::.int .i64 (c.S:Int)::.int .i64 (c.O:Int)::.int .i64 (mn:Int)::.int .i64 (cp:Int)::.int .u64 (c.key:Int)::jv::.int .i64 (next:Int)::(ZlN out++[pv,.int .i64 (none_:Int),.bool good])
def Zep (br bc:Nat)(c:Ch)(mn cp:Nat)(jv:Value)(next:Nat)(out:Nat→Bool)(pv:Value)(none_:Nat)(good:Bool):Nat×Obj:=(br,.cells (Zg5 bc c mn cp jv next out pv none_ good).toArray 35)
variable {W w:World}{m:List (Nat×Obj)}{br bc:Nat}{c:Ch}{mn cp next none_:Nat}{jv pv:Value}{out:Nat→Bool}{good:Bool}
theorem Zcp {i:Nat}{v:Value}(h:[Value.pointer (some ⟨bc,0,Option.none⟩),.int .i64 (c.C:Int),.int .i64 (c.S:Int),.int .i64 (c.O:Int),.int .i64 (mn:Int),.int .i64 (cp:Int),.int .u64 (c.key:Int),jv,.int .i64 (next:Int)][i]?=some v):(Zg5 bc c mn cp jv next out pv none_ good)[i]?=some v:=by
 have e:Zg5 bc c mn cp jv next out pv none_ good=[Value.pointer (some ⟨bc,0,Option.none⟩),.int .i64 (c.C:Int),.int .i64 (c.S:Int),.int .i64 (c.O:Int),.int .i64 (mn:Int),.int .i64 (cp:Int),.int .u64 (c.key:Int),jv,.int .i64 (next:Int)]++(ZlN out++[pv,.int .i64 (none_:Int),.bool good]):=by intros; simp only [Zg5,List.cons_append,List.nil_append]
 rw [e,List.getElem?_append_left (List.getElem?_eq_some_iff.1 h).1]
 exact h
theorem Zpi {x:Nat}(h:x<512):(Zg5 bc c mn cp jv next out pv none_ good)[9+x]?=some (.bool (out x)):=by
 have e:Zg5 bc c mn cp jv next out pv none_ good=[Value.pointer (some ⟨bc,0,Option.none⟩),.int .i64 (c.C:Int),.int .i64 (c.S:Int),.int .i64 (c.O:Int),.int .i64 (mn:Int),.int .i64 (cp:Int),.int .u64 (c.key:Int),jv,.int .i64 (next:Int)]++(ZlN out++[pv,.int .i64 (none_:Int),.bool good]):=by intros; simp only [Zg5,List.cons_append,List.nil_append]
 rw [e,List.getElem?_append_right (by simp),List.getElem?_append_left (by rw [Zdu]; simp; omega)]
 have:9+x - [Value.pointer (some ⟨bc,0,Option.none⟩),.int .i64 (c.C:Int),.int .i64 (c.S:Int),.int .i64 (c.O:Int),.int .i64 (mn:Int),.int .i64 (cp:Int),.int .u64 (c.key:Int),jv,.int .i64 (next:Int)].length=x:=by simp
 rw [this]
 exact Zip h
theorem Zg6 {k:Nat}{v:Value}(h:[pv,.int .i64 (none_:Int),.bool good][k]?=some v):(Zg5 bc c mn cp jv next out pv none_ good)[521+k]?=some v:=by
 have e:Zg5 bc c mn cp jv next out pv none_ good=([Value.pointer (some ⟨bc,0,Option.none⟩),.int .i64 (c.C:Int),.int .i64 (c.S:Int),.int .i64 (c.O:Int),.int .i64 (mn:Int),.int .i64 (cp:Int),.int .u64 (c.key:Int),jv,.int .i64 (next:Int)]++ZlN out)++[pv,.int .i64 (none_:Int),.bool good]:=by intros; simp only [Zg5,List.cons_append,List.nil_append]
 have hl:([Value.pointer (some ⟨bc,0,Option.none⟩),.int .i64 (c.C:Int),.int .i64 (c.S:Int),.int .i64 (c.O:Int),.int .i64 (mn:Int),.int .i64 (cp:Int),.int .u64 (c.key:Int),jv,.int .i64 (next:Int)]++ZlN out).length=521:=by rw [List.length_append,Zdu]; rfl
 rw [e,List.getElem?_append_right (by rw [hl]; omega),hl,Nat.add_sub_cancel_left]
 exact h
theorem Zc8 (h:Own W (Zep br bc c mn cp jv next out pv none_ good::m) w){i:Nat}{v:Value}(hi:(Zg5 bc c mn cp jv next out pv none_ good)[i]?=some v):w.cell? ⟨br,i,Option.none⟩=some v:=by
 have:=h.cell (b:=br) List.mem_cons_self i
 rw [this,List.getElem?_toArray]
 exact hi
theorem Zft (h:Own W (Zep br bc c mn cp jv next out pv none_ good::m) w) :
 (w.cell? ⟨br,0,Option.none⟩=some (.pointer (some ⟨bc,0,Option.none⟩))∧w.cell? ⟨br,1,Option.none⟩=some (.int .i64 (c.C:Int))∧w.cell? ⟨br,2,Option.none⟩=some (.int .i64 (c.S:Int))∧w.cell? ⟨br,3,Option.none⟩=some (.int .i64 (c.O:Int))∧w.cell? ⟨br,4,Option.none⟩=some (.int .i64 (mn:Int))∧w.cell? ⟨br,5,Option.none⟩=some (.int .i64 (cp:Int))∧w.cell? ⟨br,6,Option.none⟩=some (.int .u64 (c.key:Int))∧w.cell? ⟨br,7,Option.none⟩=some jv∧w.cell? ⟨br,8,Option.none⟩=some (.int .i64 (next:Int)) ∧
   w.cell? ⟨br,521,Option.none⟩=some pv∧w.cell? ⟨br,522,Option.none⟩=some (.int .i64 (none_:Int))∧w.cell? ⟨br,523,Option.none⟩=some (.bool good))∧(∀ x,x<512→w.cell? ⟨br,9+x,Option.none⟩=some (.bool (out x)))∧∀ i,w.frozen? ⟨br,i,Option.none⟩=false :=
 ⟨⟨Zc8 h (Zcp rfl),Zc8 h (Zcp rfl),Zc8 h (Zcp rfl),Zc8 h (Zcp rfl),Zc8 h (Zcp rfl),Zc8 h (Zcp rfl),Zc8 h (Zcp rfl),Zc8 h (Zcp rfl),Zc8 h (Zcp rfl),Zc8 h (Zg6 (k:=0) rfl),Zc8 h (Zg6 (k:=1) rfl),Zc8 h (Zg6 (k:=2) rfl)⟩,fun _x hx=>Zc8 h (Zpi hx),fun i=>h.frozen List.mem_cons_self i⟩
theorem ZcK (h:Own W (Zep br bc c mn cp jv next out pv none_ good::m) w)(n:Nat):Own W (Zep br bc c mn cp jv n out pv none_ good::m) (w.setCell ⟨br,8,Option.none⟩ (.int .i64 (n:Int))):=by
 have:=h.set 8 (.int .i64 (n:Int))
 rw [List.setIfInBounds_toArray] at this
 exact this
theorem ZhP (h:Own W (Zep br bc c mn cp jv next out pv none_ good::m) w){x:Nat}(hx:x<512)(b:Bool):Own W (Zep br bc c mn cp jv next (fun y=>if y=x then b else out y) pv none_ good::m) (w.setCell ⟨br,9+x,Option.none⟩ (.bool b)):=by
 have:=h.set (9+x) (.bool b)
 rw [List.setIfInBounds_toArray] at this
 have e:(Zg5 bc c mn cp jv next out pv none_ good).set (9+x) (.bool b)=Zg5 bc c mn cp jv next (fun y=>if y=x then b else out y) pv none_ good:=by
  have e1:∀ f,Zg5 bc c mn cp jv next f pv none_ good=[Value.pointer (some ⟨bc,0,Option.none⟩),.int .i64 (c.C:Int),.int .i64 (c.S:Int),.int .i64 (c.O:Int),.int .i64 (mn:Int),.int .i64 (cp:Int),.int .u64 (c.key:Int),jv,.int .i64 (next:Int)]++(ZlN f++[pv,.int .i64 (none_:Int),.bool good]):=by intros; simp only [Zg5,List.cons_append,List.nil_append]
  rw [e1,e1,List.set_append_right _ _ (by simp),List.set_append_left _ _ (by rw [Zdu]; simp; omega)]
  have:9+x - [Value.pointer (some ⟨bc,0,Option.none⟩),.int .i64 (c.C:Int),.int .i64 (c.S:Int),.int .i64 (c.O:Int),.int .i64 (mn:Int),.int .i64 (cp:Int),.int .u64 (c.key:Int),jv,.int .i64 (next:Int)].length=x:=by simp
  rw [this,Zo7 hx]
 rw [e] at this
 exact this
theorem ZeJ (h:Own W (Zep br bc c mn cp jv next out pv none_ good::m) w)(k:Nat)(v:Value){pv':Value}{n':Nat}{g':Bool}(hk:[pv,.int .i64 (none_:Int),.bool good].set k v=[pv',.int .i64 (n':Int),.bool g']):Own W (Zep br bc c mn cp jv next out pv' n' g'::m) (w.setCell ⟨br,521+k,Option.none⟩ v):=by
 have:=h.set (521+k) v
 rw [List.setIfInBounds_toArray] at this
 have e:(Zg5 bc c mn cp jv next out pv none_ good).set (521+k) v=Zg5 bc c mn cp jv next out pv' n' g':=by
  have e1:∀ p q r,Zg5 bc c mn cp jv next out p q r=([Value.pointer (some ⟨bc,0,Option.none⟩),.int .i64 (c.C:Int),.int .i64 (c.S:Int),.int .i64 (c.O:Int),.int .i64 (mn:Int),.int .i64 (cp:Int),.int .u64 (c.key:Int),jv,.int .i64 (next:Int)]++ZlN out)++[p,.int .i64 (q:Int),.bool r]:=by intros; simp only [Zg5,List.cons_append,List.nil_append]
  have hl:([Value.pointer (some ⟨bc,0,Option.none⟩),.int .i64 (c.C:Int),.int .i64 (c.S:Int),.int .i64 (c.O:Int),.int .i64 (mn:Int),.int .i64 (cp:Int),.int .u64 (c.key:Int),jv,.int .i64 (next:Int)]++ZlN out).length=521:=by rw [List.length_append,Zdu]; rfl
  rw [e1,e1,List.set_append_right _ _ (by rw [hl]; omega),hl,Nat.add_sub_cancel_left,hk]
 rw [e] at this
 exact this
theorem ZeK (h:Own W (Zep br bc c mn cp jv next out pv none_ good::m) w)(v:Value):Own W (Zep br bc c mn cp jv next out v none_ good::m) (w.setCell ⟨br,521,Option.none⟩ v):=ZeJ h 0 v rfl
theorem Zk2 (h:Own W (Zep br bc c mn cp jv next out pv none_ good::m) w)(n:Nat):Own W (Zep br bc c mn cp jv next out pv n good::m) (w.setCell ⟨br,522,Option.none⟩ (.int .i64 (n:Int))):=ZeJ h 1 _ rfl
theorem Zbw (h:Own W (Zep br bc c mn cp jv next out pv none_ good::m) w)(b:Bool):Own W (Zep br bc c mn cp jv next out pv none_ b::m) (w.setCell ⟨br,523,Option.none⟩ (.bool b)):=ZeJ h 2 _ rfl
end
end Go.Proofs.YtfcpdlbkmkhhcaaGreatDoor.Cw

namespace Go.Proofs.YtfcpdlbkmkhhcaaGreatDoor.Cw
open Go Mem See
open Go.RowKit
section
variable {W w w':World}{m l:List (Nat×Obj)}{br bc b0 b1 bt:Nat}{c:Ch}{mn cp cnt n:Nat}{g:List Nat}{tk:Nat→Option Tk}{x y:Nat×Obj}
def pI (l:List Nat):List Int:=l.map fun (n:Nat)=>(n:Int)
theorem Zc7 {l:List Nat}:(pI l).length=l.length:=by simp [pI]
theorem ZpQ {l:List Nat}{i x:Nat}(h:l[i]?=some x):(pI l)[i]?=some (x:Int):=by simp [pI,h]
theorem Zjd (h:CrS W bc b0 b1 bt c mn cp g tk cnt n (x::l) w):∃ M,Own W (x::M) w:=by
 obtain ⟨es,ck,hv,h⟩:=h
 exact ⟨_,h.skip.skip.skip.skip⟩
theorem Zm4 (h:CrS W bc b0 b1 bt c mn cp g tk cnt n l w)(k:Nat):CrS W bc b0 b1 bt c mn cp g tk cnt n l (w.drewN k):=by
 obtain ⟨es,ck,hv,h⟩:=h
 exact ⟨es,ck,hv,h.drewN k⟩
theorem Zlk (h:CrS W bc b0 b1 bt c mn cp g tk cnt n l w):CrS W bc b0 b1 bt c mn cp g tk cnt n l w.drew:=by
 obtain ⟨es,ck,hv,h⟩:=h
 exact ⟨es,ck,hv,h.drew⟩
theorem Zh0 {l':List (Nat×Obj)}(h:CrS W bc b0 b1 bt c mn cp g tk cnt n l w)(hp:l.Perm l'):CrS W bc b0 b1 bt c mn cp g tk cnt n l' w:=by
 obtain ⟨es,ck,hv,h⟩:=h
 exact ⟨es,ck,hv,h.perm ((((hp.cons _).cons _).cons _).cons _)⟩
theorem Zqc {l':List (Nat×Obj)}(h:CrS W bc b0 b1 bt c mn cp g tk cnt n l w)(hp:l'.Sublist l):CrS W bc b0 b1 bt c mn cp g tk cnt n l' w:=by
 obtain ⟨es,ck,hv,h⟩:=h
 exact ⟨es,ck,hv,h.sub ((((hp.cons_cons _).cons_cons _).cons_cons _).cons_cons _)⟩
theorem Zbu (h:CrS W bc b0 b1 bt c mn cp g tk cnt n (x::l) w)(f:∀ M,Own W (x::M) w→Own W (y::M) w'):CrS W bc b0 b1 bt c mn cp g tk cnt n (y::l) w':=by
 obtain ⟨es,ck,hv,h⟩:=h
 have h1:=f (crB bc b0 bt c mn cp::(bt,.map es ck)::mB b0 b1 g.length cnt::wB b1 g::l) (h.perm (Zao fun _ q=>by simp only [List.count_cons]; omega))
 exact ⟨es,ck,hv,h1.perm (Zao fun _ q=>by simp only [List.count_cons]; omega)⟩
theorem Zqb (h:CrS W bc b0 b1 bt c mn cp g tk cnt n l w)(o:Obj):CrS W bc b0 b1 bt c mn cp g tk cnt n ((w.heap.size,o)::l) (w.alloc o):=by
 obtain ⟨es,ck,hv,h⟩:=h
 exact ⟨es,ck,hv,(h.new o).perm (Zao fun _ q=>by simp only [List.count_cons]; omega)⟩
theorem Zcw (h:CrS W bc b0 b1 bt c mn cp g tk cnt n l w):∃ M,Own W (l++M) w:=by
 obtain ⟨es,ck,hv,h⟩:=h
 exact ⟨_,h.perm (m':=l++[crB bc b0 bt c mn cp,(bt,.map es ck),mB b0 b1 g.length cnt,wB b1 g]) (Zao fun _ q=>by simp only [List.count_cons,List.count_append,List.count_nil]; omega)⟩
structure ZaQ (W:World)(br bc b0 b1 bt:Nat)(c:Ch)(mn cp:Nat)(jv:Value)(r:Cv.Rn)(good:Bool)(cnt n:Nat)(pv:Value)(pb m:List (Nat×Obj))(w:World):Prop where
 p:Zcu true pv (pI r.pile) pb
 o:CrS W bc b0 b1 bt c mn cp r.g r.tk cnt n (Zep br bc c mn cp jv r.next r.out pv r.none good::(pb++m)) w
variable {r:Cv.Rn}{good:Bool}{jv pv:Value}{pb:List (Nat×Obj)}
theorem ZaQ.box (h:ZaQ W br bc b0 b1 bt c mn cp jv r good cnt n pv pb m w) :
 (w.cell? ⟨br,0,Option.none⟩=some (.pointer (some ⟨bc,0,Option.none⟩))∧w.cell? ⟨br,1,Option.none⟩=some (.int .i64 (c.C:Int))∧w.cell? ⟨br,2,Option.none⟩=some (.int .i64 (c.S:Int))∧w.cell? ⟨br,3,Option.none⟩=some (.int .i64 (c.O:Int))∧w.cell? ⟨br,4,Option.none⟩=some (.int .i64 (mn:Int))∧w.cell? ⟨br,5,Option.none⟩=some (.int .i64 (cp:Int))∧w.cell? ⟨br,6,Option.none⟩=some (.int .u64 (c.key:Int))∧w.cell? ⟨br,7,Option.none⟩=some jv∧w.cell? ⟨br,8,Option.none⟩=some (.int .i64 (r.next:Int)) ∧
   w.cell? ⟨br,521,Option.none⟩=some pv∧w.cell? ⟨br,522,Option.none⟩=some (.int .i64 (r.none:Int))∧w.cell? ⟨br,523,Option.none⟩=some (.bool good))∧(∀ x,x<512→w.cell? ⟨br,9+x,Option.none⟩=some (.bool (r.out x)))∧∀ i,w.frozen? ⟨br,i,Option.none⟩=false:=by
 obtain ⟨M,h1⟩:=Zjd h.o
 exact Zft h1
theorem ZaQ.pile (h:ZaQ W br bc b0 b1 bt c mn cp jv r good cnt n pv pb m w):∃ A k,pv = .slice A r.pile.length k∧(0<r.pile.length→∃ gp,A=some ⟨gp,0,Option.none⟩∧(∀ (j x:Nat),r.pile[j]?=some x→w.cell? ⟨gp,j,Option.none⟩=some (.int .i64 (x:Int)))∧∀ j,w.frozen? ⟨gp,j,Option.none⟩=false):=by
 obtain ⟨A,k,hv,-,-⟩:=SlO.slice h.p
 rw [Zc7] at hv
 refine ⟨A,k,hv,fun hp => ?_⟩
 obtain ⟨gp,cap,cur,hv2,-⟩:=h.p.form (by rw [Zc7]; exact hp)
 rw [hv] at hv2
 simp only [Value.slice.injEq] at hv2
 obtain ⟨M,hM⟩:=Zcw (Zh0 h.o (l':=pb++(m++[Zep br bc c mn cp jv r.next r.out pv r.none good])) (Zao fun _ q=>by simp only [List.count_cons,List.count_append,List.count_nil]; omega))
 rw [List.append_assoc] at hM
 refine ⟨gp,hv2.1,fun j x hj=>h.p.cell hM (by rw [hv,hv2.1,Zc7]) (Zcn (ZpQ hj)),fun j=>h.p.free hM (by rw [hv,hv2.1,Zc7]) j⟩
theorem ZaQ.drewN (h:ZaQ W br bc b0 b1 bt c mn cp jv r good cnt n pv pb m w)(k:Nat):ZaQ W br bc b0 b1 bt c mn cp jv r good cnt n pv pb m (w.drewN k):=⟨h.p,Zm4 h.o k⟩
theorem ZaQ.drew (h:ZaQ W br bc b0 b1 bt c mn cp jv r good cnt n pv pb m w):ZaQ W br bc b0 b1 bt c mn cp jv r good cnt n pv pb m w.drew:=⟨h.p,Zlk h.o⟩
theorem ZaQ.ZpR {gp PL PK:Nat}(h:ZaQ W br bc b0 b1 bt c mn cp jv r good cnt n (.slice (some ⟨gp,0,Option.none⟩) PL PK) pb m w):(∀ (j x:Nat),r.pile[j]?=some x→w.cell? ⟨gp,j,Option.none⟩=some (.int .i64 (x:Int)))∧∀ j,w.frozen? ⟨gp,j,Option.none⟩=false:=by
 obtain ⟨A,k,hv,hp⟩:=h.pile
 simp only [Value.slice.injEq] at hv
 obtain ⟨rfl,rfl,rfl⟩:=hv
 obtain ⟨M,hM⟩:=Zcw (Zh0 h.o (l':=pb++(m++[Zep br bc c mn cp jv r.next r.out (.slice (some ⟨gp,0,Option.none⟩) r.pile.length PK) r.none good])) (Zao fun _ q=>by simp only [List.count_cons,List.count_append,List.count_nil]; omega))
 rw [List.append_assoc] at hM
 exact ⟨fun j x hj=>h.p.cell hM (by rw [Zc7]) (Zcn (ZpQ hj)),fun j=>h.p.free hM (by rw [Zc7]) j⟩
theorem ZaQ.Zrf {gp PL PK:Nat}(h:ZaQ W br bc b0 b1 bt c mn cp jv r good cnt n (.slice (some ⟨gp,0,Option.none⟩) PL PK) pb m w){j:Nat}(hj:j<r.pile.length)(x:Nat) :
 ∃ pb',ZaQ W br bc b0 b1 bt c mn cp jv { r with pile:=r.pile.set j x } good cnt n (.slice (some ⟨gp,0,Option.none⟩) PL PK) pb' m (w.setCell ⟨gp,j,Option.none⟩ (.int .i64 (x:Int))):=by
 obtain ⟨es,ck,hv,hO⟩:=h.o
 have hl:PL=(pI r.pile).length:=by
  obtain ⟨A,k,hv,-⟩:=SlO.slice h.p
  simp only [Value.slice.injEq] at hv
  exact hv.2.1
 subst hl
 have h1:Own W (pb++(crB bc b0 bt c mn cp::(bt,.map es ck)::mB b0 b1 r.g.length cnt::wB b1 r.g::Zep br bc c mn cp jv r.next r.out (.slice (some ⟨gp,0,Option.none⟩) (pI r.pile).length PK) r.none good::m)) w:=hO.perm (Zao fun _ q=>by simp only [List.count_cons,List.count_append]; omega)
 obtain ⟨bs',k1,k2⟩:=h.p.store h1 rfl (j:=j) (by rw [Zc7]; omega) (.int .i64 (x:Int))
 refine ⟨bs',?_,es,ck,hv,k2.perm (Zao fun _ q=>by simp only [List.count_cons,List.count_append]; omega)⟩
 have e:(ints (pI r.pile)).set j (.int .i64 (x:Int))=ints (pI (r.pile.set j x)):=by
  rw [ints_set]
  congr 1
  simp [pI,List.map_set]
 rw [e] at k1
 have e2:(pI r.pile).length=(pI (r.pile.set j x)).length:=by rw [Zc7,Zc7,List.length_set]
 show Zcu true _ (pI (r.pile.set j x)) bs'
 unfold Zcu
 rw [← e2]
 exact k1
theorem ZaQ.Zre {gp PL PK:Nat}(h:ZaQ W br bc b0 b1 bt c mn cp jv r good cnt n (.slice (some ⟨gp,0,Option.none⟩) PL PK) pb m w){k:Nat}(hk:k≤r.pile.length) :
 ZaQ W br bc b0 b1 bt c mn cp jv { r with pile:=r.pile.take k } good cnt n (.slice (some ⟨gp,0,Option.none⟩) k PK) pb m (w.setCell ⟨br,521,Option.none⟩ (.slice (some ⟨gp,0,Option.none⟩) k PK)):=by
 have hl:PL=(pI r.pile).length:=by
  obtain ⟨A,k,hv,-⟩:=SlO.slice h.p
  simp only [Value.slice.injEq] at hv
  exact hv.2.1
 subst hl
 have h1:=h.p.shorter rfl (k:=k) (by rw [Zc7]; exact hk)
 rw [Nat.mul_one] at h1
 refine ⟨?_,Zbu h.o fun M hM=>ZeK hM _⟩
 have e:(ints (pI r.pile)).take k=ints (pI (r.pile.take k)):=by
  rw [Znr]
  congr 1
  simp [pI]
 have e2:k=(pI (r.pile.take k)).length:=by rw [Zc7,List.length_take]; omega
 rw [e] at h1
 show Zcu true _ (pI (r.pile.take k)) pb
 unfold Zcu
 rw [← e2]
 exact h1
theorem ZaQ.Zrd {gp PL PK:Nat}(h:ZaQ W br bc b0 b1 bt c mn cp jv r good cnt n (.slice (some ⟨gp,0,Option.none⟩) PL PK) pb m w):r.pile.length≤PK:=by
 obtain ⟨A,k,hv,h1,-⟩:=SlO.slice h.p
 simp only [Value.slice.injEq] at hv
 rw [Zc7] at h1
 omega
theorem ZaQ.alloc (h:ZaQ W br bc b0 b1 bt c mn cp jv r good cnt n pv pb m w)(o:Obj):ZaQ W br bc b0 b1 bt c mn cp jv r good cnt n pv pb ((w.heap.size,o)::m) (w.alloc o) :=
 ⟨h.p,Zh0 (Zqb h.o o) (Zao fun _ q=>by simp only [List.count_cons,List.count_append]; omega)⟩
theorem ZaQ.own (h:ZaQ W br bc b0 b1 bt c mn cp jv r good cnt n pv pb m w):∃ M,Own W (m++M) w:=by
 obtain ⟨M,hM⟩:=Zcw h.o
 exact ⟨pb++(Zep br bc c mn cp jv r.next r.out pv r.none good::M),hM.perm (Zao fun _ q=>by simp only [List.cons_append,List.count_cons,List.count_append]; omega)⟩
theorem ZaQ.sub {m':List (Nat×Obj)}(h:ZaQ W br bc b0 b1 bt c mn cp jv r good cnt n pv pb m w)(hs:m'.Sublist m):ZaQ W br bc b0 b1 bt c mn cp jv r good cnt n pv pb m' w:=⟨h.p,Zqc h.o (((List.Sublist.refl _).append hs).cons_cons _)⟩
end
end Go.Proofs.YtfcpdlbkmkhhcaaGreatDoor.Cw
