/-
  Texts of this claim, joined. No condition.
-/
import Derived.Test.YtfcpdlbkmkhhcaaGreatDoorCn13
import Derived.Test.YtfcpdlbkmkhhcaaGreatDoorCn14
import Derived.Test.YtfcpdlbkmkhhcaaGreatDoorCn16
import Derived.WalkMore
import Derived.Test.YtfcpdlbkmkhhcaaGreatDoorRows
import Derived.Test.YtfcpdlbkmkhhcaaGreatDoorCn15
import Derived.Test.YtfcpdlbkmkhhcaaGreatDoorCn11
import Derived.Maps.OwnSet
import Derived.Maps.OwnOps




namespace Go.Proofs.YtfcpdlbkmkhhcaaGreatDoor
open Go.RowKit
theorem Zlx:(Tryz.prog.info? 3).map (fun i=>(i.zero,i.size,i.bytes))=some (some (.int .i64 0),1,8):=by kernel_rfl
def ints (l:List Int):List Value:=l.map fun n=>.int .i64 n
theorem ZoU (l:List Int):(ints l).length=l.length:=by simp [ints]
theorem Zcn {l:List Int}{i:Nat}{n:Int}(h:l[i]?=some n):(ints l)[i]?=some (.int .i64 n):=by simp [ints,h]
theorem Zly (l:List Int):∀ u∈ints l,u.oneCell'=true:=by
 intro u hu
 obtain ⟨n,_,rfl⟩:=List.mem_map.1 hu
 rfl
theorem ZgI (a b:List Int):ints a++ints b=ints (a++b):=by simp [ints]
theorem Znr (l:List Int)(k:Nat):(ints l).take k=ints (l.take k):=by simp [ints]
theorem ints_set (l:List Int)(k:Nat)(n:Int):(ints l).set k (.int .i64 n)=ints (l.set k n):=by simp [ints]
abbrev Zcu (ex:Bool) (v:Value) (l:List Int) (bs:List (Nat×Obj)):Prop:=SlO ex 3 1 v l.length (ints l) bs
abbrev ZaK (w:World) (v:Value) (l:List Int):Prop:=Src w 1 v l.length (ints l)
section
variable {W w:World}{m bs:List (Nat×Obj)}{v x:Value}{l l':List Int}
theorem Zhd {ops:Array Oper}{rest:List Oper}{o:Oper}{a:Act}{Q:Exit→Act→World→Prop}(hgd:o.guard=none)(s x:Operand)
 (ho:o.op = .call { callee:=.builtin .append,args:=#[s,x],argTypes:=#[25,25] }) {v xv:Value} (hes:a.eval s=v) (hex:a.eval x=xv)
 (hs:Zcu true v l bs) (hO:Own W (bs++m) w) (hx:ZaK w xv l') (hlen:l.length+l'.length≤60000)
 (h:∀ v' w' bs',Zcu true v' (l++l') bs'→Own W (bs'++m) w'→(v' = .slice none 0 0↔v = .slice none 0 0∧l'=[])→wpList Tryz.prog ops Q rest (a.put o.dst v') w') :
 wpList Tryz.prog ops Q (o::rest) a w:=by
 obtain ⟨i,hi,hz,hsz,hb⟩:=Zf8 Zlx
 refine ZhV hgd s x _ ho hes hex 3 i _ 1 8 Tryz.underlying25 hi hz hsz hb rfl (by omega) hs hO hx (Zly l') (by unfold maxLen; omega) (by omega) fun v' w' bs' h1 h2 h3 => ?_
 rw [ZgI,← List.length_append] at h1
 exact h v' w' bs' h1 h2 (by rw [h3,List.length_eq_zero_iff])
theorem Zoc (w:World)(p:Int):ZaK (w.alloc (.cells #[.int .i64 p] 3)) (.slice (some ⟨w.heap.size,0,none⟩) 1 1) [p]:=by
 refine ⟨rfl,.inr ⟨_,_,rfl,fun j u hj => ?_⟩⟩
 rw [ZhX]
 match j,hj with
 | 0,hj=>simp [ints] at hj; subst hj; simp
 | j+1,hj=>simp [ints] at hj
end
end Go.Proofs.YtfcpdlbkmkhhcaaGreatDoor



namespace Go.Proofs.YtfcpdlbkmkhhcaaGreatDoor.Apart
def Zr1 (i:Nat):List Nat:=[4 * i,4 * i+1,4 * i+2,4 * i+3]
def ZpU (C S O s:Nat):List Nat:=[4 * C+4+4 * s,4 * C+4+4 * s+1,4 * C+4+4 * s+2]++(List.range O).map fun i=>4 * C+4+4 * S+s * O+i
def pl (C S O:Nat):List Nat:=[4 * C,4 * C+1,4 * C+2]++((List.range C).flatMap Zr1++(List.range S).flatMap (ZpU C S O))
end Go.Proofs.YtfcpdlbkmkhhcaaGreatDoor.Apart

namespace Go.Proofs.YtfcpdlbkmkhhcaaGreatDoor.See
open Apart (pl Zr1 ZpU)
variable {c:Ch}{g g':List Nat}
end Go.Proofs.YtfcpdlbkmkhhcaaGreatDoor.See

namespace Go.Proofs.YtfcpdlbkmkhhcaaGreatDoor.chartPlaces
open Go Ex
def v (i:Nat):SE:=.var i
def l (n:Int):SE:=.lit n
def add (a b:SE):SE:=.bin .add a b
def mul (a b:SE):SE:=.bin .mul a b
def Zmc:AV:=.agg [.sym .i64 (v 0),.sym .i64 (v 1),.sym .i64 (v 2),.sym .i64 (v 3),.sym .i64 (v 4),.sym .u64 (v 5)]
def is (e:SE):DT:=.is (.sym .i64 e)
def num (n:Int):DT:=.is (.int .i64 n)
def no:DT:=num (-1)
def ZdM (σ:Nat→Int):DT→Value
 | .leaf=>.bool true
 | .is a=>Ex.valOf σ a
 | .bad=>undef
 | .node c t e=>if c.ev σ=true then ZdM σ t else ZdM σ e
theorem Zgs {σ:Nat→Int}:∀ {d:DT} {x:Value},Ex.Ends σ d x→x=ZdM σ d
 | .leaf,_,h=>h
 | .is _,_,h=>h
 | .bad,_,h=>h.elim
 | .node c t e,x,h=>by
   unfold ZdM
   rcases h with ⟨h1,h2⟩ | ⟨h1,h2⟩
   ·rw [if_pos h1]; exact Zgs h2
   ·rw [if_neg (by rw [h1]; simp)]; exact Zgs h2
def iv:Value→Int
 | .int _ n=>n
 | _=>0
def ZhJ (k:IntKind):DT→Bool
 | .is (.int k' _)=>decide (k=k')
 | .is (.sym k' _)=>decide (k=k')
 | .node _ t e=>ZhJ k t&&ZhJ k e
 | .bad=>true
 | _=>false
theorem ZkO {σ:Nat→Int}{k:IntKind}:∀ {d:DT},ZhJ k d=true→¬ Zoo σ d→ZdM σ d = .int k (iv (ZdM σ d))
 | .is a,h,_=>by
   cases a <;> simp [ZhJ] at h <;> subst h <;> simp [ZdM,Ex.valOf,iv]
 | .bad,_,h=>absurd trivial h
 | .leaf,h,_=>by cases h
 | .node c t e,h,hb=>by
   unfold ZhJ at h
   rw [Bool.and_eq_true] at h
   unfold ZdM
   by_cases hc:c.ev σ=true
   ·rw [if_pos hc]; exact ZkO h.1 fun hx=>hb (.inl ⟨hc,hx⟩)
   ·rw [if_neg hc]; exact ZkO h.2 fun hx=>hb (.inr ⟨by simpa using hc,hx⟩)
def chain:List (SE×SE)→DT→DT→DT
 | [],_,y=>y
 | (a,b)::r,n,y=>.node (.lt a b) n (chain r n y)
def ZsY:DT:=chain [(v 0,l 1),(l 8,v 0),(v 1,l 1),(l 32,v 1),(v 2,l 1),(l 16,v 2),(v 3,l 0),(l 32,v 3),(v 4,l 0),(l 32,v 4)] (num 2) (num 0)
def okQ:Cnd:=.eq (v 8) (l 0)
def base:SE:=mul (l 4) (v 0)
def ZjW:SE:=add base (l 4)
def links:SE:=add ZjW (mul (l 4) (v 1))
def t0 (e:SE):DT:=.node okQ (is e) no
def t1 (n:Nat)(e:SE):DT:=.node okQ (.node (.lt (v 6) (l 0)) no (.node (.lt (v 6) (v n)) (is e) no)) (.node (.lt (v 6) (l 0)) no (.node (.lt (v 6) (v n)) no no))
def Zj3:DT:=.node okQ (chain [(v 0,l 1),(l 8,v 0),(v 1,l 1),(l 32,v 1),(v 2,l 1),(l 16,v 2)] .bad (is (add links (mul (v 1) (v 2))))) (num 0)
def ZtL:DT:=t1 0 (mul (l 4) (v 6))
def ZtP:DT:=t1 0 (add (mul (l 4) (v 6)) (l 2))
def ZtN:DT:=t0 base
def ZsZ:DT:=t0 (add base (l 1))
def ZtM:DT:=t0 (add base (l 2))
def Zog:DT:=t1 1 (add ZjW (mul (l 4) (v 6)))
def ZtO:DT:=t1 1 (add (add ZjW (mul (l 4) (v 6))) (l 2))
def Zrq:DT :=
 .node okQ (.node (.lt (v 6) (l 0)) no (.node (.lt (v 6) (v 1)) (.node (.lt (v 7) (l 0)) no (.node (.lt (v 7) (v 2)) (is (add (add links (mul (v 6) (v 2))) (v 7))) no)) no))
  (.node (.lt (v 6) (l 0)) no (.node (.lt (v 6) (v 1)) (.node (.lt (v 7) (l 0)) no (.node (.lt (v 7) (v 2)) no no)) no))
def Zuh:DT:=.is (.sym .u64 (.ubin .add (v 5) (.ubin .mul (.cv .u64 (v 6)) (l 11400714819323198485))))
section
variable (a b c d e key i k:Int)
def s0:Nat→Int:=fun n=>[a,b,c,d,e,key,i,k].getD n 0
def chk:Int:=iv (ZdM (s0 a b c d e key i k) ZsY)
def s1:Nat→Int:=fun n=>[a,b,c,d,e,key,i,k,chk a b c d e key i k].getD n 0
def val (t:DT):Int:=iv (ZdM (s1 a b c d e key i k) t)
def s2:Nat→Int:=fun n=>[a,b,c,d,e,key,i,k,chk a b c d e key i k,val a b c d e key i k Zj3,val a b c d e key i k ZtL,val a b c d e key i k ZtP,val a b c d e key i k ZtN,val a b c d e key i k ZsZ,val a b c d e key i k ZtM,val a b c d e key i k Zog,val a b c d e key i k ZtO,val a b c d e key i k Zrq,val a b c d e key i k Zuh].getD n 0
def Ok (a b c d e:Int):Prop:=1≤a∧a≤8∧1≤b∧b≤32∧1≤c∧c≤16∧0≤d∧d≤32∧0≤e∧e≤32
instance:Decidable (Ok a b c d e):=by unfold Ok; infer_instance
theorem Zm0:ZdM (s0 a b c d e key i k) ZsY = .int .i64 (if Ok a b c d e then 0 else 2):=by
 simp only [ZsY,chain,ZdM,num,Cnd.ev,SE.ev,v,l,s0,Ex.valOf,List.getD_cons_zero,List.getD_cons_succ,decide_eq_true_eq,Ok]
 by_cases h1:a<1 <;> by_cases h2:8<a <;> by_cases h3:b<1 <;> by_cases h4:32<b <;> by_cases h5:c<1 <;> by_cases h6:16<c <;> by_cases h7:d<0 <;> by_cases h8:32<d <;> by_cases h9:e<0 <;> by_cases h10:32<e <;> simp [*] <;> omega
theorem ZmS:¬ Zoo (s1 a b c d e key i k) Zj3:=by
 have hchk:chk a b c d e key i k=if Ok a b c d e then 0 else 2:=by unfold chk; rw [Zm0]; rfl
 have e8:s1 a b c d e key i k 8=chk a b c d e key i k:=rfl
 have e0:s1 a b c d e key i k 0=a:=rfl
 have e1:s1 a b c d e key i k 1=b:=rfl
 have e2:s1 a b c d e key i k 2=c:=rfl
 intro h
 simp only [Zj3,chain,Zoo,Cnd.ev,okQ,v,l,SE.ev,is,num,e8,e0,e1,e2,hchk,decide_eq_true_eq,decide_eq_false_iff_not,beq_iff_eq,beq_eq_false_iff_ne,and_false,or_false,and_true] at h
 by_cases hok:Ok a b c d e
 ·unfold Ok at hok
  omega
 ·simp [hok] at h
end
theorem known {σ σ':Nat→Int}{ov:Ov}(hov:ZmH Tryz.prog [] σ ov){f:FuncId}{xs:List AV}{t:DT}{k:IntKind}{e:SE}(ha:AV.shuts xs=true)(h:tree Tryz.prog [] ov 30 f xs t []=true)(hb:¬ Zoo σ t)(hk:ZhJ k t=true)
 (he:Zar σ' xs=Zar σ xs) (hv:e.ev σ'=iv (ZdM σ t)) (w:World) (hg:ZdY [] w):Calls Tryz.prog f (Zar σ' xs).toArray w fun r w'=>r = .returned (Ex.valOf σ' (.sym k e))∧RowKit.Below w.heap.size w w':=by
 rw [he]
 refine (Zdh mixed hov ha t [] (by simp) h hb w hg).mono ?_
 rintro _ _ ⟨⟨x,rfl,hx⟩,h2⟩
 refine ⟨?_,h2⟩
 rw [Zgs hx,ZkO hk hb]
 unfold Ex.valOf
 rw [hv]
def Zlv:DT→Bool
 | .bad=>true
 | .node _ t e=>Zlv t||Zlv e
 | _=>false
theorem ZlG {σ:Nat→Int}{t:DT}(h:Zlv t=false):¬ Zoo σ t:=by
 induction t with
 | leaf=>exact fun h=>h
 | is _=>exact fun h=>h
 | bad=>cases h
 | node c t e i1 i2 =>
   unfold Zlv at h
   rw [Bool.or_eq_false_iff] at h
   rintro (⟨_,h1⟩ | ⟨_,h1⟩)
   ·exact i1 h.1 h1
   ·exact i2 h.2 h1
def i6:AV:=.sym .i64 (v 6)
def k7:AV:=.sym .i64 (v 7)
theorem ZlS:tree Tryz.prog [] [] 30 20 [Zmc] ZsY []=true:=by kernel_rfl
def ov1:Ov:=[(20,[Zmc],.sym .i64 (v 8))]
theorem Zpd:tree Tryz.prog [] ov1 30 22 [Zmc] Zj3 []=true:=by kernel_rfl
theorem Zpc:tree Tryz.prog [] ov1 30 41 [Zmc,i6] Zog []=true:=by kernel_rfl
theorem Zrg:tree Tryz.prog [] ov1 30 29 [Zmc,i6,k7] Zrq []=true:=by kernel_rfl
section
variable {a b c d e key i k:Int}
theorem ok1:ZmH Tryz.prog [] (s1 a b c d e key i k) ov1 :=
 Zq6 ZlO rfl rfl ⟨Tryz.f20,_,Tryz.func20,by kernel_rfl,rfl⟩ (known (σ:=s0 a b c d e key i k) ZlO rfl ZlS (ZlG rfl) rfl rfl rfl)
end
end Go.Proofs.YtfcpdlbkmkhhcaaGreatDoor.chartPlaces

namespace Go.Proofs.YtfcpdlbkmkhhcaaGreatDoor.Apart
open Go Ex chartPlaces
abbrev chV (C S O d e key:Int):Value:=.agg #[.int .i64 C,.int .i64 S,.int .i64 O,.int .i64 d,.int .i64 e,.int .u64 key]
theorem Zbz {n:Int}(h : -9223372036854775808≤n∧n≤9223372036854775807):IntKind.i64.wrap n=n:=by
 simp [IntKind.wrap,IntKind.signed,IntKind.bits]
 split <;> omega
section
variable {C S O d e key i k:Int}{W w:World}{m:List (Nat×Obj)}
theorem ZtH (h:Ok C S O d e):s1 C S O d e key i k 8=0:=by
 show chartPlaces.chk C S O d e key i k=0
 unfold chartPlaces.chk
 rw [Zm0,if_pos h]
 rfl
theorem place (_h:Ok C S O d e){f:FuncId}{xs:List AV}{t:DT}(ht:tree Tryz.prog [] ov1 30 f xs t []=true)(ha:AV.shuts xs=true)(hb:¬ Zoo (s1 C S O d e key i k) t)(hO:Own W m w) :
 Calls Tryz.prog f (Zar (s1 C S O d e key i k) xs).toArray w fun r w'=>r = .returned (ZdM (s1 C S O d e key i k) t)∧Own W m w':=by
 refine (Zdh mixed ok1 ha t [] (by simp) ht hb w ZlX).mono ?_
 rintro _ _ ⟨⟨x,rfl,hx⟩,h2⟩
 exact ⟨by rw [Zgs hx],hO.Zdg h2⟩
theorem ZsL (h:Ok C S O d e):0≤S * O∧S * O≤512:=by
 unfold Ok at h
 have h1:S * O≤32 * O:=Int.mul_le_mul_of_nonneg_right (by omega) (by omega)
 have h2:0≤S * O:=Int.mul_nonneg (by omega) (by omega)
 omega
theorem Zox (h:Ok C S O d e)(hO:Own W m w):Calls Tryz.prog 20 #[chV C S O d e key] w fun r w'=>r = .returned (.int .i64 0)∧Own W m w':=by
 refine (Zdh (σ:=s0 C S O d e key 0 0) mixed ZlO (args:=[Zmc]) rfl ZsY [] (by simp) ZlS (ZlG rfl) w ZlX).mono ?_
 rintro _ _ ⟨⟨x,rfl,hx⟩,h2⟩
 refine ⟨?_,hO.Zdg h2⟩
 rw [Zgs hx,Zm0,if_pos h]
theorem Zpw (h:Ok C S O d e)(hO:Own W m w):Calls Tryz.prog 22 #[chV C S O d e key] w fun r w'=>r = .returned (.int .i64 (4 * C+4+4 * S+S * O))∧Own W m w':=by
 refine (place (key:=key) (i:=0) (k:=0) h Zpd rfl (ZmS _ _ _ _ _ _ _ _) hO).mono ?_
 rintro _ _ ⟨rfl,h2⟩
 refine ⟨?_,h2⟩
 have hm:=ZsL h
 have h8:=ZtH (key:=key) (i:=0) (k:=0) h
 have e0:s1 C S O d e key 0 0 0=C:=rfl
 have e1:s1 C S O d e key 0 0 1=S:=rfl
 have e2:s1 C S O d e key 0 0 2=O:=rfl
 unfold Ok at h
 simp only [Zj3,chain,ZdM,Cnd.ev,okQ,v,l,SE.ev,is,num,h8,e0,e1,e2,Ex.valOf,add,mul,links,ZjW,base,decide_eq_true_eq,beq_self_eq_true,if_true]
 rw [if_neg (by omega),if_neg (by omega),if_neg (by omega),if_neg (by omega),if_neg (by omega),if_neg (by omega)]
 rw [Zbz (n:=4 * C) (by omega),Zbz (n:=4 * C+4) (by omega),Zbz (n:=4 * S) (by omega),Zbz (n:=4 * C+4+4 * S) (by omega),Zbz (n:=S * O) (by omega),Zbz (n:=4 * C+4+4 * S+S * O) (by omega)]
theorem ZoG (h:Ok C S O d e)(hi:0≤i∧i<S)(hO:Own W m w):Calls Tryz.prog 41 #[chV C S O d e key,.int .i64 i] w fun r w'=>r = .returned (.int .i64 (4 * C+4+4 * i))∧Own W m w':=by
 refine (place (key:=key) (i:=i) (k:=0) h Zpc rfl (ZlG rfl) hO).mono ?_
 rintro _ _ ⟨rfl,h2⟩
 refine ⟨?_,h2⟩
 have h8:=ZtH (key:=key) (i:=i) (k:=0) h
 have e0:s1 C S O d e key i 0 0=C:=rfl
 have e1:s1 C S O d e key i 0 1=S:=rfl
 have e2:s1 C S O d e key i 0 2=O:=rfl
 have e6:s1 C S O d e key i 0 6=i:=rfl
 have e7:s1 C S O d e key i 0 7=0:=rfl
 unfold Ok at h
 simp only [Zog,t1,ZdM,Cnd.ev,okQ,v,l,SE.ev,is,no,num,h8,e0,e1,e6,Ex.valOf,add,mul,ZjW,base,decide_eq_true_eq,beq_self_eq_true,if_true]
 rw [if_neg (by omega),if_pos (by omega)]
 rw [Zbz (n:=4 * C) (by omega),Zbz (n:=4 * C+4) (by omega),Zbz (n:=4 * i) (by omega),Zbz (n:=4 * C+4+4 * i) (by omega)]
theorem ZqT (h:Ok C S O d e)(hi:0≤i∧i<S)(hk:0≤k∧k<O)(hO:Own W m w):Calls Tryz.prog 29 #[chV C S O d e key,.int .i64 i,.int .i64 k] w fun r w'=>r = .returned (.int .i64 (4 * C+4+4 * S+i * O+k))∧Own W m w':=by
 refine (place (key:=key) (i:=i) (k:=k) h Zrg rfl (ZlG rfl) hO).mono ?_
 rintro _ _ ⟨rfl,h2⟩
 refine ⟨?_,h2⟩
 have hm:0≤i * O∧i * O≤32 * O:=⟨Int.mul_nonneg (by omega) (by omega),Int.mul_le_mul_of_nonneg_right (by unfold Ok at h; omega) (by omega)⟩
 have h8:=ZtH (key:=key) (i:=i) (k:=k) h
 have e0:s1 C S O d e key i k 0=C:=rfl
 have e1:s1 C S O d e key i k 1=S:=rfl
 have e2:s1 C S O d e key i k 2=O:=rfl
 have e6:s1 C S O d e key i k 6=i:=rfl
 have e7:s1 C S O d e key i k 7=k:=rfl
 unfold Ok at h
 simp only [Zrq,ZdM,Cnd.ev,okQ,v,l,SE.ev,is,no,num,h8,e0,e1,e2,e6,e7,Ex.valOf,add,mul,links,ZjW,base,decide_eq_true_eq,beq_self_eq_true,if_true]
 rw [if_neg (by omega),if_pos (by omega),if_neg (by omega),if_pos (by omega)]
 rw [Zbz (n:=4 * C) (by omega),Zbz (n:=4 * C+4) (by omega),Zbz (n:=4 * S) (by omega),Zbz (n:=4 * C+4+4 * S) (by omega),Zbz (n:=i * O) (by omega),Zbz (n:=4 * C+4+4 * S+i * O) (by omega),Zbz (n:=4 * C+4+4 * S+i * O+k) (by omega)]
end
section
open Go.RowKit
variable {W w:World}{m:List (Nat×Obj)}
def chB (b:Nat)(C S O d e key:Int):Nat×Obj:=(b,.cells #[.int .i64 C,.int .i64 S,.int .i64 O,.int .i64 d,.int .i64 e,.int .u64 key] 24)
def Ztj (w:World)(b:Nat)(C S O d e key:Int):Prop :=
 w.cell? ⟨b,0,none⟩=some (.int .i64 C)∧w.cell? ⟨b,1,none⟩=some (.int .i64 S)∧w.cell? ⟨b,2,none⟩=some (.int .i64 O)∧w.cell? ⟨b,3,none⟩=some (.int .i64 d)∧w.cell? ⟨b,4,none⟩=some (.int .i64 e)∧w.cell? ⟨b,5,none⟩=some (.int .u64 key)
theorem ZrX {b:Nat}{C S O d e key:Int}(h:Own W (chB b C S O d e key::m) w):Ztj w b C S O d e key :=
 ⟨h.cell List.mem_cons_self 0,h.cell List.mem_cons_self 1,h.cell List.mem_cons_self 2,h.cell List.mem_cons_self 3,h.cell List.mem_cons_self 4,h.cell List.mem_cons_self 5⟩
end
end Go.Proofs.YtfcpdlbkmkhhcaaGreatDoor.Apart

namespace Go.Proofs.YtfcpdlbkmkhhcaaGreatDoor
open Go.RowKit
section
variable {W w:World}{m:List (Nat×Obj)}{e size n:Nat}{v:Value}{xs:List Value}{bs:List (Nat×Obj)}{P:Program}
theorem Zpo {ops:Array Oper}{o:Oper}{a:Act}{K:Act→World→Prop}{Q:Exit→Act→World→Prop}{E:Prop}(hgd:o.guard=none)(s x:Operand)(t:TypeId)
 (ho:o.op = .call { callee:=.builtin .append,args:=#[s,x],argTypes:=#[t,t] }) {v xv:Value} (hes:a.eval s=v) (hex:a.eval x=xv)
 (e:TypeId) (i:TypeInfo) (z:Value) (size bytes:Nat) (ht:P.underlying t=some (.slice e)) (hi:P.info? e=some i) (hz:i.zero=some z)
 (hsize:i.size=size) (hby:i.bytes=bytes) (hzs:z.cells.size=size) (hsz:0<size)
 (hs:Zl2 e size v n xs bs) (hO:Own W (bs++m) w) {k:Nat} {news:List Value} (hx:Src w size xv k news) (h1:∀ u∈news,u.oneCell'=true)
 (h63:n+k≤maxLen) (hbytes:(n+k) * bytes≤140737488355328)
 (h:∀ v' w' bs',Zl2 e size v' (n+k) (xs++news) bs'→Own W (bs'++m) w'→K (a.put o.dst v') w') :
 if Region.wanted o (yielded ops a.tmps)=true then Oper.wp P o a w K Q else E:=by
 have hw:Region.wanted o (yielded ops a.tmps)=true:=by simp [Region.wanted,hgd]
 rw [if_pos hw]
 obtain ⟨v',w',bs',hr,h2,h3,h4⟩:=Zn2 (P:=P) t o.type e i z size bytes ht hi hz hsize hby hzs hsz hs hO hx h1 h63 hbytes
 unfold Oper.wp execOp
 simp only [ho,resolve,invoke,builtin,Sem.run_bind,Sem.run_pure,Result.andThen_ok,List.map_toArray,List.map_cons,List.map_nil,hes,hex,hr]
 exact h v' w' bs' h2 h3
end
end Go.Proofs.YtfcpdlbkmkhhcaaGreatDoor

namespace Go.Proofs.YtfcpdlbkmkhhcaaGreatDoor
open Go.RowKit
section
variable {W w:World}{m bs:List (Nat×Obj)}{l l':List Int}
theorem ZiC {ops:Array Oper}{o:Oper}{a:Act}{K:Act→World→Prop}{Q:Exit→Act→World→Prop}{E:Prop}(hgd:o.guard=none)(s x:Operand)
 (ho:o.op = .call { callee:=.builtin .append,args:=#[s,x],argTypes:=#[25,25] }) {v xv:Value} (hes:a.eval s=v) (hex:a.eval x=xv)
 (hs:Zcu true v l bs) (hO:Own W (bs++m) w) (hx:ZaK w xv l') (hlen:l.length+l'.length≤60000)
 (h:∀ v' w' bs',Zcu true v' (l++l') bs'→Own W (bs'++m) w'→K (a.put o.dst v') w') :
 if Region.wanted o (yielded ops a.tmps)=true then Oper.wp Tryz.prog o a w K Q else E:=by
 obtain ⟨i,hi,hz,hsz,hb⟩:=Zf8 Zlx
 refine Zpo hgd s x _ ho hes hex 3 i _ 1 8 Tryz.underlying25 hi hz hsz hb rfl (by omega) hs hO hx (Zly l') (by unfold maxLen; omega) (by omega) fun v' w' bs' h1 h2 => ?_
 rw [ZgI,← List.length_append] at h1
 exact h v' w' bs' h1 h2
end
end Go.Proofs.YtfcpdlbkmkhhcaaGreatDoor

namespace Go.Proofs.YtfcpdlbkmkhhcaaGreatDoor.See
open Go.RowKit
open Apart (chV)
open chartPlaces (Ok)
attribute [local go_sem ↓] Go.wp_at_zero Go.wp_at_succ
structure COk (c:Ch)(d e:Int):Prop where
 ok:Ok c.C c.S c.O d e
 key:c.key<18446744073709551616
theorem COk.nums {c:Ch}{d e:Int}(h:COk c d e):1≤c.C∧c.C≤8∧1≤c.S∧c.S≤32∧1≤c.O∧c.O≤16:=by
 have:=h.ok
 unfold Ok at this
 omega
end Go.Proofs.YtfcpdlbkmkhhcaaGreatDoor.See

namespace Go.Proofs.YtfcpdlbkmkhhcaaGreatDoor
open Go.RowKit
open Go.Maps (Keyed)
open Go.ChangeMaps (setBlock modify_eq_set)
structure IM (es:Array MapEntry)(n:Nat)(f:Int→Option Int):Prop where
 size:es.size≤n
 ints:∀ x∈es.toList,∃ k c,x.key = .int .i64 k∧x.val = .int .i64 c∧(Lit.int .i64 k).wf=true
 apart:∀ (i j:Nat) (x y:MapEntry),es.toList[i]?=some x→es.toList[j]?=some y→x.key=y.key→i=j
 fits:∀ k c,f k=some c↔∃ x∈es.toList,x.key = .int .i64 k∧x.val = .int .i64 c
def Zmg (f:Int→Option Int)(k c:Int):Int→Option Int:=fun j=>if j=k then some c else f j
theorem IM.nil:IM #[] 0 (fun _=>none):=⟨by simp,by simp,by simp,by simp⟩
theorem int_keyed':Keyed Tryz.prog 3:=Go.Maps.int_keyed Tryz.underlying3
theorem keyOf_i64 {k:Int}(hk:(Lit.int .i64 k).wf=true):keyOf Tryz.prog 3 (.int .i64 k)=some (.int .i64 k):=Go.Maps.keyOf_int_mk Tryz.underlying3 hk
section
variable {w:World}{es:Array MapEntry}{ck n b:Nat}{f:Int→Option Int}
theorem IM.ZhB (h:IM es n f):∀ e∈es.toList,∃ l,keyOf Tryz.prog 3 e.key=some l:=fun e he=>by
 obtain ⟨k,c,hk,-,hw⟩:=h.ints e he
 exact ⟨_,by rw [hk]; exact keyOf_i64 hw⟩
theorem IM.ZkW (h:IM es n f){k:Int}(hk:∀ e∈es.toList,e.key≠.int .i64 k):f k=none:=by
 cases hf:f k with
 | none=>rfl
 | some c =>
   obtain ⟨x,hx,h1,-⟩:=(h.fits k c).1 hf
   exact absurd h1 (hk x hx)
theorem ZmA (h:IM es n f)(hb:w.heap[b]?=some (.map es ck))(_hn:n<maxLen){k:Int}(hk:(Lit.int .i64 k).wf=true)(c:Int) :
 ∃ es' ck',(Instr.mapUpdate 98 (.map (some b)) (.int .i64 k) (.int .i64 c)).run Tryz.prog w = .ok () (setBlock w b (.map es' ck'))∧IM es' (n+1) (Zmg f k c):=by
 have hkey:=keyOf_i64 hk
 have K:=int_keyed'
 rcases K.find w hkey es.toList h.ZhB with ⟨h1,h2⟩ | ⟨j,e0,h1,h2,h3⟩
 ·refine ⟨es.push ⟨.int .i64 k,.int .i64 c,ck⟩,ck+1,?_,⟨by have:=h.size; simp; omega,?_,?_,?_⟩⟩
  ·simp [Instr.mapUpdate,run_underlying Tryz.underlying98,MapKept.run_getObj_map hb,K.check w false hkey,h1,MapKept.run_setObj_map _ hb,Result.andThen,setBlock]
  ·intro x hx
   simp only [Array.toList_push,List.mem_append,List.mem_singleton] at hx
   rcases hx with hx | rfl
   ·exact h.ints x hx
   ·exact ⟨k,c,rfl,rfl,hk⟩
  ·intro i j x y hx hy hxy
   rw [Array.toList_push,List.getElem?_append] at hx hy
   split at hx <;> split at hy
   ·exact h.apart i j x y hx hy hxy
   ·have:y=⟨.int .i64 k,.int .i64 c,ck⟩:=by
     rw [List.getElem?_singleton] at hy; split at hy <;> simp_all
    subst this
    exact absurd hxy (h2 x (List.mem_of_getElem? hx))
   ·have:x=⟨.int .i64 k,.int .i64 c,ck⟩:=by
     rw [List.getElem?_singleton] at hx; split at hx <;> simp_all
    subst this
    exact absurd hxy.symm (h2 y (List.mem_of_getElem? hy))
   ·rw [List.getElem?_singleton] at hx hy
    split at hx <;> split at hy <;> first | omega | simp_all
  ·intro q d
   simp only [Array.toList_push,List.mem_append,List.mem_singleton,Zmg]
   by_cases hq:q=k
   ·subst hq
    rw [if_pos rfl]
    constructor
    ·intro hd
     simp only [Option.some.injEq] at hd
     subst hd
     exact ⟨_,.inr rfl,rfl,rfl⟩
    ·rintro ⟨x,hx | rfl,e1,e2⟩
     ·exact absurd e1 (h2 x hx)
     ·simp only [Value.int.injEq,true_and] at e2
      rw [e2]
   ·rw [if_neg hq,h.fits q d]
    constructor
    ·rintro ⟨x,hx,e1,e2⟩
     exact ⟨x,.inl hx,e1,e2⟩
    ·rintro ⟨x,hx | rfl,e1,e2⟩
     ·exact ⟨x,hx,e1,e2⟩
     ·simp only [Value.int.injEq,true_and] at e1
      exact absurd e1.symm hq
 ·have hj:es[j]?=some e0:=by simpa using h2
  have hjl:j<es.toList.length:=(List.getElem?_eq_some_iff.1 h2).1
  have hlist:(es.modify j (fun e'=>{ e' with key:=.int .i64 k,val:=.int .i64 c })).toList=es.toList.set j { e0 with key:=.int .i64 k,val:=.int .i64 c }:=by rw [Array.toList_modify,modify_eq_set _ _ _ _ h2]
  have hget:∀ i,(es.toList.set j { e0 with key:=.int .i64 k,val:=.int .i64 c })[i]?=if i=j then some { e0 with key:=.int .i64 k,val:=.int .i64 c } else es.toList[i]?:=fun i=>by
   rw [List.getElem?_set]
   by_cases hij:j=i
   ·subst hij; rw [if_pos rfl,if_pos rfl,if_pos hjl]
   ·rw [if_neg hij,if_neg (fun e=>hij e.symm)]
  have hmem:∀ x,x∈es.toList.set j { e0 with key:=.int .i64 k,val:=.int .i64 c }↔x={ e0 with key:=.int .i64 k,val:=.int .i64 c }∨(x∈es.toList∧x.key≠.int .i64 k):=fun x=>by
   constructor
   ·intro hx
    obtain ⟨i,hi⟩:=List.getElem?_of_mem hx
    rw [hget] at hi
    split at hi
    ·exact .inl (Option.some.inj hi).symm
    ·rename_i hij
     exact .inr ⟨List.mem_of_getElem? hi,fun e=>hij (h.apart i j x e0 hi h2 (e.trans h3.symm))⟩
   ·rintro (rfl | ⟨hx,hne⟩)
    ·exact List.mem_iff_getElem?.2 ⟨j,by rw [hget,if_pos rfl]⟩
    ·obtain ⟨i,hi⟩:=List.getElem?_of_mem hx
     refine List.mem_iff_getElem?.2 ⟨i,?_⟩
     rw [hget,if_neg,hi]
     rintro rfl
     rw [h2] at hi
     cases hi
     exact hne h3
  refine ⟨es.modify j (fun e'=>{ e' with key:=.int .i64 k,val:=.int .i64 c }),ck,?_,⟨by have:=h.size; simp; omega,?_,?_,?_⟩⟩
  ·simp [Instr.mapUpdate,run_underlying Tryz.underlying98,MapKept.run_getObj_map hb,K.check w false hkey,h1,hj,h3,K.stays w hkey,MapKept.run_setObj_map _ hb,Result.andThen,setBlock]
  ·intro x hx
   rw [hlist] at hx
   rcases (hmem x).1 hx with rfl | ⟨hx,-⟩
   ·exact ⟨k,c,rfl,rfl,hk⟩
   ·exact h.ints x hx
  ·intro i i' x y hx hy hxy
   rw [hlist,hget] at hx hy
   split at hx <;> split at hy
   ·omega
   ·cases hx
    rename_i h5 h6
    exact absurd (h.apart i' j y e0 hy h2 (hxy.symm.trans h3.symm)) h6
   ·cases hy
    rename_i h5 h6
    exact absurd (h.apart i j x e0 hx h2 (hxy.trans h3.symm)) h5
   ·exact h.apart i i' x y hx hy hxy
  ·intro q d
   rw [hlist]
   simp only [Zmg]
   by_cases hq:q=k
   ·subst hq
    rw [if_pos rfl]
    constructor
    ·intro hd
     simp only [Option.some.injEq] at hd
     subst hd
     exact ⟨_,(hmem _).2 (.inl rfl),rfl,rfl⟩
    ·rintro ⟨x,hx,e1,e2⟩
     rcases (hmem x).1 hx with rfl | ⟨-,hne⟩
     ·simp only [Value.int.injEq,true_and] at e2
      rw [e2]
     ·exact absurd e1 hne
   ·rw [if_neg hq,h.fits q d]
    constructor
    ·rintro ⟨x,hx,e1,e2⟩
     exact ⟨x,(hmem x).2 (.inr ⟨hx,by rw [e1]; intro he; simp only [Value.int.injEq,true_and] at he; exact hq he⟩),e1,e2⟩
    ·rintro ⟨x,hx,e1,e2⟩
     rcases (hmem x).1 hx with rfl | ⟨hx,-⟩
     ·simp only [Value.int.injEq,true_and] at e1
      exact absurd e1.symm hq
     ·exact ⟨x,hx,e1,e2⟩
end
section
variable {W w:World}{m:List (Nat×Obj)}{b:Nat}{o:Obj}{es:Array MapEntry}{ck:Nat}
theorem Own.Zn7 (h:Own W ((b,.map es ck)::m) w)(es':Array MapEntry)(ck':Nat):Own W ((b,.map es' ck')::m) (setBlock w b (.map es' ck')):=by
 have hg:=h.get (List.mem_cons_self)
 have hge:=h.ge (List.mem_cons_self)
 have hlt:=Zcg hg
 have hother:∀ k,k≠b→(setBlock w b (.map es' ck')).heap[k]?=w.heap[k]?:=fun k hk=>by
  simp only [setBlock]
  rw [Array.getElem?_setIfInBounds,if_neg (fun e=>hk e.symm)]
 have hb:=h.below
 refine ⟨⟨hb.os,hb.tape,hb.output,by simpa [setBlock] using hb.size,fun k hk => ?_⟩,fun p hm => ?_,h.nd⟩
 ·rw [hother k (by omega)]; exact hb.block k hk
 ·rcases List.mem_cons.1 hm with rfl | hm
  ·exact ⟨hge,by simp [setBlock,hlt]⟩
  ·exact ⟨(h.at_ p (List.mem_cons_of_mem _ hm)).1,(hother p.1 (Own.ne h (b':=p.1) (o':=p.2) hm)).trans (h.at_ p (List.mem_cons_of_mem _ hm)).2⟩
end
section
variable {W w:World}{M:List (Nat×Obj)}{es:Array MapEntry}{ck n b:Nat}{f:Int→Option Int}
variable {ops:Array Oper}{rest:List Oper}{o:Oper}{a:Act}{Q:Exit→Act→World→Prop}
theorem ZbD (hg:o.guard=none)(m x v:Operand)(hop:o.op=Op.mapUpdate 98 m x v){k c:Int}(hm:a.eval m = .map (some b))(hx:a.eval x = .int .i64 k)(hv:a.eval v = .int .i64 c)
 (h:IM es n f) (hO:Own W ((b,.map es ck)::M) w) (hn:n<maxLen) (hk:(Lit.int .i64 k).wf=true)
 (hK:∀ es' ck' w',IM es' (n+1) (Zmg f k c)→Own W ((b,.map es' ck')::M) w'→wpList Tryz.prog ops Q rest (a.put o.dst undef) w'):wpList Tryz.prog ops Q (o::rest) a w:=by
 refine wpList_plain hg fun K' hK' => ?_
 obtain ⟨es',ck',hrun,h1⟩:=ZmA h (hO.get List.mem_cons_self) hn hk c
 unfold Oper.wp
 simp [execOp,hop,hm,hx,hv,hrun,Result.andThen]
 exact hK' _ _ (hK es' ck' _ h1 (hO.Zn7 es' ck'))
end
end Go.Proofs.YtfcpdlbkmkhhcaaGreatDoor
