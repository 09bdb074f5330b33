/-
  Texts of this claim, joined. No condition.
-/
import Derived.Lib.Hide
import Derived.IntWalk
import Derived.WalkKit
import Derived.Test.YtfcpdlbkmkhhcaaGreatDoorRows
import Derived.ProofKit
import Derived.DeepKeys3
namespace Go.Proofs.YtfcpdlbkmkhhcaaGreatDoor
set_option maxRecDepth 100000
set_option maxHeartbeats 40000000
section
open Go
theorem ZkQ:type_of% @Lib.hid:=@Lib.hid
theorem ZlP:type_of% @Option.some.injEq:=@Option.some.injEq
theorem ZnJ:type_of% @List.mem_cons_self:=@List.mem_cons_self
theorem ZnK:type_of% @List.setIfInBounds_toArray:=@List.setIfInBounds_toArray
theorem ZnQ:type_of% @List.mem_cons_of_mem:=@List.mem_cons_of_mem
theorem Zqa:type_of% @List.set_cons_zero:=@List.set_cons_zero
theorem Zxo:type_of% @List.set_cons_succ:=@List.set_cons_succ
theorem Zxp:type_of% @List.getElem?_eq_getElem:=@List.getElem?_eq_getElem
theorem Zxq:type_of% @Nat.eq_of_beq_eq_true:=@Nat.eq_of_beq_eq_true
theorem Zxs:type_of% @Result.andThen_ok:=@Result.andThen_ok
theorem Zxt:type_of% @Nat.le_refl:=@Nat.le_refl
theorem Zxu:type_of% @Bool.and_eq_true:=@Bool.and_eq_true
theorem Zxv:type_of% @List.count_cons:=@List.count_cons
theorem Zxw:type_of% @List.length_append:=@List.length_append
theorem Zxx:type_of% @List.getD_eq_getElem?_getD:=@List.getD_eq_getElem?_getD
theorem Zxy:type_of% @Sem.run_bind:=@Sem.run_bind
theorem Zxz:type_of% @List.mem_of_getElem?:=@List.mem_of_getElem?
theorem ZxA:type_of% @Prod.mk.injEq:=@Prod.mk.injEq
theorem ZxC:type_of% @List.sublist_cons_self:=@List.sublist_cons_self
theorem ZxD:type_of% @IntWalk.wrap64_in:=@IntWalk.wrap64_in
theorem ZxE:type_of% @List.mem_singleton:=@List.mem_singleton
theorem ZxF:type_of% @List.mem_cons:=@List.mem_cons
theorem ZxG:type_of% @List.append_assoc:=@List.append_assoc
theorem ZxH:type_of% @Array.getElem?_eq_getElem:=@Array.getElem?_eq_getElem
theorem ZxI:type_of% @List.Perm.append_left:=@List.Perm.append_left
theorem ZxJ:type_of% @List.length_cons:=@List.length_cons
theorem ZxK:type_of% @List.nodup_append:=@List.nodup_append
theorem ZxL:type_of% @Nat.le_trans:=@Nat.le_trans
theorem ZxM:type_of% @Sem.run_pure:=@Sem.run_pure
theorem ZxN:type_of% @List.getElem?_cons_zero:=@List.getElem?_cons_zero
theorem ZxO:type_of% @List.count_append:=@List.count_append
theorem ZxP:type_of% @List.append_nil:=@List.append_nil
theorem ZxQ:type_of% @List.mem_append:=@List.mem_append
theorem ZxR:type_of% @Nat.mul_le_mul_right:=@Nat.mul_le_mul_right
theorem ZxS:type_of% @List.nodup_cons:=@List.nodup_cons
theorem ZxT:type_of% @List.perm_middle:=@List.perm_middle
theorem ZxU:type_of% @List.mem_append_right:=@List.mem_append_right
theorem ZxV:type_of% @Nat.zero_le:=@Nat.zero_le
theorem ZxW:type_of% @List.mem_range:=@List.mem_range
theorem ZxY:type_of% @List.getElem?_append_right:=@List.getElem?_append_right
theorem ZxZ:type_of% @Option.some.inj:=@Option.some.inj
theorem Zx0:type_of% @List.getElem?_append_left:=@List.getElem?_append_left
theorem Zx1:type_of% @Array.getElem?_eq_none:=@Array.getElem?_eq_none
theorem Zx2:type_of% @Int.toNat_natCast:=@Int.toNat_natCast
theorem Zx3:type_of% @List.getElem?_toArray:=@List.getElem?_toArray
theorem Zx4:type_of% @Nat.le_of_ble_eq_true:=@Nat.le_of_ble_eq_true
theorem Zx5:type_of% @List.length_singleton:=@List.length_singleton
theorem Zx6:type_of% @of_decide_eq_true:=@of_decide_eq_true
theorem Zx7:type_of% @decide_eq_false:=@decide_eq_false
theorem Zx8:type_of% @decide_eq_true:=@decide_eq_true
theorem Zx9{α:Sort _}(a:α):∃ b,a=b:=⟨_,rfl⟩
end
namespace Ex
open Go
noncomputable section
inductive T (α:Type) where
 |e
 |n (l:T α) (v:Option α) (r:T α)
inductive Ps where
 |x
 |h
 |o (p:Ps)
 |i (p:Ps)
def DC:Nat→Nat→Ps
 |0,_=>.x
 |d+1,k=>match Nat.beq k 0 with
  |true=>.h
  |false=>match Nat.beq (Nat.mod k 2) 1 with
   |true=>.i (DC d (Nat.div k 2))
   |false=>.o (DC d (Nat.sub (Nat.div k 2) 1))
noncomputable def T.wY {α:Type}(p:Ps):T α→Option α :=
 Ps.rec (motive:=fun _=>T α→Option α) (fun _=>none)
  (fun t=>T.rec (motive:=fun _=>Option α) none (fun _ v _ _ _=>v) t)
  (fun _ ih t=>T.rec (motive:=fun _=>Option α) none (fun _ _ r _ _=>ih r) t)
  (fun _ ih t=>T.rec (motive:=fun _=>Option α) none (fun l _ _ _ _=>ih l) t) p
noncomputable def T.GY {α:Type}(x:Option α)(p:Ps):T α→T α :=
 Ps.rec (motive:=fun _=>T α→T α) (fun t=>t)
  (fun t=>T.rec (motive:=fun _=>T α) (.n .e x .e) (fun l _ r _ _=>.n l x r) t)
  (fun _ ih t=>T.rec (motive:=fun _=>T α) (.n .e none (ih .e)) (fun l v r _ _=>.n l v (ih r)) t)
  (fun _ ih t=>T.rec (motive:=fun _=>T α) (.n (ih .e) none .e) (fun l v r _ _=>.n (ih l) v r) t) p
noncomputable def T.get {α:Type}(t:T α)(k:Nat):Option α:=T.wY (DC 20 k) t
noncomputable def T.put {α:Type}(t:T α)(k:Nat)(x:Option α):T α:=T.GY x (DC 20 k) t
inductive SO where
 |add
 |sub
 |mul
 |quo
 |rem
inductive SE where
 |var (i:Nat)
 |lit (n:Int)
 |iH (op:SO) (a b:SE)
 |fH (op:SO) (a b:SE)
 |cv (k:IntKind) (a:SE)
 |dA (i:Nat)
 |jY (l e:SE) (j:Nat) (v:SE)
 |dW (l r:SE)
 |jf
 |kG (n:SE)
 |fV (v r:SE)
 |at (l e:SE) (j:Nat)
 |len (l:SE)
inductive CK where
 |int (k:IntKind)
 |bool
def SO.beq:SO→SO→Bool
 | .add,.add=>true
 | .sub,.sub=>true
 | .mul,.mul=>true
 | .quo,.quo=>true
 | .rem,.rem=>true
 |_,_=>false
def SE.beq:SE→SE→Bool
 | .var i,.var j=>Nat.beq i j
 | .lit m,.lit n=>m==n
 | .iH o a b,.iH o' a' b'=>SO.beq o o'&&(SE.beq a a'&&SE.beq b b')
 | .fH o a b,.fH o' a' b'=>SO.beq o o'&&(SE.beq a a'&&SE.beq b b')
 | .cv k a,.cv k' a'=>decide (k=k')&&SE.beq a a'
 | .dA i,.dA j=>Nat.beq i j
 | .jY l e j v,.jY l' e' j' v'=>(SE.beq l l'&&SE.beq e e')&&(Nat.beq j j'&&SE.beq v v')
 | .dW l r,.dW l' r'=>SE.beq l l'&&SE.beq r r'
 | .jf,.jf=>true
 | .kG a,.kG b=>SE.beq a b
 | .fV v r,.fV v' r'=>SE.beq v v'&&SE.beq r r'
 | .at l e j,.at l' e' j'=>SE.beq l l'&&(SE.beq e e'&&Nat.beq j j')
 | .len l,.len l'=>SE.beq l l'
 |_,_=>false
def CK.beq:CK→CK→Bool
 | .int k,.int k'=>decide (k=k')
 | .bool,.bool=>true
 |_,_=>false
def Fa:SE→SE
 | .jY l _ _ _=>Fa l
 |l=>.len l
inductive dB where
 |lt (a b:SE)
 |eq (a b:SE)
class Fc where
 facts:List (dB×Bool)
 fU:List (Nat×List Int):=[]
 dY:List (Nat×CK):=[]
def QC (i:Nat):List (Nat×CK)→Option CK
 |[]=>none
 |(x,k)::r=>match Nat.beq x i with
  |true=>some k
  |false=>QC i r
def Fc.rk [Fc](i:Nat):Option CK:=QC i Fc.dY
def sP (g:Nat):List (Nat×List Int)→Option (List Int)
 |[]=>none
 |(x,l)::r=>match Nat.beq x g with
  |true=>some l
  |false=>sP g r
def GA (a b:SE):List (dB×Bool)→Option Bool
 |[]=>none
 |(.lt x y,r)::l=>match SE.beq x a&&SE.beq y b with
  |true=>some r
  |false=>GA a b l
 |_::l=>GA a b l
def Gz (a b:SE):List (dB×Bool)→Option Bool
 |[]=>none
 |(.eq x y,r)::l=>match SE.beq x a&&SE.beq y b with
  |true=>some r
  |false=>Gz a b l
 |_::l=>Gz a b l
def BR (e:SE):List (dB×Bool)→Option Int
 |[]=>none
 |(.lt x (.lit n),false)::l=>match SE.beq x e with
  |true=>match BR e l with
   |none=>some n
   |some m=>some (if m<n then n else m)
  |false=>BR e l
 |(.lt (.lit n) x,true)::l=>match SE.beq x e with
  |true=>match BR e l with
   |none=>some (n+1)
   |some m=>some (if m<n+1 then n+1 else m)
  |false=>BR e l
 |(.eq x (.lit n),true)::l=>match SE.beq x e with
  |true=>some n
  |false=>BR e l
 |_::l=>BR e l
def BJ (e:SE):List (dB×Bool)→Option Int
 |[]=>none
 |(.lt x (.lit n),true)::l=>match SE.beq x e with
  |true=>match BJ e l with
   |none=>some (n - 1)
   |some m=>some (if n - 1<m then n - 1 else m)
  |false=>BJ e l
 |(.lt (.lit n) x,false)::l=>match SE.beq x e with
  |true=>match BJ e l with
   |none=>some n
   |some m=>some (if n<m then n else m)
  |false=>BJ e l
 |(.eq x (.lit n),true)::l=>match SE.beq x e with
  |true=>some n
  |false=>BJ e l
 |_::l=>BJ e l
def zI (lo hi:Int):Option (Int×Int):=match decide (-9223372036854775808≤lo)&&decide (hi≤9223372036854775807) with
 |true=>some (lo,hi)
 |false=>none
def Mx (fs:List (dB×Bool))(e:SE):Option (Int×Int):=match BR e fs with
 |none=>none
 |some lo=>match BJ e fs with
  |none=>none
  |some hi=>some (lo,hi)
def nH (fs:List (dB×Bool)):SE→Option (Int×Int)
 | .lit n=>some (n,n)
 | .var i=>Mx fs (.var i)
 | .at l e j=>Mx fs (.at l e j)
 | .len l=>Mx fs (.len l)
 | .iH o a b=>match nH fs a with
   |none=>none
   |some (la,ha)=>match nH fs b with
    |none=>none
    |some (lb,hb)=>match o with
     | .add=>zI (la+lb) (ha+hb)
     | .sub=>zI (la - hb) (ha - lb)
     | .mul=>match decide (0≤la)&&decide (0≤lb) with
       |true=>zI (la * lb) (ha * hb)
       |false=>none
     | .quo=>match decide (0≤la)&&decide (0<lb) with
       |true=>zI 0 ha
       |false=>none
     | .rem=>match decide (0≤la)&&decide (0<lb) with
       |true=>zI 0 (hb - 1)
       |false=>none
 | .cv k a=>match k with
   | .u64=>match nH fs a with
     |some (la,ha)=>match decide (0≤la) with
      |true=>zI la ha
      |false=>none
     |none=>none
   | .i64=>match nH fs a with
     |some (la,ha)=>zI la ha
     |none=>none
   |_=>none
 |_=>none
section
variable [Fc]
def qD (a b:SE):Option Bool:=match SE.beq a b with
 |true=>some false
 |false=>match GA a b Fc.facts with
  |some r=>some r
  |none=>match nH Fc.facts a with
   |none=>none
   |some (la,ha)=>match nH Fc.facts b with
    |none=>none
    |some (lb,hb)=>match decide (ha<lb) with
     |true=>some true
     |false=>match decide (hb≤la) with
      |true=>some false
      |false=>none
def yB (a b:SE):Option Bool:=match SE.beq a b with
 |true=>some true
 |false=>match Gz a b Fc.facts with
  |some r=>some r
  |none=>match nH Fc.facts a with
   |none=>none
   |some (la,ha)=>match nH Fc.facts b with
    |none=>none
    |some (lb,hb)=>match decide (ha<lb)||decide (hb<la) with
     |true=>some false
     |false=>none
def zM:dB→Option Bool
 | .lt a b=>qD a b
 | .eq a b=>yB a b
def Mh (e:SE):Option Int:=match nH Fc.facts e with
 |some (lo,hi)=>match lo==hi with
  |true=>some lo
  |false=>none
 |none=>none
def within (e n:SE):Bool:=match qD e (.lit 0) with
 |some false=>match qD e n with
  |some true=>true
  |_=>false
 |_=>false
end
inductive Room where
 |whole
 |any
 |ex (c:Nat)
inductive AV where
 |bool (b:Bool)
 |int (k:IntKind) (n:Int)
 |sym (k:IntKind) (e:SE)
 |jD (c:dB) (p:Bool)
 |str (s:ByteArray)
 |iL
 |iE (n:Nat) (e:SE) (s j:Nat)
 |lC (n:Nat) (e:SE) (s:Nat)
 |qB (n:Nat) (e:SE) (len s:Nat)
 |vz (i:Nat)
 |kH (i:Nat) (e:SE)
 |ptr (n off:Nat)
 |je (g off:Nat)
 |bR
 |sl (n off len sz:Nat) (r:Room)
 |mo (n:Nat)
 |tY
 |tT (e:SE)
 |bX
 |map (n:Nat)
 |fn (f:Fn) (first cap:List AV)
 |fo
 |fG
 |xP (t:TypeId) (v:AV)
 |agg (l:List AV)
 |gV (l:List AV)
def AV.one:AV→Bool
 | .agg _ | .gV _=>false
 |_=>true
def AV.cells:AV→List AV
 | .agg l=>l
 |v=>[v]
def und:AV:=.gV []
mutual
def mF:Value→Option AV
 | .bool b=>some (.bool b)
 | .int k n=>some (.int k n)
 | .string s=>some (.str s)
 | .pointer none=>some .iL
 | .slice none 0 0=>some .bR
 | .map none=>some .bX
 | .nilFunc=>some .fo
 | .nilIface=>some .fG
 | .agg cs=>(RD cs).map .agg
 | .tuple cs=>(RD cs).map .gV
 |_=>none
def RD:Array Value→Option (List AV)
 |⟨l⟩=>OI l
def OI:List Value→Option (List AV)
 |[]=>some []
 |v::l=>match mF v with
  |some x=>match OI l with
   |some xs=>some (x::xs)
   |none=>none
  |none=>none
end
inductive AO where
 |cells (cs:T AV) (k:Nat) (e:TypeId)
 |map (es:List (AV×AV)) (bs:List Nat) (ck:Nat)
 |qR (m:Option Nat) (since:Nat) (seen:List Nat) (last:Nat)
 |opq (i:Nat)
 |mG (i n m:Nat)
 |recs (l:SE) (ks:List CK) (e:TypeId)
inductive AH where
 |mk (m:T AO) (next:Nat)
def AH.get:AH→Nat→Option AO
 | .mk m _,k=>m.get k
def AH.next:AH→Nat
 | .mk _ n=>n
def AH.put:AH→Nat→Option AO→AH
 | .mk m n,k,o=>.mk (m.put k o) n
def AH.skip:AH→Nat→AH
 | .mk m n,k=>.mk m (Nat.add n k)
def ev (env:T AV):Operand→Option AV
 | .tmp t=>env.get t
 | .const v=>mF v
 | .func f=>some (.fn (.func f) [] [])
 | .global g=>some (.je g 0)
def evs (env:T AV):List Operand→Option (List AV)
 |[]=>some []
 |o::l=>match ev env o with
  |some v=>match evs env l with
   |some vs=>some (v::vs)
   |none=>none
  |none=>none
section
variable [Fc](P:Program)
def tq:AV→Option (IntKind×SE)
 | .int k n=>some (k,.lit n)
 | .sym k e=>some (k,e)
 |_=>none
def vP (t:TypeId):Option Bool:=match P.underlying t with
 |some (.struct _)|some (.array _ _)=>some true
 |some _=>some false
 |none=>none
def iA (t:TypeId):Option Nat:=match P.info? t with
 |some i=>some i.size
 |none=>none
def BZ (t:TypeId):Option AV:=match P.info? t with
 |some i=>match i.zero with
  |some v=>mF v
  |none=>none
 |none=>none
def nZ (cs:T AV):Nat→Nat→Option (List AV)
 |_,0=>some []
 |i,n+1=>match cs.get i with
  |some v=>match nZ cs (Nat.add i 1) n with
   |some l=>some (v::l)
   |none=>none
  |none=>none
def Dz (cs:T AV):Nat→List AV→T AV
 |_,[]=>cs
 |i,v::l=>Dz (cs.put i (some v)) (Nat.add i 1) l
def ZX (l:List AV):T AV:=Dz .e 0 l
def kz:List AV→Bool
 |[]=>true
 |v::l=>match v.one with
  |true=>kz l
  |false=>false
def kG:Nat→List AV→List AV
 |0,_=>[]
 |n+1,z=>z++kG n z
def part (t:TypeId)(cs:List AV)(off:Nat):Option AV:=match vP P t with
 |some true=>match iA P t with
  |some s=>some (.agg ((cs.drop off).take s))
  |none=>none
 |some false=>cs[off]?
 |none=>none
def BP (place:Nat→Option (Nat×Nat))(cells:List AV):List (Nat×AV)→Option (List AV)
 |[]=>some cells
 |(i,v)::rest=>match place i with
  |none=>none
  |some (off,size) =>
   match Nat.beq v.cells.length size with
   |false=>none
   |true=>match Nat.ble (Nat.add off size) cells.length with
    |false=>none
    |true=>BP place (cells.take off++(v.cells++cells.drop (Nat.add off size))) rest
def EE:List (Nat×Operand)→List AV→Option (List (Nat×AV))
 |[],[]=>some []
 |(i,_)::l,v::vs=>match EE l vs with
  |some r=>some ((i,v)::r)
  |none=>none
 |_,_=>none
def Ve (op:BinOp)(k:IntKind)(x y:Int):Option AV:=match op with
 | .add=>some (.int k (k.wrap (x+y)))
 | .sub=>some (.int k (k.wrap (x - y)))
 | .mul=>some (.int k (k.wrap (x * y)))
 | .quo=>match decide (y=0) with
   |true=>none
   |false=>some (.int k (k.wrap (x.tdiv y)))
 | .rem=>match decide (y=0) with
   |true=>none
   |false=>some (.int k (x.tmod y))
 | .and=>some (.int k (k.wrap (BitVec.ofInt k.bits x &&& BitVec.ofInt k.bits y).toNat))
 | .or=>some (.int k (k.wrap (BitVec.ofInt k.bits x ||| BitVec.ofInt k.bits y).toNat))
 | .xor=>some (.int k (k.wrap (BitVec.ofInt k.bits x ^^^ BitVec.ofInt k.bits y).toNat))
 | .andNot=>some (.int k (k.wrap (BitVec.ofInt k.bits x &&& ~~~(BitVec.ofInt k.bits y)).toNat))
 | .eql=>some (.bool (x==y))
 | .neq=>some (.bool (x != y))
 | .lss=>some (.bool (x<y))
 | .leq=>some (.bool (x≤y))
 | .gtr=>some (.bool (x > y))
 | .geq=>some (.bool (x≥y))
 |_=>none
def Qt (op:BinOp)(k:IntKind)(x y:Int):Option AV:=match decide (y<0) with
 |true=>none
 |false=>match op with
  | .shl=>some (.int k (k.wrap (x * 2 ^ (min y.toNat k.bits))))
  | .shr=>some (.int k (x.fdiv (2 ^ (min y.toNat k.bits))))
  |_=>none
def Qu:AV→Option Bool
 | .bool b=>some b
 | .jD c p=>match zM c with
   |some q=>some (q==p)
   |none=>none
 |_=>none
def Mr (rec:TypeId→AV→AV→Option Bool)(a b:List AV):List Field→Option Bool
 |[]=>some true
 | f :: fs => match f.name == "_" with
   |true=>none
   |false=>match part P f.type a f.offset with
    |none=>none
    |some u=>match part P f.type b f.offset with
     |none=>none
     |some v=>match rec f.type u v with
      |none=>none
      |some false=>some false
      |some true=>Mr rec a b fs
def aeq:Nat→TypeId→AV→AV→Option Bool
 |0,_,_,_=>none
 |d+1,t,x,y=>match P.underlying t with
  |some .bool=>match x,y with
   | .bool a,.bool b=>some (a==b)
   |x,y=>match Qu x with
    |none=>none
    |some a=>match Qu y with
     |none=>none
     |some b=>some (a==b)
  |some (.int _)=>match x,y with
   | .int k a,.int k' b=>match decide (k=k') with
     |true=>some (a==b)
     |false=>none
   |x,y=>match tq x,tq y with
    |some (k,a),some (k',b)=>match decide (k=k') with
     |true=>yB a b
     |false=>none
    |_,_=>none
  |some (.pointer _)=>match x,y with
   | .iL,.iL=>some true
   | .iL,.ptr _ _=>some false
   | .ptr _ _,.iL=>some false
   | .iE ..,.iL=>some false
   |_,_=>none
  |some (.slice _)=>match x,y with
   | .bR,.bR=>some true
   | .bR,.sl ..=>some false
   | .sl ..,.bR=>some false
   | .bR,.mo _=>some false
   | .mo _,.bR=>some false
   | .lC ..,.bR=>some false
   | .qB ..,.bR=>some false
   |_,_=>none
  |some (.map _ _)=>match x,y with
   | .bX,.bX=>some true
   | .bX,.map _=>some false
   | .map _,.bX=>some false
   |_,_=>none
  |some (.func _ _ _)=>match x,y with
   | .fo,.fo=>some true
   | .fo,.fn ..=>some false
   | .fn ..,.fo=>some false
   |_,_=>none
  |some (.struct fs)=>match x,y with
   | .agg a,.agg b=>match P.stoodInHeld t with
     |true=>none
     |false=>Mr P (aeq d) a b fs.toList
   |_,_=>none
  |_=>none
def Uc (t:TypeId):AV→AV→Bool
 | .agg _,.agg _=>match P.eqGuardType P.depth t with
   |true=>false
   |false=>true
 | .fG,.fG=>false
 |_,_=>true
def QH (op:BinOp)(x y:AV):Option AV:=match tq x with
 |none=>none
 |some (k,a)=>match tq y with
  |none=>none
  |some (k',b)=>match decide (k=k') with
   |false=>none
   |true=>match op with
    | .add=>match decide (k = .i64) with
      |true=>some (.sym k (.iH .add a b))
      |false=>match decide (k = .u64) with
       |true=>some (.sym k (.fH .add a b))
       |false=>none
    | .sub=>match decide (k = .i64) with
      |true=>some (.sym k (.iH .sub a b))
      |false=>match decide (k = .u64) with
       |true=>some (.sym k (.fH .sub a b))
       |false=>none
    | .mul=>match decide (k = .i64) with
      |true=>some (.sym k (.iH .mul a b))
      |false=>match decide (k = .u64) with
       |true=>some (.sym k (.fH .mul a b))
       |false=>none
    | .quo=>match decide (k = .i64) with
      |true=>match yB b (.lit 0) with
       |some false=>some (.sym k (.iH .quo a b))
       |_=>none
      |false=>none
    | .rem=>match decide (k = .i64) with
      |true=>match yB b (.lit 0) with
       |some false=>some (.sym k (.iH .rem a b))
       |_=>none
      |false=>none
    | .eql=>match yB a b with
      |some r=>some (.bool r)
      |none=>none
    | .neq=>match yB a b with
      |some r=>some (.bool (!r))
      |none=>none
    | .lss=>match qD a b with
      |some r=>some (.bool r)
      |none=>none
    | .geq=>match qD a b with
      |some r=>some (.bool (!r))
      |none=>none
    | .gtr=>match qD b a with
      |some r=>some (.bool r)
      |none=>none
    | .leq=>match qD b a with
      |some r=>some (.bool (!r))
      |none=>none
    |_=>none
def Uv (op:BinOp)(t:TypeId)(x y:AV):Option AV:=match x,y with
 | .int k a,.int k' b=>match op with
   | .shl=>Qt .shl k a b
   | .shr=>Qt .shr k a b
   |op=>match decide (k=k') with
    |true=>Ve op k a b
    |false=>none
 | .sym k a,y=>QH op (.sym k a) y
 |x,.sym k b=>QH op x (.sym k b)
 | .str _,_=>none
 |_,.str _=>none
 |x,y=>match Uc P t x y with
  |false=>none
  |true=>match op with
   | .eql=>match aeq P 40 t x y with
     |some b=>some (.bool b)
     |none=>none
   | .neq=>match aeq P 40 t x y with
     |some b=>some (.bool (!b))
     |none=>none
   |_=>none
def VA (op:UnOp)(x:AV):Option AV:=match op,x with
 | .neg,.int k n=>some (.int k (k.wrap (0 - n)))
 | .xor,.int k n=>some (.int k (k.wrap (BitVec.ofInt k.bits (if k.signed then -1 else k.max) ^^^ BitVec.ofInt k.bits n).toNat))
 | .not,.bool b=>some (.bool (!b))
 | .not,.jD c p=>some (.jD c (!p))
 |_,_=>none
def LA:List Field→Option (List (Nat×Nat))
 |[]=>some []
 |f::fs=>match iA P f.type with
  |some s=>match LA fs with
   |some r=>some ((f.offset,s)::r)
   |none=>none
  |none=>none
def BC (i:Int)(len:Nat):Option Nat:=match i with
 | .ofNat k=>match Nat.blt k len with
   |true=>some k
   |false=>none
 | .negSucc _=>none
def bnd (d:Nat)(y:Nat):Option AV→Option Nat
 |none=>some d
 |some (.int _ (.ofNat k))=>match Nat.ble k y with
  |true=>some k
  |false=>none
 |some _=>none
def JE (off:SE):Nat→SE
 |0=>off
 |k+1=>match off with
  | .lit n=>.lit (Int.add n (Int.ofNat (k+1)))
  |off=>.iH .add off (.lit (Int.ofNat (k+1)))
def UI (x y:SE):Option (SE×Nat):=match x,y with
 | .lit a,.lit b=>match b - a with
   | .ofNat k=>some (.lit a,k)
   |_=>none
 |x,.iH .add x' (.lit (.ofNat k))=>match SE.beq x x' with
  |true=>some (x,k)
  |false=>none
 |_,_=>none
def CY (e:TypeId)(x:AV)(lo hi mx:Option AV):Option AV:=match x with
 | .bR=>match bnd 0 0 mx with
   |some _=>match bnd 0 0 hi with
    |some _=>match bnd 0 0 lo with
     |some _=>match hi,mx with
      |none,some _=>none
      |_,_=>match iA P e with
       |some _=>some .bR
       |none=>none
     |none=>none
    |none=>none
   |none=>none
 | .sl n off len sz r=>match iA P e with
   |none=>none
   |some s=>match Nat.beq s sz with
    |false=>none
    |true=>match mx with
     |none=>match bnd len len hi with
      |none=>none
      |some h=>match bnd 0 h lo with
       |none=>none
       |some l=>match Nat.beq l 0 with
        |true=>some (.sl n off h sz r)
        |false=>match Nat.blt l h with
         |true=>some (.sl n (Nat.add off (Nat.mul l sz)) (Nat.sub h l) sz .any)
         |false=>some (.mo n)
     |some _=>match hi with
      |none=>none
      |some _=>match bnd 0 len mx with
       |none=>none
       |some m=>match bnd 0 m hi with
        |none=>none
        |some h=>match bnd 0 h lo with
         |none=>none
         |some l=>match Nat.beq l 0 with
          |true=>some (.sl n off h sz (.ex m))
          |false=>none
 | .lC n len sz=>match iA P e with
   |none=>none
   |some s=>match Nat.beq s sz&&Nat.blt 0 s with
    |false=>none
    |true=>match lo,hi,mx with
     |some a,some b,none=>match tq a with
      |none=>none
      |some (_,x)=>match tq b with
       |none=>none
       |some (_,y)=>match UI x y with
        |none=>none
        |some (x',k)=>match qD x' (.lit 0) with
         |some false=>match qD x' (.lit 1000000000) with
          |some true=>match Nat.blt 0 k&&Nat.blt k 1000000000 with
           |false=>none
           |true=>match qD len (.iH .add x' (.lit (Int.ofNat k))) with
            |some false=>some (.qB n x' k sz)
            |_=>match within (JE x' (Nat.sub k 1)) len with
             |true=>some (.qB n x' k sz)
             |false=>none
          |_=>none
         |_=>none
     |_,_,_=>none
 |_=>none
def ZR (e:TypeId)(cs:List AV)(len:Nat)(i:Int):Option AV:=match BC i len with
 |some k=>match iA P e with
  |some s=>part P e cs (Nat.mul k s)
  |none=>none
 |none=>none
def UL (mx:Bool):AV→AV→Option AV
 | .int k x,.int _ y=>match mx with
   |true=>some (.int k (if y > x then y else x))
   |false=>some (.int k (if y<x then y else x))
 |x,y=>match tq x with
  |none=>none
  |some (k,a)=>match tq y with
   |none=>none
   |some (k',b)=>match decide (k=k') with
    |false=>none
    |true=>match mx with
     |true=>match qD a b with
      |some true=>some y
      |some false=>some x
      |none=>none
     |false=>none
def Jj (mx:Bool):AV→List AV→Option AV
 |v,[]=>some v
 |v,w::l=>match UL mx v w with
  |some u=>Jj mx u l
  |none=>none
def LY (t:TypeId)(x:AV)(e:SE):Option AV:=match x with
 | .lC n len z=>match P.underlying t with
   |some (.slice el)=>match iA P el with
    |some s=>match Nat.beq s z with
     |true=>match within e len with
      |true=>some (.iE n e z 0)
      |false=>none
     |false=>none
    |none=>none
   |_=>none
 | .sl n off len z _=>match P.underlying t with
   |some (.slice el)=>match iA P el with
    |some s=>match Nat.beq s z&&Nat.beq off 0 with
     |true=>match within e (.lit (Int.ofNat len)) with
      |true=>some (.iE n e z 0)
      |false=>none
     |false=>none
    |none=>none
   |_=>none
 | .ptr n off=>match P.underlying t with
   |some (.array len el)=>match iA P el with
    |some s=>match Nat.beq off 0 with
     |true=>match within e (.lit (Int.ofNat len)) with
      |true=>some (.iE n e s 0)
      |false=>none
     |false=>none
    |none=>none
   |_=>none
 | .vz i=>match P.underlying t with
   |some (.slice el)=>match iA P el with
    |some s=>match Nat.beq s 1 with
     |true=>match within e (.len (.dA i)) with
      |true=>some (.kH i e)
      |false=>none
     |false=>none
    |none=>none
   |_=>none
 |_=>none
def Mw (k:CK)(v:AV):Option SE:=match k with
 | .int k=>match tq v with
   |some (k',e)=>match decide (k=k') with
    |true=>some e
    |false=>none
   |none=>none
 | .bool=>match v with
   | .bool b=>some (.lit (if b then 1 else 0))
   | .jD c p=>match zM c with
     |some b=>some (.lit (if b==p then 1 else 0))
     |none=>none
   |_=>none
def JM (k:CK)(e:SE):AV:=match k with
 | .int k=>.sym k e
 | .bool=>.jD (.eq e (.lit 0)) false
def Cn (e:SE)(j:Nat):SE→SE
 | .jY l x k v=>match Nat.beq j k with
   |false=>Cn e j l
   |true=>match yB e x with
    |some true=>v
    |some false=>match qD x (.lit 0) with
     |some false=>Cn e j l
     |_=>.at (.jY l x k v) e j
    |none=>.at (.jY l x k v) e j
 | .kG _=>.lit 0
 |l=>.at l e j
def L9 (l e:SE)(ks:List CK):Nat→Nat→Option (List AV)
 |_,0=>some []
 |j,n+1=>match ks[j]? with
  |some k=>match L9 l e ks (Nat.add j 1) n with
   |some r=>some (JM k (Cn e j l)::r)
   |none=>none
  |none=>none
def EN (l e:SE)(ks:List CK):Nat→List AV→Option SE
 |_,[]=>some l
 |j,v::vs=>match ks[j]? with
  |some k=>match Mw k v with
   |some x=>EN (.jY l e j x) e ks (Nat.add j 1) vs
   |none=>none
  |none=>none
def JF:List CK→List AV→Option SE
 |[],[]=>some .jf
 |k::ks,v::vs=>match Mw k v with
  |some x=>match JF ks vs with
   |some r=>some (.fV x r)
   |none=>none
  |none=>none
 |_,_=>none
def recAt (ks:List CK)(off:Nat):Nat×Nat:=(Nat.div off ks.length,Nat.mod off ks.length)
def Qe (agg:Bool)(s:Nat)(l e:SE)(ks:List CK)(j:Nat):Option AV:=match within e (Fa l) with
 |false=>none
 |true=>match agg with
  |true=>match L9 l e ks j s with
   |some r=>some (.agg r)
   |none=>none
  |false=>match ks[j]? with
   |some k=>some (JM k (Cn e j l))
   |none=>none
def mJ (op:Op)(vs:List AV):Option AV:=match op with
 | .move _=>match vs with
   |[v]=>some v
   |_=>none
 | .assign _=>match vs with
   |[v]=>some v
   |_=>none
 | .pick _ _ _=>match vs with
   |[.bool true,a,_]=>some a
   |[.bool false,_,b]=>some b
   |[.jD c p,a,b]=>match zM c with
    |some q=>match q==p with
     |true=>some a
     |false=>some b
    |none=>none
   |_=>none
 | .build t parts=>match EE parts.toList vs with
   |none=>none
   |some ps=>match BZ P t with
    |none=>none
    |some z=>match P.underlying t with
     |some (.struct fs)=>match LA P fs.toList with
      |none=>none
      |some pl=>match BP (fun i=>pl[i]?) z.cells ps with
       |some l=>some (.agg l)
       |none=>none
     |some (.array _ e)=>match iA P e with
      |none=>none
      |some s=>match BP (fun i=>some (Nat.mul i s,s)) z.cells ps with
       |some l=>some (.agg l)
       |none=>none
     |_=>none
 | .nilCheck _=>match vs with
   |[.ptr n o]=>some (.ptr n o)
   |[.fn (.func f) a b]=>some (.fn (.func f) a b)
   |_=>none
 | .binOp op t _ _ _=>match vs with
   |[x,y]=>Uv P op t x y
   |_=>none
 | .unOp op _ _=>match vs with
   |[x]=>VA op x
   |_=>none
 | .convert src dst _=>match vs with
   |[.int _ n]=>match P.underlying src with
    |none=>none
    |some _=>match P.underlying dst with
     |some (.int k)=>some (.int k (k.wrap n))
     |_=>none
   |[.sym _ e]=>match P.underlying src with
    |none=>none
    |some _=>match P.underlying dst with
     |some (.int k)=>some (.sym k (.cv k e))
     |_=>none
   |_=>none
 | .makeFunc fn first _=>some (.fn fn (vs.take first.size) (vs.drop first.size))
 | .slice t _ lo hi mx=>match P.underlying t with
   |some (.slice e)=>match vs,lo,hi,mx with
    |[x],none,none,none=>CY P e x none none none
    |[x,a],some _,none,none=>CY P e x (some a) none none
    |[x,a],none,some _,none=>CY P e x none (some a) none
    |[x,a,b],some _,some _,none=>CY P e x (some a) (some b) none
    |[x,a,b],none,some _,some _=>CY P e x none (some a) (some b)
    |[x,a,b,c],some _,some _,some _=>CY P e x (some a) (some b) (some c)
    |_,_,_,_=>none
   |_=>none
 | .fieldAddr s _ f=>match vs with
   |[.ptr n off]=>match P.underlying s with
    |some (.struct fs)=>match fs[f]? with
     |some fd=>match iA P fd.type with
      |some (_+1)=>some (.ptr n (Nat.add off fd.offset))
      |_=>none
     |none=>none
    |_=>none
   |[.iE n e z j]=>match P.underlying s with
    |some (.struct fs)=>match fs[f]? with
     |some fd=>match iA P fd.type with
      |some (_+1)=>some (.iE n e z (Nat.add j fd.offset))
      |_=>none
     |none=>none
    |_=>none
   |_=>none
 | .field t _ f=>match vs with
   |[.agg cs]=>match P.underlying t with
    |some (.struct fs)=>match fs[f]? with
     |some fd=>part P fd.type cs fd.offset
     |none=>none
    |_=>none
   |_=>none
 | .indexAddr t _ _=>match vs with
   |[.sl n off len sz _,.int _ i]=>match P.underlying t with
    |some (.slice e)=>match BC i len with
     |some k=>match iA P e with
      |some s=>match Nat.beq s sz with
       |true=>some (.ptr n (Nat.add off (Nat.mul k s)))
       |false=>none
      |none=>none
     |none=>none
    |_=>none
   |[.ptr n off,.int _ i]=>match P.underlying t with
    |some (.array len e)=>match BC i len with
     |some k=>match iA P e with
      |some s=>some (.ptr n (Nat.add off (Nat.mul k s)))
      |none=>none
     |none=>none
    |_=>none
   |[.je n off,.int _ i]=>match P.underlying t with
    |some (.array len e)=>match BC i len with
     |some k=>match iA P e with
      |some s=>some (.je n (Nat.add off (Nat.mul k s)))
      |none=>none
     |none=>none
    |_=>none
   |[.qB n off len z,.int _ i]=>match P.underlying t with
    |some (.slice el)=>match BC i len with
     |some k=>match iA P el with
      |some s=>match Nat.beq s z with
       |true=>some (.iE n (JE off k) z 0)
       |false=>none
      |none=>none
     |none=>none
    |_=>none
   |[.sl n off len sz r,.sym _ e]=>match Mh e with
    |none=>LY P t (.sl n off len sz r) e
    |some i=>match P.underlying t with
     |some (.slice el)=>match BC i len with
      |some k=>match iA P el with
       |some s=>match Nat.beq s sz with
        |true=>some (.ptr n (Nat.add off (Nat.mul k s)))
        |false=>none
       |none=>none
      |none=>none
     |_=>none
   |[.ptr n off,.sym _ e]=>match Mh e with
    |none=>LY P t (.ptr n off) e
    |some i=>match P.underlying t with
     |some (.array len el)=>match BC i len with
      |some k=>match iA P el with
       |some s=>some (.ptr n (Nat.add off (Nat.mul k s)))
       |none=>none
      |none=>none
     |_=>none
   |[.je n off,.sym _ e]=>match Mh e with
    |none=>none
    |some i=>match P.underlying t with
     |some (.array len el)=>match BC i len with
      |some k=>match iA P el with
       |some s=>some (.je n (Nat.add off (Nat.mul k s)))
       |none=>none
      |none=>none
     |_=>none
   |[x,y]=>match tq y with
    |none=>none
    |some (_,e)=>LY P t x e
   |_=>none
 | .index t _ _=>match vs with
   |[.agg cs,.int _ i]=>match P.underlying t with
    |some (.array len e)=>ZR P e cs len i
    |_=>none
   |_=>none
 | .extract _ i=>match vs with
   |[.gV l]=>l[i]?
   |_=>none
 | .makeInterface t _=>match vs with
   |[v]=>match P.underlying t with
    |some (.interface _)=>none
    |some _=>some (.xP t v)
    |none=>none
   |_=>none
 | .typeAssert _ _ t ok=>match vs with
   |[.xP t' v]=>match P.underlying t with
    |some (.interface _)=>none
    |some _=>match Nat.beq t' t with
     |true=>match ok with
      |true=>some (.gV [v,.bool true])
      |false=>some v
     |false=>match ok with
      |true=>match BZ P t with
       |some z=>some (.gV [z,.bool false])
       |none=>none
      |false=>none
    |none=>none
   |_=>none
 | .call c=>match c.callee with
   | .builtin .max=>match vs with
     |v::l=>Jj true v l
     |_=>none
   | .builtin .min=>match vs with
     |v::l=>Jj false v l
     |_=>none
   |_=>none
 |_=>none
def Mj (k:IntKind)(e:SE):List (AV×AV)→Option (Option (Nat×AV))
 |[]=>some none
 |(x,v)::es=>match tq x with
  |none=>none
  |some (k',e')=>match decide (k=k') with
   |false=>none
   |true=>match yB e e' with
    |some true=>some (some (0,v))
    |some false=>match Mj k e es with
     |some (some (n,u))=>some (some (Nat.add n 1,u))
     |r=>r
    |none=>none
def UC (es:List (AV×AV))(y:AV):Option (Option (Nat×AV)):=match tq y with
 |some (k,e)=>Mj k e es
 |none=>none
def QA:AV→Option Value
 | .bool b=>some (.bool b)
 | .int k n=>some (.int k n)
 |_=>none
def EW:List AV→Option (List Value)
 |[]=>some []
 |v::l=>match QA v with
  |some x=>match EW l with
   |some xs=>some (x::xs)
   |none=>none
  |none=>none
def MB:AV→Option Value
 | .agg l=>match EW l with
   |some vs=>some (.agg vs.toArray)
   |none=>none
 |_=>none
def ZtY (kt:TypeId)(y:AV):Bool:=match MB y with
 |some v=>P.keyTypeAt 20 kt&&(v.formed P kt&&(P.keyLits 20 kt v.cells.toList).isSome)
 |none=>false
def Mi (beq:AV→AV→Bool)(kt:TypeId)(y:AV):List (AV×AV)→Option (Option (Nat×AV))
 |[]=>some none
 |(x,v)::es=>match aeq P 40 kt y x with
  |some true=>match beq y x with
   |true=>some (some (0,v))
   |false=>none
  |some false=>match Mi beq kt y es with
   |some (some (n,u))=>some (some (Nat.add n 1,u))
   |r=>r
  |none=>none
def EU (y x:AV):Bool:=match y,x with
 | .agg a,.agg b=>go a b
 |_,_=>false
where
 go:List AV→List AV→Bool
 |[],[]=>true
 | .int k n::a,.int k' n'::b=>decide (k=k')&&(n==n'&&go a b)
 |_,_=>false
def vO (kt:TypeId)(es:List (AV×AV))(y:AV):Option (Option (Nat×AV)):=match P.underlying kt with
 |some (.int _)=>UC es y
 |some (.struct _)=>match ZtY P kt y with
  |true=>Mi P EU kt y es
  |false=>none
 |_=>none
def leftOf:List (AV×AV)→List Nat→List Nat→List (AV×AV×Nat)
 |(k,v)::es,b::bs,seen=>match seen.contains b with
  |true=>leftOf es bs seen
  |false=>(k,v,b)::leftOf es bs seen
 |_,_,_=>[]
def lastOf:List Nat→Option Nat
 |[]=>none
 |b::l=>match lastOf l with
  |some c=>some c
  |none=>some b
def Jn (b:Nat):List (AV×AV)→List Nat→Option (AV×AV)
 |p::es,c::bs=>match Nat.beq c b with
  |true=>some p
  |false=>Jn b es bs
 |_,_=>none
def UD (bs seen:List Nat)(last:Nat):Bool:=seen.isEmpty||(bs.isEmpty||bs.any fun b=>Nat.blt b last)
def yA (op:Op)(vs:List AV)(h:AH):Option AV:=match op with
 | .load t _=>match vs with
   |[.ptr n off]=>match h.get n with
    |some (.cells cs _ _)=>match vP P t with
     |some true=>match iA P t with
      |some s=>match nZ cs off s with
       |some l=>some (.agg l)
       |none=>none
      |none=>none
     |some false=>cs.get off
     |none=>none
    |some (.recs l ks _)=>match vP P t with
     |some b=>match iA P t with
      |some s=>match Nat.blt 0 ks.length with
       |true=>Qe b s l (.lit (Int.ofNat (recAt ks off).1)) ks (recAt ks off).2
       |false=>none
      |none=>none
     |none=>none
    |_=>none
   |[.iE n e z j]=>match h.get n with
    |some (.recs l ks _)=>match Nat.beq z ks.length with
     |true=>match vP P t with
      |some b=>match iA P t with
       |some s=>Qe b s l e ks j
       |none=>none
      |none=>none
     |false=>none
    |_=>none
   |[.kH i e]=>match vP P t with
    |some false=>match Fc.rk i with
     |some k=>some (JM k (.at (.dA i) e 0))
     |none=>none
    |_=>none
   |[.je g off]=>match sP g Fc.fU with
    |some l=>match vP P t with
     |some false=>match l[off]? with
      |some c=>some (.int .i64 c)
      |none=>none
     |_=>none
    |none=>none
   |_=>none
 | .entry _=>match vs with
   |[.ptr n 0]=>match h.get n with
    |some (.qR (some m) _ seen last)=>match h.get m with
     |some (.map es bs ck)=>match Nat.beq ck last with
      |true=>match lastOf seen with
       |some b=>match Jn b es bs with
        |some (k,v)=>some (.gV [k,v])
        |none=>none
       |none=>none
      |false=>none
     |_=>none
    |_=>none
   |_=>none
 | .lookup t _ _ ok=>match P.underlying t with
   |some (.map kt e)=>match vs with
    |[x,y]=>match (match x with
      | .bX=>some []
      | .map n=>match h.get n with
        |some (.map es _ _)=>some es
        |_=>none
      |_=>none) with
     |none=>none
     |some es=>match vO P kt es y with
      |none=>none
      |some (some (_,v))=>match ok with
       |true=>some (.gV [v,.bool true])
       |false=>some v
      |some none=>match BZ P e with
       |none=>none
       |some z=>match ok with
        |true=>some (.gV [z,.bool false])
        |false=>some z
    |_=>none
   |_=>none
 | .call c=>match c.callee with
   | .builtin .len=>match vs,c.argTypes[0]? with
     |[x],some t=>match P.underlying t with
      |some (.slice _)=>match x with
       | .bR=>some (.int .i64 0)
       | .mo _=>some (.int .i64 0)
       | .tY=>some (.int .i64 0)
       | .tT e=>some (.sym .i64 e)
       | .sl _ _ len _ _=>some (.int .i64 (Int.ofNat len))
       | .lC _ e _=>some (.sym .i64 e)
       | .qB _ _ len _=>some (.int .i64 (Int.ofNat len))
       | .vz i=>some (.sym .i64 (.len (.dA i)))
       |_=>none
      |some (.array n _)=>some (.int .i64 (Int.ofNat n))
      |some (.map _ _)=>match x with
       | .bX=>some (.int .i64 0)
       | .map n=>match h.get n with
         |some (.map es _ _)=>some (.int .i64 (Int.ofNat es.length))
         |_=>none
       |_=>none
      |_=>none
     |_,_=>none
   |_=>none
 |_=>none
inductive AK where
 |ptr
 |sl (len sz:Nat)
 |lC (len:SE) (sz:Nat)
 |map
def AK.at (k:AK)(n:Nat):AV:=match k with
 | .ptr=>.ptr n 0
 | .sl len sz=>.sl n 0 len sz .whole
 | .lC len sz=>.lC n len sz
 | .map=>.map n
def cellsOf (e:TypeId)(l:List AV):AO:=.cells (ZX l) l.length e
def BH (op:Op)(vs:List AV):Option (AO×AK):=match op with
 | .alloc t=>match BZ P t with
   |some z=>match kz z.cells with
    |true=>some (cellsOf t z.cells,.ptr)
    |false=>none
   |none=>none
 | .box t _=>match vs with
   |[v]=>match kz v.cells with
    |true=>some (cellsOf t v.cells,.ptr)
    |false=>none
   |_=>none
 | .buildSlice t len parts=>match P.underlying t with
   |some (.slice e)=>match iA P e with
    |none=>none
    |some s=>match Nat.ble (Nat.mul len s) 16777216&&Nat.ble len 16777216 with
     |false=>none
     |true=>match BZ P e with
      |none=>none
      |some z=>match Nat.beq z.cells.length s with
       |false=>none
       |true=>match EE parts.toList vs with
        |none=>none
        |some ps=>match BP (fun i=>some (Nat.mul i s,s)) (kG len z.cells) ps with
         |none=>none
         |some l=>match kz l with
          |true=>some (cellsOf e l,.sl len s)
          |false=>none
   |_=>none
 | .makeMap _ r=>match r with
   |none=>match vs with
    |[]=>some (.map [] [] 0,.map)
    |_=>none
   |some _=>none
 | .makeSlice t _ _=>match P.underlying t with
   |some (.slice e)=>match P.info? e with
    |none=>none
    |some i=>match vs with
     |[.int _ (.ofNat l),.int _ (.ofNat c)]=>match Nat.ble l c with
      |false=>none
      |true=>match Nat.ble (Nat.mul i.bytes c) 281474976710656 with
       |false=>none
       |true=>match Nat.ble c 9223372036854775807 with
        |false=>none
        |true=>match BZ P e with
         |none=>none
         |some z=>match Nat.beq z.cells.length i.size with
          |false=>none
          |true=>match Nat.blt 0 i.size with
           |false=>none
           |true=>match kz z.cells with
            |true=>some (cellsOf e (kG c z.cells),.sl l i.size)
            |false=>none
     |[.sym _ a,.sym _ b]=>match SE.beq a b with
      |false=>none
      |true=>match qD a (.lit 0) with
       |some false=>match qD a (.lit 16777216) with
        |some true=>match Nat.ble i.bytes 16777216 with
         |false=>none
         |true=>match BZ P e with
          |some (.int k 0)=>match Nat.beq i.size 1 with
           |true=>some (.recs (.kG a) [.int k] e,.lC a 1)
           |false=>none
          |_=>none
        |_=>none
       |_=>none
     |_=>none
   |_=>none
 |_=>none
inductive AN where
 |val (v:AV) (h:AH)
 |call (f:FuncId) (args:List AV)
def TE (h:AH)(s:Nat):AV→Option (Nat×List AV)
 | .bR=>some (0,[])
 | .mo _=>some (0,[])
 | .sl n off len sz _=>match Nat.beq sz s with
   |false=>none
   |true=>match h.get n with
    |some (.cells cs _ _)=>match nZ cs off (Nat.mul len sz) with
     |some l=>some (len,l)
     |none=>none
    |_=>none
 |_=>none
def fresh (h:AH)(o:AO):Option AH:=match Nat.blt h.next 1000000 with
 |true=>some ((h.put h.next (some o)).skip 1)
 |false=>none
def Ul (t:TypeId)(s x:AV)(h:AH):Option (AV×AH):=match P.underlying t with
 |some (.slice e)=>match P.info? e with
  |none=>none
  |some i=>match Nat.blt 0 i.size with
   |false=>none
   |true=>match i.zero with
    |none=>none
    |some z=>match Nat.beq z.cells.size i.size with
     |false=>none
     |true=>match TE h i.size x with
      |none=>none
      |some (0,_)=>match s with
       | .bR=>some (.bR,h)
       | .mo n=>some (.mo n,h)
       | .sl n off len sz r=>some (.sl n off len sz r,h)
       |_=>none
      |some (m,news)=>match s with
       | .bR=>match Nat.ble m 9223372036854775807 with
         |false=>none
         |true=>match Nat.ble (Nat.mul m i.bytes) 140737488355328 with
          |false=>none
          |true=>match fresh h (cellsOf e news) with
           |some h'=>some (.sl h.next 0 m i.size .whole,h')
           |none=>none
       | .sl n 0 len sz r=>match Nat.beq sz i.size with
         |false=>none
         |true=>match h.get n with
          |some (.cells cs k e')=>match Nat.beq e' e with
           |false=>none
           |true=>match Nat.ble (Nat.add len m) 9223372036854775807 with
            |false=>none
            |true=>match Nat.ble (Nat.mul (Nat.add len m) i.bytes) 140737488355328 with
             |false=>none
             |true=>match r with
              | .whole=>match Nat.ble (Nat.mul (Nat.add len m) sz) k with
                |true=>some (.sl n 0 (Nat.add len m) sz .whole,h.put n (some (.cells (Dz cs (Nat.mul len sz) news) k e')))
                |false=>match nZ cs 0 (Nat.mul len sz) with
                 |none=>none
                 |some olds=>match fresh (h.put n none) (cellsOf e (olds++news)) with
                  |some h'=>some (.sl h.next 0 (Nat.add len m) sz .whole,h')
                  |none=>none
              | .ex c=>match Nat.blt c (Nat.add len m) with
                |false=>none
                |true=>match nZ cs 0 (Nat.mul len sz) with
                 |none=>none
                 |some olds=>match fresh h (cellsOf e (olds++news)) with
                  |some h'=>some (.sl h.next 0 (Nat.add len m) sz .whole,h')
                  |none=>none
              | .any=>none
          |_=>none
       | .lC n e' sz=>match Nat.beq sz i.size with
         |false=>none
         |true=>match Nat.beq m 1 with
          |false=>none
          |true=>match h.get n with
           |some (.recs l ks e0)=>match Nat.beq e0 e&&Nat.beq ks.length sz with
            |false=>none
            |true=>match SE.beq e' (Fa l) with
             |false=>none
             |true=>match qD e' (.lit 1000000) with
              |some true=>match Nat.ble i.bytes 1000000 with
               |false=>none
               |true=>match JF ks news with
                |none=>none
                |some r=>match fresh (h.put n none) (.recs (.dW l r) ks e) with
                 |some h'=>some (.lC h.next (Fa (.dW l r)) sz,h')
                 |none=>none
              |_=>none
           |_=>none
       |_=>none
 |_=>none
def idxOf (b:Nat):List Nat→Option Nat
 |[]=>none
 |c::l=>match Nat.beq c b with
  |true=>some 0
  |false=>match idxOf b l with
   |some j=>some (Nat.add j 1)
   |none=>none
def aloud (op:Op)(vs:List AV)(h:AH):Option AN:=match op with
 | .store t _ _=>match vs with
   |[.ptr n off,v]=>match iA P t with
    |none=>none
    |some s=>match Nat.beq v.cells.length s with
     |false=>none
     |true=>match kz v.cells with
      |false=>none
      |true=>match h.get n with
       |some (.cells cs k e)=>match Nat.ble (Nat.add off s) k with
        |false=>none
        |true=>some (.val und (h.put n (some (.cells (Dz cs off v.cells) k e))))
       |some (.recs l ks e)=>match Nat.blt 0 ks.length with
        |true=>iX n l (.lit (Int.ofNat (recAt ks off).1)) ks e (recAt ks off).2 v h
        |false=>none
       |_=>none
   |[.iE n x z j,v]=>match iA P t with
    |none=>none
    |some s=>match Nat.beq v.cells.length s with
     |false=>none
     |true=>match kz v.cells with
      |false=>none
      |true=>match h.get n with
       |some (.recs l ks e)=>match Nat.beq z ks.length with
        |true=>iX n l x ks e j v h
        |false=>none
       |_=>none
   |_=>none
 | .mapUpdate t _ _ _=>lH t vs h
 | .insert t _ _ _=>lH t vs h
 | .mapEntry t _ _=>qz t vs h
 | .entryStore _ _ _ _=>qg vs h
 | .range t _=>match P.underlying t with
   |some (.map _ _)=>qc vs h
   |_=>none
 | .next _ st=>match st with
   |true=>none
   |false=>vW vs h
 | .call c=>match c.callee with
   | .value _=>match vs with
     | .fn (.func f) a b::args=>some (.call f (a++(args++b)))
     |_=>none
   | .builtin .delete=>match c.argTypes[0]? with
     |some t=>nV t vs h
     |none=>none
   | .builtin .append=>match vs,c.argTypes with
     |[s,x],⟨[t,t']⟩=>match Nat.beq t t' with
      |false=>none
      |true=>match Ul P t s x h with
       |some (v,h')=>some (.val v h')
       |none=>none
     |_,_=>none
   |_=>none
 |_=>none
where
 iX (n:Nat) (l x:SE) (ks:List CK) (e:TypeId) (j:Nat) (v:AV) (h:AH):Option AN:=match within x (Fa l) with
  |false=>none
  |true=>match EN l x ks j v.cells with
   |some l'=>some (.val und (h.put n (some (.recs l' ks e))))
   |none=>none
 qc (vs:List AV) (h:AH):Option AN:=match vs with
  |[.bX]=>match fresh h (.qR none 0 [] 0) with
   |some h'=>some (.val (.ptr h.next 0) h')
   |none=>none
  |[.map n]=>match h.get n with
   |some (.map _ _ ck)=>match fresh h (.qR (some n) ck [] ck) with
    |some h'=>some (.val (.ptr h.next 0) h')
    |none=>none
   |_=>none
  |_=>none
 vW (vs:List AV) (h:AH):Option AN:=match vs with
  |[.ptr n 0]=>match h.get n with
   |some (.qR none _ _ _)=>some (.val (.gV [.bool false]) h)
   |some (.qR (some m) since seen last)=>match h.get m with
    |some (.map es bs ck)=>match UD bs seen last with
     |false=>none
     |true=>match leftOf es bs seen with
      |[]=>some (.val (.gV [.bool false]) h)
      |[(k,v,b)]=>match Nat.blt b since with
       |true=>some (.val (.gV [.bool true,k,v]) (h.put n (some (.qR (some m) since (seen++[b]) ck))))
       |false=>none
      |_=>none
    |_=>none
   |_=>none
  |_=>none
 nV (t:TypeId) (vs:List AV) (h:AH):Option AN:=match P.underlying t with
  |some (.map kt _)=>match vs with
   |[.map n,y]=>match h.get n with
    |some (.map es bs ck)=>match vO P kt es y with
     |none=>none
     |some none=>some (.val und (h.put n (some (.map es bs ck))))
     |some (some (j,_))=>some (.val und (h.put n (some (.map (es.eraseIdx j) (bs.eraseIdx j) ck))))
    |_=>none
   |_=>none
  |_=>none
 lH (t:TypeId) (vs:List AV) (h:AH):Option AN:=match P.underlying t with
  |some (.map kt _)=>match vs with
   |[.map n,y,v]=>match h.get n with
    |some (.map es bs ck)=>match vO P kt es y with
     |none=>none
     |some (some (j,_))=>some (.val und (h.put n (some (.map (es.modify j fun p=>(p.1,v)) bs ck))))
     |some none=>some (.val und (h.put n (some (.map (es++[(y,v)]) (bs++[ck]) (Nat.add ck 1)))))
    |_=>none
   |_=>none
  |_=>none
 qz (t:TypeId) (vs:List AV) (h:AH):Option AN:=match P.underlying t with
  |some (.map kt e)=>match vs with
   |[.map n,y]=>match h.get n with
    |some (.map es bs ck)=>match vO P kt es y with
     |none=>none
     |some (some (j,v))=>match (bs[j]?:Option Nat) with
      |some b=>some (.val (.gV [v,.int .i64 (Int.ofNat b)]) (h.put n (some (.map es bs ck))))
      |none=>none
     |some none=>match BZ P e with
      |none=>none
      |some z=>some (.val (.gV [z,.int .i64 (Int.ofNat ck)]) (h.put n (some (.map (es++[(y,z)]) (bs++[ck]) (Nat.add ck 1)))))
    |_=>none
   |_=>none
  |_=>none
 qg (vs:List AV) (h:AH):Option AN:=match vs with
  |[.map n,.int _ (.ofNat b),v]=>match h.get n with
   |some (.map es bs ck)=>match idxOf b bs with
    |some j=>some (.val und (h.put n (some (.map (es.modify j fun p=>(p.1,v)) bs ck))))
    |none=>none
   |_=>none
  |_=>none
inductive Kd where
 |pure
 |read
 |alloc
 |loud
def kd:Op→Kd
 | .load .. | .lookup .. | .entry _=>.read
 | .alloc _ | .box .. | .buildSlice .. | .makeMap .. | .makeSlice ..=>.alloc
 | .store .. | .mapUpdate .. | .insert .. | .mapEntry .. | .entryStore .. | .range .. | .next ..=>.loud
 | .call c=>match c.callee with
   | .builtin .len=>.read
   | .builtin .append=>.loud
   | .builtin .delete=>.loud
   | .builtin _=>.pure
   |_=>.loud
 |_=>.pure
end
end
end Ex
end Go.Proofs.YtfcpdlbkmkhhcaaGreatDoor
