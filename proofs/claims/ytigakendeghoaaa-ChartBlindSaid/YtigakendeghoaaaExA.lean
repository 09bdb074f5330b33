/-
  A runner of calls without inputs: it runs the model's code over memory whose blocks bear names. Here: what it computes. No condition.
-/
import Derived.Test.YtigakendeghoaaaRows
import Derived.WalkKit
import Derived.ProofKit
namespace Go.Proofs.Ytigakendeghoaaa.Ex
open Go
noncomputable section

/-- a table by number -/
inductive T (α : Type) where
  | e
  | n (l : T α) (v : Option α) (r : T α)
/-- where a number's value lies -/
inductive Ps where
  | x
  | h
  | o (p : Ps)
  | i (p : Ps)
/-- numbers below 2^20 - 1 are served -/
def top : Nat := 1048575
def toPs : Nat → Nat → Ps
  | 0, _ => .x
  | d + 1, k => match Nat.beq k 0 with
    | true => .h
    | false => match Nat.beq (Nat.mod k 2) 1 with
      | true => .i (toPs d (Nat.div k 2))
      | false => .o (toPs d (Nat.sub (Nat.div k 2) 1))
noncomputable def T.getP {α : Type} (p : Ps) : T α → Option α :=
  Ps.rec (motive := fun _ => T α → Option α) (fun _ => none)
    (fun t => T.rec (motive := fun _ => Option α) none (fun _ v _ _ _ => v) t)
    (fun _ ih t => T.rec (motive := fun _ => Option α) none (fun _ _ r _ _ => ih r) t)
    (fun _ ih t => T.rec (motive := fun _ => Option α) none (fun l _ _ _ _ => ih l) t) p
noncomputable def T.setP {α : Type} (x : Option α) (p : Ps) : T α → T α :=
  Ps.rec (motive := fun _ => T α → T α) (fun t => t)
    (fun t => T.rec (motive := fun _ => T α) (.n .e x .e) (fun l _ r _ _ => .n l x r) t)
    (fun _ ih t => T.rec (motive := fun _ => T α) (.n .e none (ih .e)) (fun l v r _ _ => .n l v (ih r)) t)
    (fun _ ih t => T.rec (motive := fun _ => T α) (.n (ih .e) none .e) (fun l v r _ _ => .n (ih l) v r) t) p
noncomputable def T.get {α : Type} (t : T α) (k : Nat) : Option α := T.getP (toPs 20 k) t
noncomputable def T.put {α : Type} (t : T α) (k : Nat) (x : Option α) : T α := T.setP x (toPs 20 k) t

/-- a number that is not known -/
inductive SO where
  | add
  | sub
  | mul
inductive SE where
  | var (i : Nat)
  | lit (n : Int)
  | bin (op : SO) (a b : SE)
  | ubin (op : SO) (a b : SE)
  | cv (k : IntKind) (a : SE)
def SO.beq : SO → SO → Bool
  | .add, .add => true
  | .sub, .sub => true
  | .mul, .mul => true
  | _, _ => false
def SE.beq : SE → SE → Bool
  | .var i, .var j => Nat.beq i j
  | .lit m, .lit n => m == n
  | .bin o a b, .bin o' a' b' => SO.beq o o' && (SE.beq a a' && SE.beq b b')
  | .ubin o a b, .ubin o' a' b' => SO.beq o o' && (SE.beq a a' && SE.beq b b')
  | .cv k a, .cv k' a' => decide (k = k') && SE.beq a a'
  | _, _ => false
/-- what may be known of numbers -/
inductive Cnd where
  | lt (a b : SE)
  | eq (a b : SE)
/-- what is known of them -/
class Fc where
  facts : List (Cnd × Bool)
  /-- package-level tables of numbers that nobody changes -/
  globs : List (Nat × List Int) := []
def findG (g : Nat) : List (Nat × List Int) → Option (List Int)
  | [] => none
  | (x, l) :: r => match Nat.beq x g with
    | true => some l
    | false => findG g r
def findLt (a b : SE) : List (Cnd × Bool) → Option Bool
  | [] => none
  | (.lt x y, r) :: l => match SE.beq x a && SE.beq y b with
    | true => some r
    | false => findLt a b l
  | _ :: l => findLt a b l
def findEq (a b : SE) : List (Cnd × Bool) → Option Bool
  | [] => none
  | (.eq x y, r) :: l => match SE.beq x a && SE.beq y b with
    | true => some r
    | false => findEq a b l
  | _ :: l => findEq a b l
/-- bounds of a number -/
def lowOf (e : SE) : List (Cnd × Bool) → Option Int
  | [] => none
  | (.lt x (.lit n), false) :: l => match SE.beq x e with
    | true => match lowOf e l with
      | none => some n
      | some m => some (if m < n then n else m)
    | false => lowOf e l
  | (.lt (.lit n) x, true) :: l => match SE.beq x e with
    | true => match lowOf e l with
      | none => some (n + 1)
      | some m => some (if m < n + 1 then n + 1 else m)
    | false => lowOf e l
  | (.eq x (.lit n), true) :: l => match SE.beq x e with
    | true => some n
    | false => lowOf e l
  | _ :: l => lowOf e l
def highOf (e : SE) : List (Cnd × Bool) → Option Int
  | [] => none
  | (.lt x (.lit n), true) :: l => match SE.beq x e with
    | true => match highOf e l with
      | none => some (n - 1)
      | some m => some (if n - 1 < m then n - 1 else m)
    | false => highOf e l
  | (.lt (.lit n) x, false) :: l => match SE.beq x e with
    | true => match highOf e l with
      | none => some n
      | some m => some (if n < m then n else m)
    | false => highOf e l
  | (.eq x (.lit n), true) :: l => match SE.beq x e with
    | true => some n
    | false => highOf e l
  | _ :: l => highOf e l
def inI64 (lo hi : Int) : Option (Int × Int) := match decide (-9223372036854775808 ≤ lo) && decide (hi ≤ 9223372036854775807) with
  | true => some (lo, hi)
  | false => none
def ivOf (fs : List (Cnd × Bool)) : SE → Option (Int × Int)
  | .lit n => some (n, n)
  | .var i => match lowOf (.var i) fs with
    | none => none
    | some lo => match highOf (.var i) fs with
      | none => none
      | some hi => some (lo, hi)
  | .bin o a b => match ivOf fs a with
    | none => none
    | some (la, ha) => match ivOf fs b with
      | none => none
      | some (lb, hb) => match o with
        | .add => inI64 (la + lb) (ha + hb)
        | .sub => inI64 (la - hb) (ha - lb)
        | .mul => match decide (0 ≤ la) && decide (0 ≤ lb) with
          | true => inI64 (la * lb) (ha * hb)
          | false => none
  | .ubin _ _ _ => none
  | .cv _ _ => none
section
variable [Fc]
def askLt (a b : SE) : Option Bool := match SE.beq a b with
  | true => some false
  | false => match findLt a b Fc.facts with
    | some r => some r
    | none => match ivOf Fc.facts a with
      | none => none
      | some (la, ha) => match ivOf Fc.facts b with
        | none => none
        | some (lb, hb) => match decide (ha < lb) with
          | true => some true
          | false => match decide (hb ≤ la) with
            | true => some false
            | false => none
def askEq (a b : SE) : Option Bool := match SE.beq a b with
  | true => some true
  | false => match findEq a b Fc.facts with
    | some r => some r
    | none => match ivOf Fc.facts a with
      | none => none
      | some (la, ha) => match ivOf Fc.facts b with
        | none => none
        | some (lb, hb) => match decide (ha < lb) || decide (hb < la) with
          | true => some false
          | false => none
end
/-- what is known of a slice's room -/
inductive Room where
  | whole
  | any
  | ex (c : Nat)
/-- a value over named blocks -/
inductive AV where
  | bool (b : Bool)
  | int (k : IntKind) (n : Int)
  | sym (k : IntKind) (e : SE)
  | str (s : ByteArray)
  | nilp
  | ptr (n off : Nat)
  | gptr (g off : Nat)
  | nilsl
  | sl (n off len sz : Nat) (r : Room)
  | esl (n : Nat)
  | nilmap
  | map (n : Nat)
  | fn (f : Fn) (first cap : List AV)
  | nilfn
  | nilif
  | ifc (t : TypeId) (v : AV)
  | agg (l : List AV)
  | tup (l : List AV)

def AV.one : AV → Bool
  | .agg _ | .tup _ => false
  | _ => true
def AV.cells : AV → List AV
  | .agg l => l
  | v => [v]
def und : AV := .tup []

mutual
/-- a constant of the text -/
def ofV : Value → Option AV
  | .bool b => some (.bool b)
  | .int k n => some (.int k n)
  | .string s => some (.str s)
  | .pointer none => some .nilp
  | .slice none 0 0 => some .nilsl
  | .map none => some .nilmap
  | .nilFunc => some .nilfn
  | .nilIface => some .nilif
  | .agg cs => (ofA cs).map .agg
  | .tuple cs => (ofA cs).map .tup
  | _ => none
def ofA : Array Value → Option (List AV)
  | ⟨l⟩ => ofL l
def ofL : List Value → Option (List AV)
  | [] => some []
  | v :: l => match ofV v with
    | some x => match ofL l with
      | some xs => some (x :: xs)
      | none => none
    | none => none
end

/-- a block -/
inductive AO where
  | cells (cs : T AV) (k : Nat) (e : TypeId)
  | map (es : List (AV × AV))
inductive AH where
  | mk (m : T AO) (next : Nat)
def AH.get : AH → Nat → Option AO
  | .mk m _, k => m.get k
def AH.next : AH → Nat
  | .mk _ n => n
def AH.put : AH → Nat → Option AO → AH
  | .mk m n, k, o => .mk (m.put k o) n
def AH.skip : AH → Nat → AH
  | .mk m n, k => .mk m (Nat.add n k)

def ev (env : T AV) : Operand → Option AV
  | .tmp t => env.get t
  | .const v => ofV v
  | .func f => some (.fn (.func f) [] [])
  | .global g => some (.gptr g 0)
def evs (env : T AV) : List Operand → Option (List AV)
  | [] => some []
  | o :: l => match ev env o with
    | some v => match evs env l with
      | some vs => some (v :: vs)
      | none => none
    | none => none

section
variable [Fc] (P : Program)
def toSE : AV → Option (IntKind × SE)
  | .int k n => some (k, .lit n)
  | .sym k e => some (k, e)
  | _ => none
def aggT (t : TypeId) : Option Bool := match P.underlying t with
  | some (.struct _) | some (.array _ _) => some true
  | some _ => some false
  | none => none
def sizeT (t : TypeId) : Option Nat := match P.info? t with
  | some i => some i.size
  | none => none
def zeroT (t : TypeId) : Option AV := match P.info? t with
  | some i => match i.zero with
    | some v => ofV v
    | none => none
  | none => none

/-- cells from an offset on -/
def getN (cs : T AV) : Nat → Nat → Option (List AV)
  | _, 0 => some []
  | i, n + 1 => match cs.get i with
    | some v => match getN cs (Nat.add i 1) n with
      | some l => some (v :: l)
      | none => none
    | none => none
def setN (cs : T AV) : Nat → List AV → T AV
  | _, [] => cs
  | i, v :: l => setN (cs.put i (some v)) (Nat.add i 1) l
def mkCells (l : List AV) : T AV := setN .e 0 l
def allOne : List AV → Bool
  | [] => true
  | v :: l => match v.one with
    | true => allOne l
    | false => false
def rep : Nat → List AV → List AV
  | 0, _ => []
  | n + 1, z => z ++ rep n z

def part (t : TypeId) (cs : List AV) (off : Nat) : Option AV := match aggT P t with
  | some true => match sizeT P t with
    | some s => some (.agg ((cs.drop off).take s))
    | none => none
  | some false => cs[off]?
  | none => none

/-- parts laid into cells -/
def afill (place : Nat → Option (Nat × Nat)) (cells : List AV) : List (Nat × AV) → Option (List AV)
  | [] => some cells
  | (i, v) :: rest => match place i with
    | none => none
    | some (off, size) =>
      match Nat.beq v.cells.length size with
      | false => none
      | true => match Nat.ble (Nat.add off size) cells.length with
        | false => none
        | true => afill place (cells.take off ++ (v.cells ++ cells.drop (Nat.add off size))) rest
def zipParts : List (Nat × Operand) → List AV → Option (List (Nat × AV))
  | [], [] => some []
  | (i, _) :: l, v :: vs => match zipParts l vs with
    | some r => some ((i, v) :: r)
    | none => none
  | _, _ => none

def abin (op : BinOp) (k : IntKind) (x y : Int) : Option AV := match op with
  | .add => some (.int k (k.wrap (x + y)))
  | .sub => some (.int k (k.wrap (x - y)))
  | .mul => some (.int k (k.wrap (x * y)))
  | .quo => match decide (y = 0) with
    | true => none
    | false => some (.int k (k.wrap (x.tdiv y)))
  | .rem => match decide (y = 0) with
    | true => none
    | false => some (.int k (x.tmod y))
  | .and => some (.int k (k.wrap (BitVec.ofInt k.bits x &&& BitVec.ofInt k.bits y).toNat))
  | .or => some (.int k (k.wrap (BitVec.ofInt k.bits x ||| BitVec.ofInt k.bits y).toNat))
  | .xor => some (.int k (k.wrap (BitVec.ofInt k.bits x ^^^ BitVec.ofInt k.bits y).toNat))
  | .andNot => some (.int k (k.wrap (BitVec.ofInt k.bits x &&& ~~~(BitVec.ofInt k.bits y)).toNat))
  | .eql => some (.bool (x == y))
  | .neq => some (.bool (x != y))
  | .lss => some (.bool (x < y))
  | .leq => some (.bool (x ≤ y))
  | .gtr => some (.bool (x > y))
  | .geq => some (.bool (x ≥ y))
  | _ => none
def ashift (op : BinOp) (k : IntKind) (x y : Int) : Option AV := match decide (y < 0) with
  | true => none
  | false => match op with
    | .shl => some (.int k (k.wrap (x * 2 ^ (min y.toNat k.bits))))
    | .shr => some (.int k (x.fdiv (2 ^ (min y.toNat k.bits))))
    | _ => none

/-- == of the fields of structs -/
def aeqF (rec : TypeId → AV → AV → Option Bool) (a b : List AV) : List Field → Option Bool
  | [] => some true
  | f :: fs => match f.name == "_" with
    | true => none
    | false => match part P f.type a f.offset with
      | none => none
      | some u => match part P f.type b f.offset with
        | none => none
        | some v => match rec f.type u v with
          | none => none
          | some false => some false
          | some true => aeqF rec a b fs
/-- == -/
def aeq : Nat → TypeId → AV → AV → Option Bool
  | 0, _, _, _ => none
  | d + 1, t, x, y => match P.underlying t with
    | some .bool => match x, y with
      | .bool a, .bool b => some (a == b)
      | _, _ => none
    | some (.int _) => match x, y with
      | .int k a, .int k' b => match decide (k = k') with
        | true => some (a == b)
        | false => none
      | x, y => match toSE x, toSE y with
        | some (k, a), some (k', b) => match decide (k = k') with
          | true => askEq a b
          | false => none
        | _, _ => none
    | some (.pointer _) => match x, y with
      | .nilp, .nilp => some true
      | .nilp, .ptr _ _ => some false
      | .ptr _ _, .nilp => some false
      | _, _ => none
    | some (.slice _) => match x, y with
      | .nilsl, .nilsl => some true
      | .nilsl, .sl .. => some false
      | .sl .., .nilsl => some false
      | .nilsl, .esl _ => some false
      | .esl _, .nilsl => some false
      | _, _ => none
    | some (.map _ _) => match x, y with
      | .nilmap, .nilmap => some true
      | .nilmap, .map _ => some false
      | .map _, .nilmap => some false
      | _, _ => none
    | some (.func _ _ _) => match x, y with
      | .nilfn, .nilfn => some true
      | .nilfn, .fn .. => some false
      | .fn .., .nilfn => some false
      | _, _ => none
    | some (.struct fs) => match x, y with
      | .agg a, .agg b => match P.stoodInHeld t with
        | true => none
        | false => aeqF P (aeq d) a b fs.toList
      | _, _ => none
    | _ => none
/-- the two operands of a test: the model's guard lets it pass -/
def guardOk (t : TypeId) : AV → AV → Bool
  | .agg _, .agg _ => match P.eqGuardType P.depth t with
    | true => false
    | false => true
  | .nilif, .nilif => false
  | _, _ => true
/-- of numbers of which one is not known -/
def symOp (op : BinOp) (x y : AV) : Option AV := match toSE x with
  | none => none
  | some (k, a) => match toSE y with
    | none => none
    | some (k', b) => match decide (k = k') with
      | false => none
      | true => match op with
        | .add => match decide (k = .i64) with
          | true => some (.sym k (.bin .add a b))
          | false => match decide (k = .u64) with
            | true => some (.sym k (.ubin .add a b))
            | false => none
        | .sub => match decide (k = .i64) with
          | true => some (.sym k (.bin .sub a b))
          | false => match decide (k = .u64) with
            | true => some (.sym k (.ubin .sub a b))
            | false => none
        | .mul => match decide (k = .i64) with
          | true => some (.sym k (.bin .mul a b))
          | false => match decide (k = .u64) with
            | true => some (.sym k (.ubin .mul a b))
            | false => none
        | .eql => match askEq a b with
          | some r => some (.bool r)
          | none => none
        | .neq => match askEq a b with
          | some r => some (.bool (!r))
          | none => none
        | .lss => match askLt a b with
          | some r => some (.bool r)
          | none => none
        | .geq => match askLt a b with
          | some r => some (.bool (!r))
          | none => none
        | .gtr => match askLt b a with
          | some r => some (.bool r)
          | none => none
        | .leq => match askLt b a with
          | some r => some (.bool (!r))
          | none => none
        | _ => none
def abinop (op : BinOp) (t : TypeId) (x y : AV) : Option AV := match x, y with
  | .int k a, .int k' b => match op with
    | .shl => ashift .shl k a b
    | .shr => ashift .shr k a b
    | op => match decide (k = k') with
      | true => abin op k a b
      | false => none
  | .sym k a, y => symOp op (.sym k a) y
  | x, .sym k b => symOp op x (.sym k b)
  | .str _, _ => none
  | _, .str _ => none
  | x, y => match guardOk P t x y with
    | false => none
    | true => match op with
      | .eql => match aeq P 40 t x y with
        | some b => some (.bool b)
        | none => none
      | .neq => match aeq P 40 t x y with
        | some b => some (.bool (!b))
        | none => none
      | _ => none
def aun (op : UnOp) (x : AV) : Option AV := match op, x with
  | .neg, .int k n => some (.int k (k.wrap (0 - n)))
  | .xor, .int k n => some (.int k (k.wrap (BitVec.ofInt k.bits (if k.signed then -1 else k.max) ^^^ BitVec.ofInt k.bits n).toNat))
  | .not, .bool b => some (.bool (!b))
  | _, _ => none
def placesT : List Field → Option (List (Nat × Nat))
  | [] => some []
  | f :: fs => match sizeT P f.type with
    | some s => match placesT fs with
      | some r => some ((f.offset, s) :: r)
      | none => none
    | none => none
def inRange (i : Int) (len : Nat) : Option Nat := match i with
  | .ofNat k => match Nat.blt k len with
    | true => some k
    | false => none
  | .negSucc _ => none
/-- a bound of a slice expression: at most 'y' -/
def bnd (d : Nat) (y : Nat) : Option AV → Option Nat
  | none => some d
  | some (.int _ (.ofNat k)) => match Nat.ble k y with
    | true => some k
    | false => none
  | some _ => none
def asliceOf (e : TypeId) (x : AV) (lo hi mx : Option AV) : Option AV := match x with
  | .nilsl => match bnd 0 0 mx with
    | some _ => match bnd 0 0 hi with
      | some _ => match bnd 0 0 lo with
        | some _ => match hi, mx with
          | none, some _ => none
          | _, _ => match sizeT P e with
            | some _ => some .nilsl
            | none => none
        | none => none
      | none => none
    | none => none
  | .sl n off len sz r => match sizeT P e with
    | none => none
    | some s => match Nat.beq s sz with
      | false => none
      | true => match mx with
        | none => match bnd len len hi with
          | none => none
          | some h => match bnd 0 h lo with
            | none => none
            | some l => match Nat.beq l 0 with
              | true => some (.sl n off h sz r)
              | false => match Nat.blt l h with
                | true => some (.sl n (Nat.add off (Nat.mul l sz)) (Nat.sub h l) sz .any)
                | false => some (.esl n)
        | some _ => match hi with
          | none => none
          | some _ => match bnd 0 len mx with
            | none => none
            | some m => match bnd 0 m hi with
              | none => none
              | some h => match bnd 0 h lo with
                | none => none
                | some l => match Nat.beq l 0 with
                  | true => some (.sl n off h sz (.ex m))
                  | false => none
  | _ => none
def asCells (e : TypeId) (cs : List AV) (len : Nat) (i : Int) : Option AV := match inRange i len with
  | some k => match sizeT P e with
    | some s => part P e cs (Nat.mul k s)
    | none => none
  | none => none
def aint2 (mx : Bool) : AV → AV → Option AV
  | .int k x, .int _ y => match mx with
    | true => some (.int k (if y > x then y else x))
    | false => some (.int k (if y < x then y else x))
  | x, y => match toSE x with
    | none => none
    | some (k, a) => match toSE y with
      | none => none
      | some (k', b) => match decide (k = k') with
        | false => none
        | true => match mx with
          | true => match askLt a b with
            | some true => some y
            | some false => some x
            | none => none
          | false => none
def afoldInt (mx : Bool) : AV → List AV → Option AV
  | v, [] => some v
  | v, w :: l => match aint2 mx v w with
    | some u => afoldInt mx u l
    | none => none

/-- an operation that looks at no memory -/
def apure (op : Op) (vs : List AV) : Option AV := match op with
  | .move _ => match vs with
    | [v] => some v
    | _ => none
  | .assign _ => match vs with
    | [v] => some v
    | _ => none
  | .pick _ _ _ => match vs with
    | [.bool true, a, _] => some a
    | [.bool false, _, b] => some b
    | _ => none
  | .build t parts => match zipParts parts.toList vs with
    | none => none
    | some ps => match zeroT P t with
      | none => none
      | some z => match P.underlying t with
        | some (.struct fs) => match placesT P fs.toList with
          | none => none
          | some pl => match afill (fun i => pl[i]?) z.cells ps with
            | some l => some (.agg l)
            | none => none
        | some (.array _ e) => match sizeT P e with
          | none => none
          | some s => match afill (fun i => some (Nat.mul i s, s)) z.cells ps with
            | some l => some (.agg l)
            | none => none
        | _ => none
  | .nilCheck _ => match vs with
    | [.ptr n o] => some (.ptr n o)
    | [.fn (.func f) a b] => some (.fn (.func f) a b)
    | _ => none
  | .binOp op t _ _ _ => match vs with
    | [x, y] => abinop P op t x y
    | _ => none
  | .unOp op _ _ => match vs with
    | [x] => aun op x
    | _ => none
  | .convert src dst _ => match vs with
    | [.int _ n] => match P.underlying src with
      | none => none
      | some _ => match P.underlying dst with
        | some (.int k) => some (.int k (k.wrap n))
        | _ => none
    | [.sym _ e] => match P.underlying src with
      | none => none
      | some _ => match P.underlying dst with
        | some (.int k) => some (.sym k (.cv k e))
        | _ => none
    | _ => none
  | .makeFunc fn first _ => some (.fn fn (vs.take first.size) (vs.drop first.size))
  | .slice t _ lo hi mx => match P.underlying t with
    | some (.slice e) => match vs, lo, hi, mx with
      | [x], none, none, none => asliceOf P e x none none none
      | [x, a], some _, none, none => asliceOf P e x (some a) none none
      | [x, a], none, some _, none => asliceOf P e x none (some a) none
      | [x, a, b], some _, some _, none => asliceOf P e x (some a) (some b) none
      | [x, a, b], none, some _, some _ => asliceOf P e x none (some a) (some b)
      | [x, a, b, c], some _, some _, some _ => asliceOf P e x (some a) (some b) (some c)
      | _, _, _, _ => none
    | _ => none
  | .fieldAddr s _ f => match vs with
    | [.ptr n off] => match P.underlying s with
      | some (.struct fs) => match fs[f]? with
        | some fd => match sizeT P fd.type with
          | some (_ + 1) => some (.ptr n (Nat.add off fd.offset))
          | _ => none
        | none => none
      | _ => none
    | _ => none
  | .field t _ f => match vs with
    | [.agg cs] => match P.underlying t with
      | some (.struct fs) => match fs[f]? with
        | some fd => part P fd.type cs fd.offset
        | none => none
      | _ => none
    | _ => none
  | .indexAddr t _ _ => match vs with
    | [.sl n off len sz _, .int _ i] => match P.underlying t with
      | some (.slice e) => match inRange i len with
        | some k => match sizeT P e with
          | some s => match Nat.beq s sz with
            | true => some (.ptr n (Nat.add off (Nat.mul k s)))
            | false => none
          | none => none
        | none => none
      | _ => none
    | [.ptr n off, .int _ i] => match P.underlying t with
      | some (.array len e) => match inRange i len with
        | some k => match sizeT P e with
          | some s => some (.ptr n (Nat.add off (Nat.mul k s)))
          | none => none
        | none => none
      | _ => none
    | [.gptr n off, .int _ i] => match P.underlying t with
      | some (.array len e) => match inRange i len with
        | some k => match sizeT P e with
          | some s => some (.gptr n (Nat.add off (Nat.mul k s)))
          | none => none
        | none => none
      | _ => none
    | _ => none
  | .index t _ _ => match vs with
    | [.agg cs, .int _ i] => match P.underlying t with
      | some (.array len e) => asCells P e cs len i
      | _ => none
    | _ => none
  | .extract _ i => match vs with
    | [.tup l] => l[i]?
    | _ => none
  | .makeInterface t _ => match vs with
    | [v] => match P.underlying t with
      | some (.interface _) => none
      | some _ => some (.ifc t v)
      | none => none
    | _ => none
  | .call c => match c.callee with
    | .builtin .max => match vs with
      | v :: l => afoldInt true v l
      | _ => none
    | .builtin .min => match vs with
      | v :: l => afoldInt false v l
      | _ => none
    | _ => none
  | _ => none

def lookAt (es : List (AV × AV)) (k : IntKind) (i : Int) : Option (Option AV) := match es with
  | [] => some none
  | (.int k' j, v) :: es => match decide (k = k') with
    | false => none
    | true => match i == j with
      | true => some (some v)
      | false => lookAt es k i
  | _ => none
def mapHas (es : List (AV × AV)) (k : IntKind) (i : Int) : Option Bool := match lookAt es k i with
  | some (some _) => some true
  | some none => some false
  | none => none
def mapSet (es : List (AV × AV)) (i : Int) (x : AV) : List (AV × AV) := match es with
  | [] => []
  | (.int k' j, v) :: es => match i == j with
    | true => (.int k' j, x) :: es
    | false => (.int k' j, v) :: mapSet es i x
  | p :: es => p :: mapSet es i x
/-- an operation that reads memory -/
def aread (op : Op) (vs : List AV) (h : AH) : Option AV := match op with
  | .load t _ => match vs with
    | [.ptr n off] => match h.get n with
      | some (.cells cs _ _) => match aggT P t with
        | some true => match sizeT P t with
          | some s => match getN cs off s with
            | some l => some (.agg l)
            | none => none
          | none => none
        | some false => cs.get off
        | none => none
      | _ => none
    | [.gptr g off] => match findG g Fc.globs with
      | some l => match aggT P t with
        | some false => match l[off]? with
          | some c => some (.int .i64 c)
          | none => none
        | _ => none
      | none => none
    | _ => none
  | .lookup t _ _ ok => match P.underlying t with
    | some (.map kt e) => match P.underlying kt with
      | some (.int _) => match vs with
        | [x, .int k i] => match (match x with
            | .nilmap => some []
            | .map n => match h.get n with
              | some (.map es) => some es
              | _ => none
            | _ => none) with
          | none => none
          | some es => match lookAt es k i with
            | none => none
            | some (some v) => match ok with
              | true => some (.tup [v, .bool true])
              | false => some v
            | some none => match zeroT P e with
              | none => none
              | some z => match ok with
                | true => some (.tup [z, .bool false])
                | false => some z
        | _ => none
      | _ => none
    | _ => none
  | .call c => match c.callee with
    | .builtin .len => match vs, c.argTypes[0]? with
      | [x], some t => match P.underlying t with
        | some (.slice _) => match x with
          | .nilsl => some (.int .i64 0)
          | .esl _ => some (.int .i64 0)
          | .sl _ _ len _ _ => some (.int .i64 (Int.ofNat len))
          | _ => none
        | some (.array n _) => some (.int .i64 (Int.ofNat n))
        | some (.map _ _) => match x with
          | .nilmap => some (.int .i64 0)
          | .map n => match h.get n with
            | some (.map es) => some (.int .i64 (Int.ofNat es.length))
            | _ => none
          | _ => none
        | _ => none
      | _, _ => none
    | _ => none
  | _ => none

inductive AK where
  | ptr
  | sl (len sz : Nat)
  | map
def AK.at (k : AK) (n : Nat) : AV := match k with
  | .ptr => .ptr n 0
  | .sl len sz => .sl n 0 len sz .whole
  | .map => .map n
def cellsOf (e : TypeId) (l : List AV) : AO := .cells (mkCells l) l.length e
/-- an operation that makes a block -/
def aalloc (op : Op) (vs : List AV) : Option (AO × AK) := match op with
  | .alloc t => match zeroT P t with
    | some z => match allOne z.cells with
      | true => some (cellsOf t z.cells, .ptr)
      | false => none
    | none => none
  | .box t _ => match vs with
    | [v] => match allOne v.cells with
      | true => some (cellsOf t v.cells, .ptr)
      | false => none
    | _ => none
  | .buildSlice t len parts => match P.underlying t with
    | some (.slice e) => match sizeT P e with
      | none => none
      | some s => match Nat.ble (Nat.mul len s) 16777216 && Nat.ble len 16777216 with
        | false => none
        | true => match zeroT P e with
          | none => none
          | some z => match Nat.beq z.cells.length s with
            | false => none
            | true => match zipParts parts.toList vs with
              | none => none
              | some ps => match afill (fun i => some (Nat.mul i s, s)) (rep len z.cells) ps with
                | none => none
                | some l => match allOne l with
                  | true => some (cellsOf e l, .sl len s)
                  | false => none
    | _ => none
  | .makeMap _ r => match r with
    | none => match vs with
      | [] => some (.map [], .map)
      | _ => none
    | some _ => none
  | .makeSlice t _ _ => match P.underlying t with
    | some (.slice e) => match P.info? e with
      | none => none
      | some i => match vs with
        | [.int _ (.ofNat l), .int _ (.ofNat c)] => match Nat.ble l c with
          | false => none
          | true => match Nat.ble (Nat.mul i.bytes c) 281474976710656 with
            | false => none
            | true => match Nat.ble c 9223372036854775807 with
              | false => none
              | true => match zeroT P e with
                | none => none
                | some z => match Nat.beq z.cells.length i.size with
                  | false => none
                  | true => match Nat.blt 0 i.size with
                    | false => none
                    | true => match allOne z.cells with
                      | true => some (cellsOf e (rep c z.cells), .sl l i.size)
                      | false => none
        | _ => none
    | _ => none
  | _ => none

inductive AN where
  | val (v : AV) (h : AH)
  | call (f : FuncId) (args : List AV)
/-- cells of a source of append -/
def srcCells (h : AH) (s : Nat) : AV → Option (Nat × List AV)
  | .nilsl => some (0, [])
  | .esl _ => some (0, [])
  | .sl n off len sz _ => match Nat.beq sz s with
    | false => none
    | true => match h.get n with
      | some (.cells cs _ _) => match getN cs off (Nat.mul len sz) with
        | some l => some (len, l)
        | none => none
      | _ => none
  | _ => none
def fresh (h : AH) (o : AO) : Option AH := match Nat.blt h.next 1000000 with
  | true => some ((h.put h.next (some o)).skip 1)
  | false => none
def aappend (t : TypeId) (s x : AV) (h : AH) : Option (AV × AH) := match P.underlying t with
  | some (.slice e) => match P.info? e with
    | none => none
    | some i => match Nat.blt 0 i.size with
      | false => none
      | true => match i.zero with
        | none => none
        | some z => match Nat.beq z.cells.size i.size with
          | false => none
          | true => match srcCells h i.size x with
            | none => none
            | some (0, _) => match s with
              | .nilsl => some (.nilsl, h)
              | .esl n => some (.esl n, h)
              | .sl n off len sz r => some (.sl n off len sz r, h)
              | _ => none
            | some (m, news) => match s with
              | .nilsl => match Nat.ble m 9223372036854775807 with
                | false => none
                | true => match Nat.ble (Nat.mul m i.bytes) 140737488355328 with
                  | false => none
                  | true => match fresh h (cellsOf e news) with
                    | some h' => some (.sl h.next 0 m i.size .whole, h')
                    | none => none
              | .sl n 0 len sz r => match Nat.beq sz i.size with
                | false => none
                | true => match h.get n with
                  | some (.cells cs k e') => match Nat.beq e' e with
                    | false => none
                    | true => match Nat.ble (Nat.add len m) 9223372036854775807 with
                      | false => none
                      | true => match Nat.ble (Nat.mul (Nat.add len m) i.bytes) 140737488355328 with
                        | false => none
                        | true => match r with
                          | .whole => match Nat.ble (Nat.mul (Nat.add len m) sz) k with
                            | true => some (.sl n 0 (Nat.add len m) sz .whole, h.put n (some (.cells (setN cs (Nat.mul len sz) news) k e')))
                            | false => match getN cs 0 (Nat.mul len sz) with
                              | none => none
                              | some olds => match fresh (h.put n none) (cellsOf e (olds ++ news)) with
                                | some h' => some (.sl h.next 0 (Nat.add len m) sz .whole, h')
                                | none => none
                          | .ex c => match Nat.blt c (Nat.add len m) with
                            | false => none
                            | true => match getN cs 0 (Nat.mul len sz) with
                              | none => none
                              | some olds => match fresh h (cellsOf e (olds ++ news)) with
                                | some h' => some (.sl h.next 0 (Nat.add len m) sz .whole, h')
                                | none => none
                          | .any => none
                  | _ => none
              | _ => none
  | _ => none
/-- an operation that changes memory, or calls -/
def aloud (op : Op) (vs : List AV) (h : AH) : Option AN := match op with
  | .store t _ _ => match vs with
    | [.ptr n off, v] => match sizeT P t with
      | none => none
      | some s => match Nat.beq v.cells.length s with
        | false => none
        | true => match allOne v.cells with
          | false => none
          | true => match h.get n with
            | some (.cells cs k e) => match Nat.ble (Nat.add off s) k with
              | false => none
              | true => some (.val und (h.put n (some (.cells (setN cs off v.cells) k e))))
            | _ => none
    | _ => none
  | .mapUpdate t _ _ _ => mapPut t vs h
  | .insert t _ _ _ => mapPut t vs h
  | .call c => match c.callee with
    | .value _ => match vs with
      | .fn (.func f) a b :: args => some (.call f (a ++ (args ++ b)))
      | _ => none
    | .builtin .append => match vs, c.argTypes with
      | [s, x], ⟨[t, t']⟩ => match Nat.beq t t' with
        | false => none
        | true => match aappend P t s x h with
          | some (v, h') => some (.val v h')
          | none => none
      | _, _ => none
    | _ => none
  | _ => none
where
  mapPut (t : TypeId) (vs : List AV) (h : AH) : Option AN := match P.underlying t with
    | some (.map kt _) => match P.underlying kt with
      | some (.int _) => match vs with
        | [.map n, .int k i, v] => match h.get n with
          | some (.map es) => match mapHas es k i with
            | none => none
            | some true => some (.val und (h.put n (some (.map (mapSet es i v)))))
            | some false => some (.val und (h.put n (some (.map (es ++ [(.int k i, v)])))))
          | _ => none
        | _ => none
      | _ => none
    | _ => none

inductive Kd where
  | pure
  | read
  | alloc
  | loud
def kd : Op → Kd
  | .load .. | .lookup .. => .read
  | .alloc _ | .box .. | .buildSlice .. | .makeMap .. | .makeSlice .. => .alloc
  | .store .. | .mapUpdate .. | .insert .. => .loud
  | .call c => match c.callee with
    | .builtin .len => .read
    | .builtin .append => .loud
    | .builtin _ => .pure
    | _ => .loud
  | _ => .pure
end
end
end Go.Proofs.Ytigakendeghoaaa.Ex
