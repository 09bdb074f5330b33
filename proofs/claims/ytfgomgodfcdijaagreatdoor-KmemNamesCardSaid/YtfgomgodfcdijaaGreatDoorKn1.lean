/-
  Texts of this claim, joined. No condition.
-/
import Derived.Test.YtfgomgodfcdijaaGreatDoorRows
import Derived.WalkKit
import Derived.ProofKit
import Derived.DeepKeys3
/-
  A runner of calls without inputs: it runs the model's code over memory whose blocks bear names. Here: what it computes. No condition.
-/
namespace Go.Proofs.YtfgomgodfcdijaaGreatDoor.Ex
open Go
noncomputable section

/-- a table by number -/
inductive T (α : Type) where
  | e
  | n (l : T α) (v : Option α) (r : T α)
/-- where a number's value lies -/
inductive Ps where
  | x
  | h
  | o (p : Ps)
  | i (p : Ps)
/-- numbers below 2^20 - 1 are served -/
def top : Nat := 1048575
def toPs : Nat → Nat → Ps
  | 0, _ => .x
  | d + 1, k => match Nat.beq k 0 with
    | true => .h
    | false => match Nat.beq (Nat.mod k 2) 1 with
      | true => .i (toPs d (Nat.div k 2))
      | false => .o (toPs d (Nat.sub (Nat.div k 2) 1))
noncomputable def T.getP {α : Type} (p : Ps) : T α → Option α :=
  Ps.rec (motive := fun _ => T α → Option α) (fun _ => none)
    (fun t => T.rec (motive := fun _ => Option α) none (fun _ v _ _ _ => v) t)
    (fun _ ih t => T.rec (motive := fun _ => Option α) none (fun _ _ r _ _ => ih r) t)
    (fun _ ih t => T.rec (motive := fun _ => Option α) none (fun l _ _ _ _ => ih l) t) p
noncomputable def T.setP {α : Type} (x : Option α) (p : Ps) : T α → T α :=
  Ps.rec (motive := fun _ => T α → T α) (fun t => t)
    (fun t => T.rec (motive := fun _ => T α) (.n .e x .e) (fun l _ r _ _ => .n l x r) t)
    (fun _ ih t => T.rec (motive := fun _ => T α) (.n .e none (ih .e)) (fun l v r _ _ => .n l v (ih r)) t)
    (fun _ ih t => T.rec (motive := fun _ => T α) (.n (ih .e) none .e) (fun l v r _ _ => .n (ih l) v r) t) p
noncomputable def T.get {α : Type} (t : T α) (k : Nat) : Option α := T.getP (toPs 20 k) t
noncomputable def T.put {α : Type} (t : T α) (k : Nat) (x : Option α) : T α := T.setP x (toPs 20 k) t

/-- a number that is not known -/
inductive SO where
  | add
  | sub
  | mul
  | quo
  | rem
inductive SE where
  | var (i : Nat)
  | lit (n : Int)
  | bin (op : SO) (a b : SE)
  | ubin (op : SO) (a b : SE)
  | cv (k : IntKind) (a : SE)
  /-- the i-th list of records; one with a record's field turned; one with one more; a record; a field; a length -/
  | lvar (i : Nat)
  | lset (l e : SE) (j : Nat) (v : SE)
  | lsnoc (l r : SE)
  | rnil
  /-- so many records of zeros -/
  | rep (n : SE)
  | rcons (v r : SE)
  | at (l e : SE) (j : Nat)
  | len (l : SE)
/-- what a record's field is -/
inductive CK where
  | int (k : IntKind)
  | bool
def SO.beq : SO → SO → Bool
  | .add, .add => true
  | .sub, .sub => true
  | .mul, .mul => true
  | .quo, .quo => true
  | .rem, .rem => true
  | _, _ => false
def SE.beq : SE → SE → Bool
  | .var i, .var j => Nat.beq i j
  | .lit m, .lit n => m == n
  | .bin o a b, .bin o' a' b' => SO.beq o o' && (SE.beq a a' && SE.beq b b')
  | .ubin o a b, .ubin o' a' b' => SO.beq o o' && (SE.beq a a' && SE.beq b b')
  | .cv k a, .cv k' a' => decide (k = k') && SE.beq a a'
  | .lvar i, .lvar j => Nat.beq i j
  | .lset l e j v, .lset l' e' j' v' => (SE.beq l l' && SE.beq e e') && (Nat.beq j j' && SE.beq v v')
  | .lsnoc l r, .lsnoc l' r' => SE.beq l l' && SE.beq r r'
  | .rnil, .rnil => true
  | .rep a, .rep b => SE.beq a b
  | .rcons v r, .rcons v' r' => SE.beq v v' && SE.beq r r'
  | .at l e j, .at l' e' j' => SE.beq l l' && (SE.beq e e' && Nat.beq j j')
  | .len l, .len l' => SE.beq l l'
  | _, _ => false
def CK.beq : CK → CK → Bool
  | .int k, .int k' => decide (k = k')
  | .bool, .bool => true
  | _, _ => false
/-- a list's length -/
def lenE : SE → SE
  | .lset l _ _ _ => lenE l
  | l => .len l
/-- what may be known of numbers -/
inductive Cnd where
  | lt (a b : SE)
  | eq (a b : SE)
/-- what is known of them -/
class Fc where
  facts : List (Cnd × Bool)
  /-- package-level tables of numbers that nobody changes -/
  globs : List (Nat × List Int) := []
  /-- slices of numbers that nobody changes: of which kind -/
  rks : List (Nat × CK) := []
def findK (i : Nat) : List (Nat × CK) → Option CK
  | [] => none
  | (x, k) :: r => match Nat.beq x i with
    | true => some k
    | false => findK i r
def Fc.rk [Fc] (i : Nat) : Option CK := findK i Fc.rks
def findG (g : Nat) : List (Nat × List Int) → Option (List Int)
  | [] => none
  | (x, l) :: r => match Nat.beq x g with
    | true => some l
    | false => findG g r
def findLt (a b : SE) : List (Cnd × Bool) → Option Bool
  | [] => none
  | (.lt x y, r) :: l => match SE.beq x a && SE.beq y b with
    | true => some r
    | false => findLt a b l
  | _ :: l => findLt a b l
def findEq (a b : SE) : List (Cnd × Bool) → Option Bool
  | [] => none
  | (.eq x y, r) :: l => match SE.beq x a && SE.beq y b with
    | true => some r
    | false => findEq a b l
  | _ :: l => findEq a b l
/-- bounds of a number -/
def lowOf (e : SE) : List (Cnd × Bool) → Option Int
  | [] => none
  | (.lt x (.lit n), false) :: l => match SE.beq x e with
    | true => match lowOf e l with
      | none => some n
      | some m => some (if m < n then n else m)
    | false => lowOf e l
  | (.lt (.lit n) x, true) :: l => match SE.beq x e with
    | true => match lowOf e l with
      | none => some (n + 1)
      | some m => some (if m < n + 1 then n + 1 else m)
    | false => lowOf e l
  | (.eq x (.lit n), true) :: l => match SE.beq x e with
    | true => some n
    | false => lowOf e l
  | _ :: l => lowOf e l
def highOf (e : SE) : List (Cnd × Bool) → Option Int
  | [] => none
  | (.lt x (.lit n), true) :: l => match SE.beq x e with
    | true => match highOf e l with
      | none => some (n - 1)
      | some m => some (if n - 1 < m then n - 1 else m)
    | false => highOf e l
  | (.lt (.lit n) x, false) :: l => match SE.beq x e with
    | true => match highOf e l with
      | none => some n
      | some m => some (if n < m then n else m)
    | false => highOf e l
  | (.eq x (.lit n), true) :: l => match SE.beq x e with
    | true => some n
    | false => highOf e l
  | _ :: l => highOf e l
def inI64 (lo hi : Int) : Option (Int × Int) := match decide (-9223372036854775808 ≤ lo) && decide (hi ≤ 9223372036854775807) with
  | true => some (lo, hi)
  | false => none
def ivAt (fs : List (Cnd × Bool)) (e : SE) : Option (Int × Int) := match lowOf e fs with
    | none => none
    | some lo => match highOf e fs with
      | none => none
      | some hi => some (lo, hi)
def ivOf (fs : List (Cnd × Bool)) : SE → Option (Int × Int)
  | .lit n => some (n, n)
  | .var i => ivAt fs (.var i)
  | .at l e j => ivAt fs (.at l e j)
  | .len l => ivAt fs (.len l)
  | .bin o a b => match ivOf fs a with
    | none => none
    | some (la, ha) => match ivOf fs b with
      | none => none
      | some (lb, hb) => match o with
        | .add => inI64 (la + lb) (ha + hb)
        | .sub => inI64 (la - hb) (ha - lb)
        | .mul => match decide (0 ≤ la) && decide (0 ≤ lb) with
          | true => inI64 (la * lb) (ha * hb)
          | false => none
        | .quo => match decide (0 ≤ la) && decide (0 < lb) with
          | true => inI64 0 ha
          | false => none
        | .rem => match decide (0 ≤ la) && decide (0 < lb) with
          | true => inI64 0 (hb - 1)
          | false => none
  | .cv k a => match k with
    | .u64 => match ivOf fs a with
      | some (la, ha) => match decide (0 ≤ la) with
        | true => inI64 la ha
        | false => none
      | none => none
    | .i64 => match ivOf fs a with
      | some (la, ha) => inI64 la ha
      | none => none
    | _ => none
  | _ => none
section
variable [Fc]
def askLt (a b : SE) : Option Bool := match SE.beq a b with
  | true => some false
  | false => match findLt a b Fc.facts with
    | some r => some r
    | none => match ivOf Fc.facts a with
      | none => none
      | some (la, ha) => match ivOf Fc.facts b with
        | none => none
        | some (lb, hb) => match decide (ha < lb) with
          | true => some true
          | false => match decide (hb ≤ la) with
            | true => some false
            | false => none
def askEq (a b : SE) : Option Bool := match SE.beq a b with
  | true => some true
  | false => match findEq a b Fc.facts with
    | some r => some r
    | none => match ivOf Fc.facts a with
      | none => none
      | some (la, ha) => match ivOf Fc.facts b with
        | none => none
        | some (lb, hb) => match decide (ha < lb) || decide (hb < la) with
          | true => some false
          | false => none
def askC : Cnd → Option Bool
  | .lt a b => askLt a b
  | .eq a b => askEq a b
/-- a number that is known -/
def litOf (e : SE) : Option Int := match ivOf Fc.facts e with
  | some (lo, hi) => match lo == hi with
    | true => some lo
    | false => none
  | none => none
/-- an index of a list -/
def within (e n : SE) : Bool := match askLt e (.lit 0) with
  | some false => match askLt e n with
    | some true => true
    | _ => false
  | _ => false
end
/-- what is known of a slice's room -/
inductive Room where
  | whole
  | any
  | ex (c : Nat)
/-- a value over named blocks -/
inductive AV where
  | bool (b : Bool)
  | int (k : IntKind) (n : Int)
  | sym (k : IntKind) (e : SE)
  /-- a question's answer, or its contrary -/
  | bsym (c : Cnd) (p : Bool)
  | str (s : ByteArray)
  | nilp
  /-- the j-th cell of the e-th record of so many cells -/
  | eptr (n : Nat) (e : SE) (s j : Nat)
  /-- a slice of so many records of so many cells, and all of its block -/
  | dsl (n : Nat) (e : SE) (s : Nat)
  /-- so many records of it, from one on -/
  | ssl (n : Nat) (e : SE) (len s : Nat)
  /-- a slice of numbers that nobody changes; a place of it -/
  | rsl (i : Nat)
  | rptr (i : Nat) (e : SE)
  | ptr (n off : Nat)
  | gptr (g off : Nat)
  | nilsl
  | sl (n off len sz : Nat) (r : Room)
  | esl (n : Nat)
  /-- a slice of nothing, nil or not -/
  | zsl
  /-- a slice of which its length alone is known -/
  | osl (e : SE)
  | nilmap
  | map (n : Nat)
  | fn (f : Fn) (first cap : List AV)
  | nilfn
  | nilif
  | ifc (t : TypeId) (v : AV)
  | agg (l : List AV)
  | tup (l : List AV)

def AV.one : AV → Bool
  | .agg _ | .tup _ => false
  | _ => true
def AV.cells : AV → List AV
  | .agg l => l
  | v => [v]
def und : AV := .tup []

mutual
/-- a constant of the text -/
def ofV : Value → Option AV
  | .bool b => some (.bool b)
  | .int k n => some (.int k n)
  | .string s => some (.str s)
  | .pointer none => some .nilp
  | .slice none 0 0 => some .nilsl
  | .map none => some .nilmap
  | .nilFunc => some .nilfn
  | .nilIface => some .nilif
  | .agg cs => (ofA cs).map .agg
  | .tuple cs => (ofA cs).map .tup
  | _ => none
def ofA : Array Value → Option (List AV)
  | ⟨l⟩ => ofL l
def ofL : List Value → Option (List AV)
  | [] => some []
  | v :: l => match ofV v with
    | some x => match ofL l with
      | some xs => some (x :: xs)
      | none => none
    | none => none
end

/-- a block -/
inductive AO where
  | cells (cs : T AV) (k : Nat) (e : TypeId)
  /-- a map: its entries, when each was put in, its clock -/
  | map (es : List (AV × AV)) (bs : List Nat) (ck : Nat)
  /-- an iterator over a map, or over nil: since when, which entries were seen, when it stepped last -/
  | mit (m : Option Nat) (since : Nat) (seen : List Nat) (last : Nat)
  /-- one of which nothing is known but that it is the i-th -/
  | opq (i : Nat)
  /-- .., beside two other ones -/
  | opb (i n m : Nat)
  /-- records -/
  | recs (l : SE) (ks : List CK) (e : TypeId)
inductive AH where
  | mk (m : T AO) (next : Nat)
def AH.get : AH → Nat → Option AO
  | .mk m _, k => m.get k
def AH.next : AH → Nat
  | .mk _ n => n
def AH.put : AH → Nat → Option AO → AH
  | .mk m n, k, o => .mk (m.put k o) n
def AH.skip : AH → Nat → AH
  | .mk m n, k => .mk m (Nat.add n k)

def ev (env : T AV) : Operand → Option AV
  | .tmp t => env.get t
  | .const v => ofV v
  | .func f => some (.fn (.func f) [] [])
  | .global g => some (.gptr g 0)
def evs (env : T AV) : List Operand → Option (List AV)
  | [] => some []
  | o :: l => match ev env o with
    | some v => match evs env l with
      | some vs => some (v :: vs)
      | none => none
    | none => none

section
variable [Fc] (P : Program)
def toSE : AV → Option (IntKind × SE)
  | .int k n => some (k, .lit n)
  | .sym k e => some (k, e)
  | _ => none
def aggT (t : TypeId) : Option Bool := match P.underlying t with
  | some (.struct _) | some (.array _ _) => some true
  | some _ => some false
  | none => none
def sizeT (t : TypeId) : Option Nat := match P.info? t with
  | some i => some i.size
  | none => none
def zeroT (t : TypeId) : Option AV := match P.info? t with
  | some i => match i.zero with
    | some v => ofV v
    | none => none
  | none => none

/-- cells from an offset on -/
def getN (cs : T AV) : Nat → Nat → Option (List AV)
  | _, 0 => some []
  | i, n + 1 => match cs.get i with
    | some v => match getN cs (Nat.add i 1) n with
      | some l => some (v :: l)
      | none => none
    | none => none
def setN (cs : T AV) : Nat → List AV → T AV
  | _, [] => cs
  | i, v :: l => setN (cs.put i (some v)) (Nat.add i 1) l
def mkCells (l : List AV) : T AV := setN .e 0 l
def allOne : List AV → Bool
  | [] => true
  | v :: l => match v.one with
    | true => allOne l
    | false => false
def rep : Nat → List AV → List AV
  | 0, _ => []
  | n + 1, z => z ++ rep n z

def part (t : TypeId) (cs : List AV) (off : Nat) : Option AV := match aggT P t with
  | some true => match sizeT P t with
    | some s => some (.agg ((cs.drop off).take s))
    | none => none
  | some false => cs[off]?
  | none => none

/-- parts laid into cells -/
def afill (place : Nat → Option (Nat × Nat)) (cells : List AV) : List (Nat × AV) → Option (List AV)
  | [] => some cells
  | (i, v) :: rest => match place i with
    | none => none
    | some (off, size) =>
      match Nat.beq v.cells.length size with
      | false => none
      | true => match Nat.ble (Nat.add off size) cells.length with
        | false => none
        | true => afill place (cells.take off ++ (v.cells ++ cells.drop (Nat.add off size))) rest
def zipParts : List (Nat × Operand) → List AV → Option (List (Nat × AV))
  | [], [] => some []
  | (i, _) :: l, v :: vs => match zipParts l vs with
    | some r => some ((i, v) :: r)
    | none => none
  | _, _ => none

def abin (op : BinOp) (k : IntKind) (x y : Int) : Option AV := match op with
  | .add => some (.int k (k.wrap (x + y)))
  | .sub => some (.int k (k.wrap (x - y)))
  | .mul => some (.int k (k.wrap (x * y)))
  | .quo => match decide (y = 0) with
    | true => none
    | false => some (.int k (k.wrap (x.tdiv y)))
  | .rem => match decide (y = 0) with
    | true => none
    | false => some (.int k (x.tmod y))
  | .and => some (.int k (k.wrap (BitVec.ofInt k.bits x &&& BitVec.ofInt k.bits y).toNat))
  | .or => some (.int k (k.wrap (BitVec.ofInt k.bits x ||| BitVec.ofInt k.bits y).toNat))
  | .xor => some (.int k (k.wrap (BitVec.ofInt k.bits x ^^^ BitVec.ofInt k.bits y).toNat))
  | .andNot => some (.int k (k.wrap (BitVec.ofInt k.bits x &&& ~~~(BitVec.ofInt k.bits y)).toNat))
  | .eql => some (.bool (x == y))
  | .neq => some (.bool (x != y))
  | .lss => some (.bool (x < y))
  | .leq => some (.bool (x ≤ y))
  | .gtr => some (.bool (x > y))
  | .geq => some (.bool (x ≥ y))
  | _ => none
def ashift (op : BinOp) (k : IntKind) (x y : Int) : Option AV := match decide (y < 0) with
  | true => none
  | false => match op with
    | .shl => some (.int k (k.wrap (x * 2 ^ (min y.toNat k.bits))))
    | .shr => some (.int k (x.fdiv (2 ^ (min y.toNat k.bits))))
    | _ => none

/-- a bool that is known -/
def boolOf : AV → Option Bool
  | .bool b => some b
  | .bsym c p => match askC c with
    | some q => some (q == p)
    | none => none
  | _ => none
/-- == of the fields of structs -/
def aeqF (rec : TypeId → AV → AV → Option Bool) (a b : List AV) : List Field → Option Bool
  | [] => some true
  | f :: fs => match f.name == "_" with
    | true => none
    | false => match part P f.type a f.offset with
      | none => none
      | some u => match part P f.type b f.offset with
        | none => none
        | some v => match rec f.type u v with
          | none => none
          | some false => some false
          | some true => aeqF rec a b fs
/-- == -/
def aeq : Nat → TypeId → AV → AV → Option Bool
  | 0, _, _, _ => none
  | d + 1, t, x, y => match P.underlying t with
    | some .bool => match x, y with
      | .bool a, .bool b => some (a == b)
      | x, y => match boolOf x with
        | none => none
        | some a => match boolOf y with
          | none => none
          | some b => some (a == b)
    | some (.int _) => match x, y with
      | .int k a, .int k' b => match decide (k = k') with
        | true => some (a == b)
        | false => none
      | x, y => match toSE x, toSE y with
        | some (k, a), some (k', b) => match decide (k = k') with
          | true => askEq a b
          | false => none
        | _, _ => none
    | some (.pointer _) => match x, y with
      | .nilp, .nilp => some true
      | .nilp, .ptr _ _ => some false
      | .ptr _ _, .nilp => some false
      | .eptr .., .nilp => some false
      | _, _ => none
    | some (.slice _) => match x, y with
      | .nilsl, .nilsl => some true
      | .nilsl, .sl .. => some false
      | .sl .., .nilsl => some false
      | .nilsl, .esl _ => some false
      | .esl _, .nilsl => some false
      | .dsl .., .nilsl => some false
      | .ssl .., .nilsl => some false
      | _, _ => none
    | some (.map _ _) => match x, y with
      | .nilmap, .nilmap => some true
      | .nilmap, .map _ => some false
      | .map _, .nilmap => some false
      | _, _ => none
    | some (.func _ _ _) => match x, y with
      | .nilfn, .nilfn => some true
      | .nilfn, .fn .. => some false
      | .fn .., .nilfn => some false
      | _, _ => none
    | some (.struct fs) => match x, y with
      | .agg a, .agg b => match P.stoodInHeld t with
        | true => none
        | false => aeqF P (aeq d) a b fs.toList
      | _, _ => none
    | _ => none
/-- the two operands of a test: the model's guard lets it pass -/
def guardOk (t : TypeId) : AV → AV → Bool
  | .agg _, .agg _ => match P.eqGuardType P.depth t with
    | true => false
    | false => true
  | .nilif, .nilif => false
  | _, _ => true
/-- of numbers of which one is not known -/
def symOp (op : BinOp) (x y : AV) : Option AV := match toSE x with
  | none => none
  | some (k, a) => match toSE y with
    | none => none
    | some (k', b) => match decide (k = k') with
      | false => none
      | true => match op with
        | .add => match decide (k = .i64) with
          | true => some (.sym k (.bin .add a b))
          | false => match decide (k = .u64) with
            | true => some (.sym k (.ubin .add a b))
            | false => none
        | .sub => match decide (k = .i64) with
          | true => some (.sym k (.bin .sub a b))
          | false => match decide (k = .u64) with
            | true => some (.sym k (.ubin .sub a b))
            | false => none
        | .mul => match decide (k = .i64) with
          | true => some (.sym k (.bin .mul a b))
          | false => match decide (k = .u64) with
            | true => some (.sym k (.ubin .mul a b))
            | false => none
        | .quo => match decide (k = .i64) with
          | true => match askEq b (.lit 0) with
            | some false => some (.sym k (.bin .quo a b))
            | _ => none
          | false => none
        | .rem => match decide (k = .i64) with
          | true => match askEq b (.lit 0) with
            | some false => some (.sym k (.bin .rem a b))
            | _ => none
          | false => none
        | .eql => match askEq a b with
          | some r => some (.bool r)
          | none => none
        | .neq => match askEq a b with
          | some r => some (.bool (!r))
          | none => none
        | .lss => match askLt a b with
          | some r => some (.bool r)
          | none => none
        | .geq => match askLt a b with
          | some r => some (.bool (!r))
          | none => none
        | .gtr => match askLt b a with
          | some r => some (.bool r)
          | none => none
        | .leq => match askLt b a with
          | some r => some (.bool (!r))
          | none => none
        | _ => none
def abinop (op : BinOp) (t : TypeId) (x y : AV) : Option AV := match x, y with
  | .int k a, .int k' b => match op with
    | .shl => ashift .shl k a b
    | .shr => ashift .shr k a b
    | op => match decide (k = k') with
      | true => abin op k a b
      | false => none
  | .sym k a, y => symOp op (.sym k a) y
  | x, .sym k b => symOp op x (.sym k b)
  | .str _, _ => none
  | _, .str _ => none
  | x, y => match guardOk P t x y with
    | false => none
    | true => match op with
      | .eql => match aeq P 40 t x y with
        | some b => some (.bool b)
        | none => none
      | .neq => match aeq P 40 t x y with
        | some b => some (.bool (!b))
        | none => none
      | _ => none
def aun (op : UnOp) (x : AV) : Option AV := match op, x with
  | .neg, .int k n => some (.int k (k.wrap (0 - n)))
  | .xor, .int k n => some (.int k (k.wrap (BitVec.ofInt k.bits (if k.signed then -1 else k.max) ^^^ BitVec.ofInt k.bits n).toNat))
  | .not, .bool b => some (.bool (!b))
  | .not, .bsym c p => some (.bsym c (!p))
  | _, _ => none
def placesT : List Field → Option (List (Nat × Nat))
  | [] => some []
  | f :: fs => match sizeT P f.type with
    | some s => match placesT fs with
      | some r => some ((f.offset, s) :: r)
      | none => none
    | none => none
def inRange (i : Int) (len : Nat) : Option Nat := match i with
  | .ofNat k => match Nat.blt k len with
    | true => some k
    | false => none
  | .negSucc _ => none
/-- a bound of a slice expression: at most 'y' -/
def bnd (d : Nat) (y : Nat) : Option AV → Option Nat
  | none => some d
  | some (.int _ (.ofNat k)) => match Nat.ble k y with
    | true => some k
    | false => none
  | some _ => none
/-- so many on -/
def offAt (off : SE) : Nat → SE
  | 0 => off
  | k + 1 => match off with
    | .lit n => .lit (Int.add n (Int.ofNat (k + 1)))
    | off => .bin .add off (.lit (Int.ofNat (k + 1)))
/-- from where, and how many: two bounds of which the second one is some more than the first one -/
def spanOf (x y : SE) : Option (SE × Nat) := match x, y with
  | .lit a, .lit b => match b - a with
    | .ofNat k => some (.lit a, k)
    | _ => none
  | x, .bin .add x' (.lit (.ofNat k)) => match SE.beq x x' with
    | true => some (x, k)
    | false => none
  | _, _ => none
def asliceOf (e : TypeId) (x : AV) (lo hi mx : Option AV) : Option AV := match x with
  | .nilsl => match bnd 0 0 mx with
    | some _ => match bnd 0 0 hi with
      | some _ => match bnd 0 0 lo with
        | some _ => match hi, mx with
          | none, some _ => none
          | _, _ => match sizeT P e with
            | some _ => some .nilsl
            | none => none
        | none => none
      | none => none
    | none => none
  | .sl n off len sz r => match sizeT P e with
    | none => none
    | some s => match Nat.beq s sz with
      | false => none
      | true => match mx with
        | none => match bnd len len hi with
          | none => none
          | some h => match bnd 0 h lo with
            | none => none
            | some l => match Nat.beq l 0 with
              | true => some (.sl n off h sz r)
              | false => match Nat.blt l h with
                | true => some (.sl n (Nat.add off (Nat.mul l sz)) (Nat.sub h l) sz .any)
                | false => some (.esl n)
        | some _ => match hi with
          | none => none
          | some _ => match bnd 0 len mx with
            | none => none
            | some m => match bnd 0 m hi with
              | none => none
              | some h => match bnd 0 h lo with
                | none => none
                | some l => match Nat.beq l 0 with
                  | true => some (.sl n off h sz (.ex m))
                  | false => none
  | .dsl n len sz => match sizeT P e with
    | none => none
    | some s => match Nat.beq s sz && Nat.blt 0 s with
      | false => none
      | true => match lo, hi, mx with
        | some a, some b, none => match toSE a with
          | none => none
          | some (_, x) => match toSE b with
            | none => none
            | some (_, y) => match spanOf x y with
              | none => none
              | some (x', k) => match askLt x' (.lit 0) with
                | some false => match askLt x' (.lit 1000000000) with
                  | some true => match Nat.blt 0 k && Nat.blt k 1000000000 with
                    | false => none
                    | true => match askLt len (.bin .add x' (.lit (Int.ofNat k))) with
                      | some false => some (.ssl n x' k sz)
                      | _ => match within (offAt x' (Nat.sub k 1)) len with
                        | true => some (.ssl n x' k sz)
                        | false => none
                  | _ => none
                | _ => none
        | _, _, _ => none
  | _ => none
def asCells (e : TypeId) (cs : List AV) (len : Nat) (i : Int) : Option AV := match inRange i len with
  | some k => match sizeT P e with
    | some s => part P e cs (Nat.mul k s)
    | none => none
  | none => none
def aint2 (mx : Bool) : AV → AV → Option AV
  | .int k x, .int _ y => match mx with
    | true => some (.int k (if y > x then y else x))
    | false => some (.int k (if y < x then y else x))
  | x, y => match toSE x with
    | none => none
    | some (k, a) => match toSE y with
      | none => none
      | some (k', b) => match decide (k = k') with
        | false => none
        | true => match mx with
          | true => match askLt a b with
            | some true => some y
            | some false => some x
            | none => none
          | false => none
def afoldInt (mx : Bool) : AV → List AV → Option AV
  | v, [] => some v
  | v, w :: l => match aint2 mx v w with
    | some u => afoldInt mx u l
    | none => none

/-- a place of a slice, or an array, where the index is not known -/
def aindex (t : TypeId) (x : AV) (e : SE) : Option AV := match x with
  | .dsl n len z => match P.underlying t with
    | some (.slice el) => match sizeT P el with
      | some s => match Nat.beq s z with
        | true => match within e len with
          | true => some (.eptr n e z 0)
          | false => none
        | false => none
      | none => none
    | _ => none
  | .sl n off len z _ => match P.underlying t with
    | some (.slice el) => match sizeT P el with
      | some s => match Nat.beq s z && Nat.beq off 0 with
        | true => match within e (.lit (Int.ofNat len)) with
          | true => some (.eptr n e z 0)
          | false => none
        | false => none
      | none => none
    | _ => none
  | .ptr n off => match P.underlying t with
    | some (.array len el) => match sizeT P el with
      | some s => match Nat.beq off 0 with
        | true => match within e (.lit (Int.ofNat len)) with
          | true => some (.eptr n e s 0)
          | false => none
        | false => none
      | none => none
    | _ => none
  | .rsl i => match P.underlying t with
    | some (.slice el) => match sizeT P el with
      | some s => match Nat.beq s 1 with
        | true => match within e (.len (.lvar i)) with
          | true => some (.rptr i e)
          | false => none
        | false => none
      | none => none
    | _ => none
  | _ => none
/-- a bool, as a number; a value, as one of a kind -/
def toCK (k : CK) (v : AV) : Option SE := match k with
  | .int k => match toSE v with
    | some (k', e) => match decide (k = k') with
      | true => some e
      | false => none
    | none => none
  | .bool => match v with
    | .bool b => some (.lit (if b then 1 else 0))
    | .bsym c p => match askC c with
      | some b => some (.lit (if b == p then 1 else 0))
      | none => none
    | _ => none
def ofCK (k : CK) (e : SE) : AV := match k with
  | .int k => .sym k e
  | .bool => .bsym (.eq e (.lit 0)) false
/-- a cell of a record, behind what was changed since -/
def atE (e : SE) (j : Nat) : SE → SE
  | .lset l x k v => match Nat.beq j k with
    | false => atE e j l
    | true => match askEq e x with
      | some true => v
      | some false => match askLt x (.lit 0) with
        | some false => atE e j l
        | _ => .at (.lset l x k v) e j
      | none => .at (.lset l x k v) e j
  | .rep _ => .lit 0
  | l => .at l e j
/-- fields of a record -/
def recGet (l e : SE) (ks : List CK) : Nat → Nat → Option (List AV)
  | _, 0 => some []
  | j, n + 1 => match ks[j]? with
    | some k => match recGet l e ks (Nat.add j 1) n with
      | some r => some (ofCK k (atE e j l) :: r)
      | none => none
    | none => none
def recSet (l e : SE) (ks : List CK) : Nat → List AV → Option SE
  | _, [] => some l
  | j, v :: vs => match ks[j]? with
    | some k => match toCK k v with
      | some x => recSet (.lset l e j x) e ks (Nat.add j 1) vs
      | none => none
    | none => none
def recOf : List CK → List AV → Option SE
  | [], [] => some .rnil
  | k :: ks, v :: vs => match toCK k v with
    | some x => match recOf ks vs with
      | some r => some (.rcons x r)
      | none => none
    | none => none
  | _, _ => none
/-- which record, and which cell of it, lies where -/
def recAt (ks : List CK) (off : Nat) : Nat × Nat := (Nat.div off ks.length, Nat.mod off ks.length)
def recLoad (agg : Bool) (s : Nat) (l e : SE) (ks : List CK) (j : Nat) : Option AV := match within e (lenE l) with
  | false => none
  | true => match agg with
    | true => match recGet l e ks j s with
      | some r => some (.agg r)
      | none => none
    | false => match ks[j]? with
      | some k => some (ofCK k (atE e j l))
      | none => none
/-- an operation that looks at no memory -/
def apure (op : Op) (vs : List AV) : Option AV := match op with
  | .move _ => match vs with
    | [v] => some v
    | _ => none
  | .assign _ => match vs with
    | [v] => some v
    | _ => none
  | .pick _ _ _ => match vs with
    | [.bool true, a, _] => some a
    | [.bool false, _, b] => some b
    | [.bsym c p, a, b] => match askC c with
      | some q => match q == p with
        | true => some a
        | false => some b
      | none => none
    | _ => none
  | .build t parts => match zipParts parts.toList vs with
    | none => none
    | some ps => match zeroT P t with
      | none => none
      | some z => match P.underlying t with
        | some (.struct fs) => match placesT P fs.toList with
          | none => none
          | some pl => match afill (fun i => pl[i]?) z.cells ps with
            | some l => some (.agg l)
            | none => none
        | some (.array _ e) => match sizeT P e with
          | none => none
          | some s => match afill (fun i => some (Nat.mul i s, s)) z.cells ps with
            | some l => some (.agg l)
            | none => none
        | _ => none
  | .nilCheck _ => match vs with
    | [.ptr n o] => some (.ptr n o)
    | [.fn (.func f) a b] => some (.fn (.func f) a b)
    | _ => none
  | .binOp op t _ _ _ => match vs with
    | [x, y] => abinop P op t x y
    | _ => none
  | .unOp op _ _ => match vs with
    | [x] => aun op x
    | _ => none
  | .convert src dst _ => match vs with
    | [.int _ n] => match P.underlying src with
      | none => none
      | some _ => match P.underlying dst with
        | some (.int k) => some (.int k (k.wrap n))
        | _ => none
    | [.sym _ e] => match P.underlying src with
      | none => none
      | some _ => match P.underlying dst with
        | some (.int k) => some (.sym k (.cv k e))
        | _ => none
    | _ => none
  | .makeFunc fn first _ => some (.fn fn (vs.take first.size) (vs.drop first.size))
  | .slice t _ lo hi mx => match P.underlying t with
    | some (.slice e) => match vs, lo, hi, mx with
      | [x], none, none, none => asliceOf P e x none none none
      | [x, a], some _, none, none => asliceOf P e x (some a) none none
      | [x, a], none, some _, none => asliceOf P e x none (some a) none
      | [x, a, b], some _, some _, none => asliceOf P e x (some a) (some b) none
      | [x, a, b], none, some _, some _ => asliceOf P e x none (some a) (some b)
      | [x, a, b, c], some _, some _, some _ => asliceOf P e x (some a) (some b) (some c)
      | _, _, _, _ => none
    | _ => none
  | .fieldAddr s _ f => match vs with
    | [.ptr n off] => match P.underlying s with
      | some (.struct fs) => match fs[f]? with
        | some fd => match sizeT P fd.type with
          | some (_ + 1) => some (.ptr n (Nat.add off fd.offset))
          | _ => none
        | none => none
      | _ => none
    | [.eptr n e z j] => match P.underlying s with
      | some (.struct fs) => match fs[f]? with
        | some fd => match sizeT P fd.type with
          | some (_ + 1) => some (.eptr n e z (Nat.add j fd.offset))
          | _ => none
        | none => none
      | _ => none
    | _ => none
  | .field t _ f => match vs with
    | [.agg cs] => match P.underlying t with
      | some (.struct fs) => match fs[f]? with
        | some fd => part P fd.type cs fd.offset
        | none => none
      | _ => none
    | _ => none
  | .indexAddr t _ _ => match vs with
    | [.sl n off len sz _, .int _ i] => match P.underlying t with
      | some (.slice e) => match inRange i len with
        | some k => match sizeT P e with
          | some s => match Nat.beq s sz with
            | true => some (.ptr n (Nat.add off (Nat.mul k s)))
            | false => none
          | none => none
        | none => none
      | _ => none
    | [.ptr n off, .int _ i] => match P.underlying t with
      | some (.array len e) => match inRange i len with
        | some k => match sizeT P e with
          | some s => some (.ptr n (Nat.add off (Nat.mul k s)))
          | none => none
        | none => none
      | _ => none
    | [.gptr n off, .int _ i] => match P.underlying t with
      | some (.array len e) => match inRange i len with
        | some k => match sizeT P e with
          | some s => some (.gptr n (Nat.add off (Nat.mul k s)))
          | none => none
        | none => none
      | _ => none
    | [.ssl n off len z, .int _ i] => match P.underlying t with
      | some (.slice el) => match inRange i len with
        | some k => match sizeT P el with
          | some s => match Nat.beq s z with
            | true => some (.eptr n (offAt off k) z 0)
            | false => none
          | none => none
        | none => none
      | _ => none
    | [.sl n off len sz r, .sym _ e] => match litOf e with
      | none => aindex P t (.sl n off len sz r) e
      | some i => match P.underlying t with
        | some (.slice el) => match inRange i len with
          | some k => match sizeT P el with
            | some s => match Nat.beq s sz with
              | true => some (.ptr n (Nat.add off (Nat.mul k s)))
              | false => none
            | none => none
          | none => none
        | _ => none
    | [.ptr n off, .sym _ e] => match litOf e with
      | none => aindex P t (.ptr n off) e
      | some i => match P.underlying t with
        | some (.array len el) => match inRange i len with
          | some k => match sizeT P el with
            | some s => some (.ptr n (Nat.add off (Nat.mul k s)))
            | none => none
          | none => none
        | _ => none
    | [.gptr n off, .sym _ e] => match litOf e with
      | none => none
      | some i => match P.underlying t with
        | some (.array len el) => match inRange i len with
          | some k => match sizeT P el with
            | some s => some (.gptr n (Nat.add off (Nat.mul k s)))
            | none => none
          | none => none
        | _ => none
    | [x, y] => match toSE y with
      | none => none
      | some (_, e) => aindex P t x e
    | _ => none
  | .index t _ _ => match vs with
    | [.agg cs, .int _ i] => match P.underlying t with
      | some (.array len e) => asCells P e cs len i
      | _ => none
    | _ => none
  | .extract _ i => match vs with
    | [.tup l] => l[i]?
    | _ => none
  | .makeInterface t _ => match vs with
    | [v] => match P.underlying t with
      | some (.interface _) => none
      | some _ => some (.ifc t v)
      | none => none
    | _ => none
  | .typeAssert _ _ t ok => match vs with
    | [.ifc t' v] => match P.underlying t with
      | some (.interface _) => none
      | some _ => match Nat.beq t' t with
        | true => match ok with
          | true => some (.tup [v, .bool true])
          | false => some v
        | false => match ok with
          | true => match zeroT P t with
            | some z => some (.tup [z, .bool false])
            | none => none
          | false => none
      | none => none
    | [.nilif] => match P.underlying t with
      | some (.interface _) => none
      | some _ => match ok with
        | true => match zeroT P t with
          | some z => some (.tup [z, .bool false])
          | none => none
        | false => none
      | none => none
    | _ => none
  | .call c => match c.callee with
    | .builtin .cap => match c.argTypes[0]? with
      | some t => match P.underlying t with
        | some (.slice _) => match vs with
          | [.nilsl] => some (.int .i64 0)
          | [.sl _ _ _ _ (.ex n)] => some (.int .i64 (Int.ofNat n))
          | _ => none
        | _ => none
      | none => none
    | .builtin .max => match vs with
      | v :: l => afoldInt true v l
      | _ => none
    | .builtin .min => match vs with
      | v :: l => afoldInt false v l
      | _ => none
    | _ => none
  | _ => none

/-- where a key lies, and what lies there -/
def lookE (k : IntKind) (e : SE) : List (AV × AV) → Option (Option (Nat × AV))
  | [] => some none
  | (x, v) :: es => match toSE x with
    | none => none
    | some (k', e') => match decide (k = k') with
      | false => none
      | true => match askEq e e' with
        | some true => some (some (0, v))
        | some false => match lookE k e es with
          | some (some (n, u)) => some (some (Nat.add n 1, u))
          | r => r
        | none => none
def lookAV (es : List (AV × AV)) (y : AV) : Option (Option (Nat × AV)) := match toSE y with
  | some (k, e) => lookE k e es
  | none => none
/-- a value without unknown numbers -/
def litV1 : AV → Option Value
  | .bool b => some (.bool b)
  | .int k n => some (.int k n)
  | _ => none
def litVs : List AV → Option (List Value)
  | [] => some []
  | v :: l => match litV1 v with
    | some x => match litVs l with
      | some xs => some (x :: xs)
      | none => none
    | none => none
def litV : AV → Option Value
  | .agg l => match litVs l with
    | some vs => some (.agg vs.toArray)
    | none => none
  | _ => none
/-- a key that is a struct of numbers -/
def keyA (kt : TypeId) (y : AV) : Bool := match litV y with
  | some v => P.keyTypeAt 20 kt && (v.formed P kt && (P.keyLits 20 kt v.cells.toList).isSome)
  | none => false
def lookA (beq : AV → AV → Bool) (kt : TypeId) (y : AV) : List (AV × AV) → Option (Option (Nat × AV))
  | [] => some none
  | (x, v) :: es => match aeq P 40 kt y x with
    | some true => match beq y x with
      | true => some (some (0, v))
      | false => none
    | some false => match lookA beq kt y es with
      | some (some (n, u)) => some (some (Nat.add n 1, u))
      | r => r
    | none => none
def litEq (y x : AV) : Bool := match y, x with
  | .agg a, .agg b => go a b
  | _, _ => false
where
  go : List AV → List AV → Bool
  | [], [] => true
  | .int k n :: a, .int k' n' :: b => decide (k = k') && (n == n' && go a b)
  | _, _ => false
/-- where a key lies, and what lies there, by the key's type -/
def lookM (kt : TypeId) (es : List (AV × AV)) (y : AV) : Option (Option (Nat × AV)) := match P.underlying kt with
  | some (.int _) => lookAV es y
  | some (.struct _) => match keyA P kt y with
    | true => lookA P litEq kt y es
    | false => none
  | _ => none
/-- entries that an iterator has not seen -/
def leftOf : List (AV × AV) → List Nat → List Nat → List (AV × AV × Nat)
  | (k, v) :: es, b :: bs, seen => match seen.contains b with
    | true => leftOf es bs seen
    | false => (k, v, b) :: leftOf es bs seen
  | _, _, _ => []
/-- the entry that an iterator stepped to -/
def lastOf : List Nat → Option Nat
  | [] => none
  | b :: l => match lastOf l with
    | some c => some c
    | none => some b
def atStamp (b : Nat) : List (AV × AV) → List Nat → Option (AV × AV)
  | p :: es, c :: bs => match Nat.beq c b with
    | true => some p
    | false => atStamp b es bs
  | _, _ => none
/-- not all that an iterator saw are gone -/
def okNext (bs seen : List Nat) (last : Nat) : Bool := seen.isEmpty || (bs.isEmpty || bs.any fun b => Nat.blt b last)
/-- an operation that reads memory -/
def aread (op : Op) (vs : List AV) (h : AH) : Option AV := match op with
  | .load t _ => match vs with
    | [.ptr n off] => match h.get n with
      | some (.cells cs _ _) => match aggT P t with
        | some true => match sizeT P t with
          | some s => match getN cs off s with
            | some l => some (.agg l)
            | none => none
          | none => none
        | some false => cs.get off
        | none => none
      | some (.recs l ks _) => match aggT P t with
        | some b => match sizeT P t with
          | some s => match Nat.blt 0 ks.length with
            | true => recLoad b s l (.lit (Int.ofNat (recAt ks off).1)) ks (recAt ks off).2
            | false => none
          | none => none
        | none => none
      | _ => none
    | [.eptr n e z j] => match h.get n with
      | some (.recs l ks _) => match Nat.beq z ks.length with
        | true => match aggT P t with
          | some b => match sizeT P t with
            | some s => recLoad b s l e ks j
            | none => none
          | none => none
        | false => none
      | _ => none
    | [.rptr i e] => match aggT P t with
      | some false => match Fc.rk i with
        | some k => some (ofCK k (.at (.lvar i) e 0))
        | none => none
      | _ => none
    | [.gptr g off] => match findG g Fc.globs with
      | some l => match aggT P t with
        | some false => match l[off]? with
          | some c => some (.int .i64 c)
          | none => none
        | _ => none
      | none => none
    | _ => none
  | .entry _ => match vs with
    | [.ptr n 0] => match h.get n with
      | some (.mit (some m) _ seen last) => match h.get m with
        | some (.map es bs ck) => match Nat.beq ck last with
          | true => match lastOf seen with
            | some b => match atStamp b es bs with
              | some (k, v) => some (.tup [k, v])
              | none => none
            | none => none
          | false => none
        | _ => none
      | _ => none
    | _ => none
  | .lookup t _ _ ok => match P.underlying t with
    | some (.map kt e) => match vs with
      | [x, y] => match (match x with
          | .nilmap => some []
          | .map n => match h.get n with
            | some (.map es _ _) => some es
            | _ => none
          | _ => none) with
        | none => none
        | some es => match lookM P kt es y with
          | none => none
          | some (some (_, v)) => match ok with
            | true => some (.tup [v, .bool true])
            | false => some v
          | some none => match zeroT P e with
            | none => none
            | some z => match ok with
              | true => some (.tup [z, .bool false])
              | false => some z
      | _ => none
    | _ => none
  | .call c => match c.callee with
    | .builtin .len => match vs, c.argTypes[0]? with
      | [x], some t => match P.underlying t with
        | some (.slice _) => match x with
          | .nilsl => some (.int .i64 0)
          | .esl _ => some (.int .i64 0)
          | .zsl => some (.int .i64 0)
          | .osl e => some (.sym .i64 e)
          | .sl _ _ len _ _ => some (.int .i64 (Int.ofNat len))
          | .dsl _ e _ => some (.sym .i64 e)
          | .ssl _ _ len _ => some (.int .i64 (Int.ofNat len))
          | .rsl i => some (.sym .i64 (.len (.lvar i)))
          | _ => none
        | some (.array n _) => some (.int .i64 (Int.ofNat n))
        | some (.map _ _) => match x with
          | .nilmap => some (.int .i64 0)
          | .map n => match h.get n with
            | some (.map es _ _) => some (.int .i64 (Int.ofNat es.length))
            | _ => none
          | _ => none
        | _ => none
      | _, _ => none
    | _ => none
  | _ => none

inductive AK where
  | ptr
  | sl (len sz : Nat)
  | dsl (len : SE) (sz : Nat)
  | map
def AK.at (k : AK) (n : Nat) : AV := match k with
  | .ptr => .ptr n 0
  | .sl len sz => .sl n 0 len sz .whole
  | .dsl len sz => .dsl n len sz
  | .map => .map n
def cellsOf (e : TypeId) (l : List AV) : AO := .cells (mkCells l) l.length e
/-- an operation that makes a block -/
def aalloc (op : Op) (vs : List AV) : Option (AO × AK) := match op with
  | .alloc t => match zeroT P t with
    | some z => match allOne z.cells with
      | true => some (cellsOf t z.cells, .ptr)
      | false => none
    | none => none
  | .box t _ => match vs with
    | [v] => match allOne v.cells with
      | true => some (cellsOf t v.cells, .ptr)
      | false => none
    | _ => none
  | .buildSlice t len parts => match P.underlying t with
    | some (.slice e) => match sizeT P e with
      | none => none
      | some s => match Nat.ble (Nat.mul len s) 16777216 && Nat.ble len 16777216 with
        | false => none
        | true => match zeroT P e with
          | none => none
          | some z => match Nat.beq z.cells.length s with
            | false => none
            | true => match zipParts parts.toList vs with
              | none => none
              | some ps => match afill (fun i => some (Nat.mul i s, s)) (rep len z.cells) ps with
                | none => none
                | some l => match allOne l with
                  | true => some (cellsOf e l, .sl len s)
                  | false => none
    | _ => none
  | .makeMap _ r => match r with
    | none => match vs with
      | [] => some (.map [] [] 0, .map)
      | _ => none
    | some _ => none
  | .makeSlice t _ _ => match P.underlying t with
    | some (.slice e) => match P.info? e with
      | none => none
      | some i => match vs with
        | [.int _ (.ofNat l), .int _ (.ofNat c)] => match Nat.ble l c with
          | false => none
          | true => match Nat.ble (Nat.mul i.bytes c) 281474976710656 with
            | false => none
            | true => match Nat.ble c 9223372036854775807 with
              | false => none
              | true => match zeroT P e with
                | none => none
                | some z => match Nat.beq z.cells.length i.size with
                  | false => none
                  | true => match Nat.blt 0 i.size with
                    | false => none
                    | true => match allOne z.cells with
                      | true => some (cellsOf e (rep c z.cells), .sl l i.size)
                      | false => none
        | [.sym _ a, .sym _ b] => match SE.beq a b with
          | false => none
          | true => match askLt a (.lit 0) with
            | some false => match askLt a (.lit 16777216) with
              | some true => match Nat.ble i.bytes 16777216 with
                | false => none
                | true => match zeroT P e with
                  | some (.int k 0) => match Nat.beq i.size 1 with
                    | true => some (.recs (.rep a) [.int k] e, .dsl a 1)
                    | false => none
                  | _ => none
              | _ => none
            | _ => none
        | _ => none
    | _ => none
  | _ => none

inductive AN where
  | val (v : AV) (h : AH)
  | call (f : FuncId) (args : List AV)
/-- cells of a source of append -/
def srcCells (h : AH) (s : Nat) : AV → Option (Nat × List AV)
  | .nilsl => some (0, [])
  | .esl _ => some (0, [])
  | .sl n off len sz _ => match Nat.beq sz s with
    | false => none
    | true => match h.get n with
      | some (.cells cs _ _) => match getN cs off (Nat.mul len sz) with
        | some l => some (len, l)
        | none => none
      | _ => none
  | _ => none
def fresh (h : AH) (o : AO) : Option AH := match Nat.blt h.next 1000000 with
  | true => some ((h.put h.next (some o)).skip 1)
  | false => none
def aappend (t : TypeId) (s x : AV) (h : AH) : Option (AV × AH) := match P.underlying t with
  | some (.slice e) => match P.info? e with
    | none => none
    | some i => match Nat.blt 0 i.size with
      | false => none
      | true => match i.zero with
        | none => none
        | some z => match Nat.beq z.cells.size i.size with
          | false => none
          | true => match srcCells h i.size x with
            | none => none
            | some (0, _) => match s with
              | .nilsl => some (.nilsl, h)
              | .esl n => some (.esl n, h)
              | .sl n off len sz r => some (.sl n off len sz r, h)
              | _ => none
            | some (m, news) => match s with
              | .nilsl => match Nat.ble m 9223372036854775807 with
                | false => none
                | true => match Nat.ble (Nat.mul m i.bytes) 140737488355328 with
                  | false => none
                  | true => match fresh h (cellsOf e news) with
                    | some h' => some (.sl h.next 0 m i.size .whole, h')
                    | none => none
              | .sl n 0 len sz r => match Nat.beq sz i.size with
                | false => none
                | true => match h.get n with
                  | some (.cells cs k e') => match Nat.beq e' e with
                    | false => none
                    | true => match Nat.ble (Nat.add len m) 9223372036854775807 with
                      | false => none
                      | true => match Nat.ble (Nat.mul (Nat.add len m) i.bytes) 140737488355328 with
                        | false => none
                        | true => match r with
                          | .whole => match Nat.ble (Nat.mul (Nat.add len m) sz) k with
                            | true => some (.sl n 0 (Nat.add len m) sz .whole, h.put n (some (.cells (setN cs (Nat.mul len sz) news) k e')))
                            | false => match getN cs 0 (Nat.mul len sz) with
                              | none => none
                              | some olds => match fresh (h.put n none) (cellsOf e (olds ++ news)) with
                                | some h' => some (.sl h.next 0 (Nat.add len m) sz .whole, h')
                                | none => none
                          | .ex c => match Nat.blt c (Nat.add len m) with
                            | false => none
                            | true => match getN cs 0 (Nat.mul len sz) with
                              | none => none
                              | some olds => match fresh h (cellsOf e (olds ++ news)) with
                                | some h' => some (.sl h.next 0 (Nat.add len m) sz .whole, h')
                                | none => none
                          | .any => none
                  | _ => none
              | .dsl n e' sz => match Nat.beq sz i.size with
                | false => none
                | true => match Nat.beq m 1 with
                  | false => none
                  | true => match h.get n with
                    | some (.recs l ks e0) => match Nat.beq e0 e && Nat.beq ks.length sz with
                      | false => none
                      | true => match SE.beq e' (lenE l) with
                        | false => none
                        | true => match askLt e' (.lit 1000000) with
                          | some true => match Nat.ble i.bytes 1000000 with
                            | false => none
                            | true => match recOf ks news with
                              | none => none
                              | some r => match fresh (h.put n none) (.recs (.lsnoc l r) ks e) with
                                | some h' => some (.dsl h.next (lenE (.lsnoc l r)) sz, h')
                                | none => none
                          | _ => none
                    | _ => none
              | _ => none
  | _ => none
/-- where a stamp stands -/
def idxOf (b : Nat) : List Nat → Option Nat
  | [] => none
  | c :: l => match Nat.beq c b with
    | true => some 0
    | false => match idxOf b l with
      | some j => some (Nat.add j 1)
      | none => none
/-- an operation that changes memory, or calls -/
def aloud (op : Op) (vs : List AV) (h : AH) : Option AN := match op with
  | .store t _ _ => match vs with
    | [.ptr n off, v] => match sizeT P t with
      | none => none
      | some s => match Nat.beq v.cells.length s with
        | false => none
        | true => match allOne v.cells with
          | false => none
          | true => match h.get n with
            | some (.cells cs k e) => match Nat.ble (Nat.add off s) k with
              | false => none
              | true => some (.val und (h.put n (some (.cells (setN cs off v.cells) k e))))
            | some (.recs l ks e) => match Nat.blt 0 ks.length with
              | true => recStore n l (.lit (Int.ofNat (recAt ks off).1)) ks e (recAt ks off).2 v h
              | false => none
            | _ => none
    | [.eptr n x z j, v] => match sizeT P t with
      | none => none
      | some s => match Nat.beq v.cells.length s with
        | false => none
        | true => match allOne v.cells with
          | false => none
          | true => match h.get n with
            | some (.recs l ks e) => match Nat.beq z ks.length with
              | true => recStore n l x ks e j v h
              | false => none
            | _ => none
    | _ => none
  | .mapUpdate t _ _ _ => mapPut t vs h
  | .insert t _ _ _ => mapPut t vs h
  | .mapEntry t _ _ => mapEnt t vs h
  | .entryStore _ _ _ _ => entSto vs h
  | .range t _ => match P.underlying t with
    | some (.map _ _) => arange vs h
    | _ => none
  | .next _ st => match st with
    | true => none
    | false => anext vs h
  | .call c => match c.callee with
    | .value _ => match vs with
      | .fn (.func f) a b :: args => some (.call f (a ++ (args ++ b)))
      | _ => none
    | .builtin .delete => match c.argTypes[0]? with
      | some t => mapDel t vs h
      | none => none
    | .builtin .copy => match vs, c.argTypes with
      | [d, s], ⟨[t, _]⟩ => acopy t d s h
      | _, _ => none
    | .builtin .append => match vs, c.argTypes with
      | [s, x], ⟨[t, t']⟩ => match Nat.beq t t' with
        | false => azeros t t' s x h
        | true => match aappend P t s x h with
          | some (v, h') => some (.val v h')
          | none => none
      | _, _ => none
    | _ => none
  | _ => none
where
  azeros (t t' : TypeId) (s x : AV) (h : AH) : Option AN := match s with
    | .nilsl => match x with
      | .int _ (.ofNat m) => match P.underlying t with
        | some (.slice e) => match P.underlying t' with
          | some (.int _) => match P.info? e with
            | none => none
            | some i => match zeroT P e with
              | none => none
              | some z => match Nat.beq z.cells.length i.size && (Nat.blt 0 i.size && allOne z.cells) with
                | false => none
                | true => match Nat.blt 0 m && (Nat.ble m 9223372036854775807 && Nat.ble (Nat.mul m i.bytes) 140737488355328) with
                  | false => none
                  | true => match fresh h (cellsOf e (rep m z.cells)) with
                    | some h' => some (.val (.sl h.next 0 m i.size .whole) h')
                    | none => none
          | _ => none
        | _ => none
      | _ => none
    | _ => none
  acopy (t : TypeId) (d s : AV) (h : AH) : Option AN := match P.underlying t with
    | some (.slice e) => match sizeT P e with
      | none => none
      | some z => match d with
        | .sl n off len sz _ => match Nat.beq sz z with
          | false => none
          | true => match srcCells h z s with
            | none => none
            | some (m, l) => match Nat.blt 0 m with
              | false => none
              | true => match h.get n with
                | some (.cells cs k e') => match Nat.ble (Nat.add off (Nat.mul (Nat.min m len) z)) k with
                  | true => some (.val (.int .i64 (Int.ofNat (Nat.min m len))) (h.put n (some (.cells (setN cs off (l.take (Nat.mul (Nat.min m len) z))) k e'))))
                  | false => none
                | _ => none
        | _ => none
    | _ => none
  recStore (n : Nat) (l x : SE) (ks : List CK) (e : TypeId) (j : Nat) (v : AV) (h : AH) : Option AN := match within x (lenE l) with
    | false => none
    | true => match recSet l x ks j v.cells with
      | some l' => some (.val und (h.put n (some (.recs l' ks e))))
      | none => none
  arange (vs : List AV) (h : AH) : Option AN := match vs with
    | [.nilmap] => match fresh h (.mit none 0 [] 0) with
      | some h' => some (.val (.ptr h.next 0) h')
      | none => none
    | [.map n] => match h.get n with
      | some (.map _ _ ck) => match fresh h (.mit (some n) ck [] ck) with
        | some h' => some (.val (.ptr h.next 0) h')
        | none => none
      | _ => none
    | _ => none
  anext (vs : List AV) (h : AH) : Option AN := match vs with
    | [.ptr n 0] => match h.get n with
      | some (.mit none _ _ _) => some (.val (.tup [.bool false]) h)
      | some (.mit (some m) since seen last) => match h.get m with
        | some (.map es bs ck) => match okNext bs seen last with
          | false => none
          | true => match leftOf es bs seen with
            | [] => some (.val (.tup [.bool false]) h)
            | [(k, v, b)] => match Nat.blt b since with
              | true => some (.val (.tup [.bool true, k, v]) (h.put n (some (.mit (some m) since (seen ++ [b]) ck))))
              | false => none
            | _ => none
        | _ => none
      | _ => none
    | _ => none
  mapDel (t : TypeId) (vs : List AV) (h : AH) : Option AN := match P.underlying t with
    | some (.map kt _) => match vs with
      | [.map n, y] => match h.get n with
        | some (.map es bs ck) => match lookM P kt es y with
          | none => none
          | some none => some (.val und (h.put n (some (.map es bs ck))))
          | some (some (j, _)) => some (.val und (h.put n (some (.map (es.eraseIdx j) (bs.eraseIdx j) ck))))
        | _ => none
      | _ => none
    | _ => none
  mapPut (t : TypeId) (vs : List AV) (h : AH) : Option AN := match P.underlying t with
    | some (.map kt _) => match vs with
      | [.map n, y, v] => match h.get n with
        | some (.map es bs ck) => match lookM P kt es y with
          | none => none
          | some (some (j, _)) => some (.val und (h.put n (some (.map (es.modify j fun p => (p.1, v)) bs ck))))
          | some none => some (.val und (h.put n (some (.map (es ++ [(y, v)]) (bs ++ [ck]) (Nat.add ck 1)))))
        | _ => none
      | _ => none
    | _ => none
  mapEnt (t : TypeId) (vs : List AV) (h : AH) : Option AN := match P.underlying t with
    | some (.map kt e) => match vs with
      | [.map n, y] => match h.get n with
        | some (.map es bs ck) => match lookM P kt es y with
          | none => none
          | some (some (j, v)) => match (bs[j]? : Option Nat) with
            | some b => some (.val (.tup [v, .int .i64 (Int.ofNat b)]) (h.put n (some (.map es bs ck))))
            | none => none
          | some none => match zeroT P e with
            | none => none
            | some z => some (.val (.tup [z, .int .i64 (Int.ofNat ck)]) (h.put n (some (.map (es ++ [(y, z)]) (bs ++ [ck]) (Nat.add ck 1)))))
        | _ => none
      | _ => none
    | _ => none
  entSto (vs : List AV) (h : AH) : Option AN := match vs with
    | [.map n, .int _ (.ofNat b), v] => match h.get n with
      | some (.map es bs ck) => match idxOf b bs with
        | some j => some (.val und (h.put n (some (.map (es.modify j fun p => (p.1, v)) bs ck))))
        | none => none
      | _ => none
    | _ => none

inductive Kd where
  | pure
  | read
  | alloc
  | loud
def kd : Op → Kd
  | .load .. | .lookup .. | .entry _ => .read
  | .alloc _ | .box .. | .buildSlice .. | .makeMap .. | .makeSlice .. => .alloc
  | .store .. | .mapUpdate .. | .insert .. | .mapEntry .. | .entryStore .. | .range .. | .next .. => .loud
  | .call c => match c.callee with
    | .builtin .len => .read
    | .builtin .append => .loud
    | .builtin .delete => .loud
    | .builtin .copy => .loud
    | .builtin _ => .pure
    | _ => .loud
  | _ => .pure
end
end
end Go.Proofs.YtfgomgodfcdijaaGreatDoor.Ex
