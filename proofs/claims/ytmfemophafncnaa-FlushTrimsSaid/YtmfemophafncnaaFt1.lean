/-
  Texts of this claim, joined. No condition.
-/
import Derived.Test.YtmfemophafncnaaRows
import Derived.WalkKit
import Derived.ProofKit
import Derived.DeepKeys3
import Derived.Maps.AppendAt
import Derived.Laws.CopyRow
import Derived.Deep.MidRow
import Derived.Laws.StructEq
import Derived.Laws.Tables
import Derived.Scope
import Derived.LoopN
/-
  A runner of calls without inputs: it runs the model's code over memory whose blocks bear names. Here: what it computes. No condition.
-/
namespace Go.Proofs.Ytmfemophafncnaa.Ex
open Go
noncomputable section

/-- a table by number -/
inductive T (α : Type) where
  | e
  | n (l : T α) (v : Option α) (r : T α)
/-- where a number's value lies -/
inductive Ps where
  | x
  | h
  | o (p : Ps)
  | i (p : Ps)
/-- numbers below 2^20 - 1 are served -/
def top : Nat := 1048575
def toPs : Nat → Nat → Ps
  | 0, _ => .x
  | d + 1, k => match Nat.beq k 0 with
    | true => .h
    | false => match Nat.beq (Nat.mod k 2) 1 with
      | true => .i (toPs d (Nat.div k 2))
      | false => .o (toPs d (Nat.sub (Nat.div k 2) 1))
noncomputable def T.getP {α : Type} (p : Ps) : T α → Option α :=
  Ps.rec (motive := fun _ => T α → Option α) (fun _ => none)
    (fun t => T.rec (motive := fun _ => Option α) none (fun _ v _ _ _ => v) t)
    (fun _ ih t => T.rec (motive := fun _ => Option α) none (fun _ _ r _ _ => ih r) t)
    (fun _ ih t => T.rec (motive := fun _ => Option α) none (fun l _ _ _ _ => ih l) t) p
noncomputable def T.setP {α : Type} (x : Option α) (p : Ps) : T α → T α :=
  Ps.rec (motive := fun _ => T α → T α) (fun t => t)
    (fun t => T.rec (motive := fun _ => T α) (.n .e x .e) (fun l _ r _ _ => .n l x r) t)
    (fun _ ih t => T.rec (motive := fun _ => T α) (.n .e none (ih .e)) (fun l v r _ _ => .n l v (ih r)) t)
    (fun _ ih t => T.rec (motive := fun _ => T α) (.n (ih .e) none .e) (fun l v r _ _ => .n (ih l) v r) t) p
noncomputable def T.get {α : Type} (t : T α) (k : Nat) : Option α := T.getP (toPs 20 k) t
noncomputable def T.put {α : Type} (t : T α) (k : Nat) (x : Option α) : T α := T.setP x (toPs 20 k) t

/-- a number that is not known -/
inductive SO where
  | add
  | sub
  | mul
  | quo
  | rem
inductive SE where
  | var (i : Nat)
  | lit (n : Int)
  | bin (op : SO) (a b : SE)
  | ubin (op : SO) (a b : SE)
  | cv (k : IntKind) (a : SE)
  /-- the i-th list of records; one with a record's field turned; one with one more; a record; a field; a length -/
  | lvar (i : Nat)
  | lset (l e : SE) (j : Nat) (v : SE)
  | lsnoc (l r : SE)
  | rnil
  /-- so many records of zeros -/
  | rep (n : SE)
  | rcons (v r : SE)
  | at (l e : SE) (j : Nat)
  | len (l : SE)
/-- what a record's field is -/
inductive CK where
  | int (k : IntKind)
  | bool
def SO.beq : SO → SO → Bool
  | .add, .add => true
  | .sub, .sub => true
  | .mul, .mul => true
  | .quo, .quo => true
  | .rem, .rem => true
  | _, _ => false
def SE.beq : SE → SE → Bool
  | .var i, .var j => Nat.beq i j
  | .lit m, .lit n => m == n
  | .bin o a b, .bin o' a' b' => SO.beq o o' && (SE.beq a a' && SE.beq b b')
  | .ubin o a b, .ubin o' a' b' => SO.beq o o' && (SE.beq a a' && SE.beq b b')
  | .cv k a, .cv k' a' => decide (k = k') && SE.beq a a'
  | .lvar i, .lvar j => Nat.beq i j
  | .lset l e j v, .lset l' e' j' v' => (SE.beq l l' && SE.beq e e') && (Nat.beq j j' && SE.beq v v')
  | .lsnoc l r, .lsnoc l' r' => SE.beq l l' && SE.beq r r'
  | .rnil, .rnil => true
  | .rep a, .rep b => SE.beq a b
  | .rcons v r, .rcons v' r' => SE.beq v v' && SE.beq r r'
  | .at l e j, .at l' e' j' => SE.beq l l' && (SE.beq e e' && Nat.beq j j')
  | .len l, .len l' => SE.beq l l'
  | _, _ => false
def CK.beq : CK → CK → Bool
  | .int k, .int k' => decide (k = k')
  | .bool, .bool => true
  | _, _ => false
/-- a list's length -/
def lenE : SE → SE
  | .lset l _ _ _ => lenE l
  | l => .len l
/-- what may be known of numbers -/
inductive Cnd where
  | lt (a b : SE)
  | eq (a b : SE)
/-- what is known of them -/
class Fc where
  facts : List (Cnd × Bool)
  /-- package-level tables of numbers that nobody changes -/
  globs : List (Nat × List Int) := []
  /-- slices of numbers that nobody changes: of which kind -/
  rks : List (Nat × CK) := []
def findK (i : Nat) : List (Nat × CK) → Option CK
  | [] => none
  | (x, k) :: r => match Nat.beq x i with
    | true => some k
    | false => findK i r
def Fc.rk [Fc] (i : Nat) : Option CK := findK i Fc.rks
def findG (g : Nat) : List (Nat × List Int) → Option (List Int)
  | [] => none
  | (x, l) :: r => match Nat.beq x g with
    | true => some l
    | false => findG g r
def findLt (a b : SE) : List (Cnd × Bool) → Option Bool
  | [] => none
  | (.lt x y, r) :: l => match SE.beq x a && SE.beq y b with
    | true => some r
    | false => findLt a b l
  | _ :: l => findLt a b l
def findEq (a b : SE) : List (Cnd × Bool) → Option Bool
  | [] => none
  | (.eq x y, r) :: l => match SE.beq x a && SE.beq y b with
    | true => some r
    | false => findEq a b l
  | _ :: l => findEq a b l
/-- bounds of a number -/
def lowOf (e : SE) : List (Cnd × Bool) → Option Int
  | [] => none
  | (.lt x (.lit n), false) :: l => match SE.beq x e with
    | true => match lowOf e l with
      | none => some n
      | some m => some (if m < n then n else m)
    | false => lowOf e l
  | (.lt (.lit n) x, true) :: l => match SE.beq x e with
    | true => match lowOf e l with
      | none => some (n + 1)
      | some m => some (if m < n + 1 then n + 1 else m)
    | false => lowOf e l
  | (.eq x (.lit n), true) :: l => match SE.beq x e with
    | true => some n
    | false => lowOf e l
  | _ :: l => lowOf e l
def highOf (e : SE) : List (Cnd × Bool) → Option Int
  | [] => none
  | (.lt x (.lit n), true) :: l => match SE.beq x e with
    | true => match highOf e l with
      | none => some (n - 1)
      | some m => some (if n - 1 < m then n - 1 else m)
    | false => highOf e l
  | (.lt (.lit n) x, false) :: l => match SE.beq x e with
    | true => match highOf e l with
      | none => some n
      | some m => some (if n < m then n else m)
    | false => highOf e l
  | (.eq x (.lit n), true) :: l => match SE.beq x e with
    | true => some n
    | false => highOf e l
  | _ :: l => highOf e l
def inI64 (lo hi : Int) : Option (Int × Int) := match decide (-9223372036854775808 ≤ lo) && decide (hi ≤ 9223372036854775807) with
  | true => some (lo, hi)
  | false => none
def ivAt (fs : List (Cnd × Bool)) (e : SE) : Option (Int × Int) := match lowOf e fs with
    | none => none
    | some lo => match highOf e fs with
      | none => none
      | some hi => some (lo, hi)
def ivOf (fs : List (Cnd × Bool)) : SE → Option (Int × Int)
  | .lit n => some (n, n)
  | .var i => ivAt fs (.var i)
  | .at l e j => ivAt fs (.at l e j)
  | .len l => ivAt fs (.len l)
  | .bin o a b => match ivOf fs a with
    | none => none
    | some (la, ha) => match ivOf fs b with
      | none => none
      | some (lb, hb) => match o with
        | .add => inI64 (la + lb) (ha + hb)
        | .sub => inI64 (la - hb) (ha - lb)
        | .mul => match decide (0 ≤ la) && decide (0 ≤ lb) with
          | true => inI64 (la * lb) (ha * hb)
          | false => none
        | .quo => match decide (0 ≤ la) && decide (0 < lb) with
          | true => inI64 0 ha
          | false => none
        | .rem => match decide (0 ≤ la) && decide (0 < lb) with
          | true => inI64 0 (hb - 1)
          | false => none
  | .cv k a => match k with
    | .u64 => match ivOf fs a with
      | some (la, ha) => match decide (0 ≤ la) with
        | true => inI64 la ha
        | false => none
      | none => none
    | .i64 => match ivOf fs a with
      | some (la, ha) => inI64 la ha
      | none => none
    | _ => none
  | _ => none
section
variable [Fc]
def askLt (a b : SE) : Option Bool := match SE.beq a b with
  | true => some false
  | false => match findLt a b Fc.facts with
    | some r => some r
    | none => match ivOf Fc.facts a with
      | none => none
      | some (la, ha) => match ivOf Fc.facts b with
        | none => none
        | some (lb, hb) => match decide (ha < lb) with
          | true => some true
          | false => match decide (hb ≤ la) with
            | true => some false
            | false => none
def askEq (a b : SE) : Option Bool := match SE.beq a b with
  | true => some true
  | false => match findEq a b Fc.facts with
    | some r => some r
    | none => match ivOf Fc.facts a with
      | none => none
      | some (la, ha) => match ivOf Fc.facts b with
        | none => none
        | some (lb, hb) => match decide (ha < lb) || decide (hb < la) with
          | true => some false
          | false => none
def askC : Cnd → Option Bool
  | .lt a b => askLt a b
  | .eq a b => askEq a b
/-- a number that is known -/
def litOf (e : SE) : Option Int := match ivOf Fc.facts e with
  | some (lo, hi) => match lo == hi with
    | true => some lo
    | false => none
  | none => none
/-- an index of a list -/
def within (e n : SE) : Bool := match askLt e (.lit 0) with
  | some false => match askLt e n with
    | some true => true
    | _ => false
  | _ => false
end
/-- what is known of a slice's room -/
inductive Room where
  | whole
  | any
  | ex (c : Nat)
/-- a value over named blocks -/
inductive AV where
  | bool (b : Bool)
  | int (k : IntKind) (n : Int)
  | sym (k : IntKind) (e : SE)
  /-- a question's answer, or its contrary -/
  | bsym (c : Cnd) (p : Bool)
  | str (s : ByteArray)
  | nilp
  /-- the j-th cell of the e-th record of so many cells -/
  | eptr (n : Nat) (e : SE) (s j : Nat)
  /-- a slice of so many records of so many cells, and all of its block -/
  | dsl (n : Nat) (e : SE) (s : Nat)
  /-- so many records of it, from one on -/
  | ssl (n : Nat) (e : SE) (len s : Nat)
  /-- a slice of numbers that nobody changes; a place of it -/
  | rsl (i : Nat)
  | rptr (i : Nat) (e : SE)
  | ptr (n off : Nat)
  | gptr (g off : Nat)
  | nilsl
  | sl (n off len sz : Nat) (r : Room)
  | esl (n : Nat)
  /-- a slice of nothing, nil or not -/
  | zsl
  /-- a slice of which its length alone is known -/
  | osl (e : SE)
  | nilmap
  | map (n : Nat)
  | fn (f : Fn) (first cap : List AV)
  | nilfn
  | nilif
  | ifc (t : TypeId) (v : AV)
  | agg (l : List AV)
  | tup (l : List AV)

def AV.one : AV → Bool
  | .agg _ | .tup _ => false
  | _ => true
def AV.cells : AV → List AV
  | .agg l => l
  | v => [v]
def und : AV := .tup []

mutual
/-- a constant of the text -/
def ofV : Value → Option AV
  | .bool b => some (.bool b)
  | .int k n => some (.int k n)
  | .string s => some (.str s)
  | .pointer none => some .nilp
  | .slice none 0 0 => some .nilsl
  | .map none => some .nilmap
  | .nilFunc => some .nilfn
  | .nilIface => some .nilif
  | .agg cs => (ofA cs).map .agg
  | .tuple cs => (ofA cs).map .tup
  | _ => none
def ofA : Array Value → Option (List AV)
  | ⟨l⟩ => ofL l
def ofL : List Value → Option (List AV)
  | [] => some []
  | v :: l => match ofV v with
    | some x => match ofL l with
      | some xs => some (x :: xs)
      | none => none
    | none => none
end

/-- a block -/
inductive AO where
  | cells (cs : T AV) (k : Nat) (e : TypeId)
  /-- a map: its entries, when each was put in, its clock -/
  | map (es : List (AV × AV)) (bs : List Nat) (ck : Nat)
  /-- an iterator over a map, or over nil: since when, which entries were seen, when it stepped last -/
  | mit (m : Option Nat) (since : Nat) (seen : List Nat) (last : Nat)
  /-- one of which nothing is known but that it is the i-th -/
  | opq (i : Nat)
  /-- .., beside two other ones -/
  | opb (i n m : Nat)
  /-- records -/
  | recs (l : SE) (ks : List CK) (e : TypeId)
inductive AH where
  | mk (m : T AO) (next : Nat)
def AH.get : AH → Nat → Option AO
  | .mk m _, k => m.get k
def AH.next : AH → Nat
  | .mk _ n => n
def AH.put : AH → Nat → Option AO → AH
  | .mk m n, k, o => .mk (m.put k o) n
def AH.skip : AH → Nat → AH
  | .mk m n, k => .mk m (Nat.add n k)

def ev (env : T AV) : Operand → Option AV
  | .tmp t => env.get t
  | .const v => ofV v
  | .func f => some (.fn (.func f) [] [])
  | .global g => some (.gptr g 0)
def evs (env : T AV) : List Operand → Option (List AV)
  | [] => some []
  | o :: l => match ev env o with
    | some v => match evs env l with
      | some vs => some (v :: vs)
      | none => none
    | none => none

section
variable [Fc] (P : Program)
def toSE : AV → Option (IntKind × SE)
  | .int k n => some (k, .lit n)
  | .sym k e => some (k, e)
  | _ => none
def aggT (t : TypeId) : Option Bool := match P.underlying t with
  | some (.struct _) | some (.array _ _) => some true
  | some _ => some false
  | none => none
def sizeT (t : TypeId) : Option Nat := match P.info? t with
  | some i => some i.size
  | none => none
def zeroT (t : TypeId) : Option AV := match P.info? t with
  | some i => match i.zero with
    | some v => ofV v
    | none => none
  | none => none

/-- cells from an offset on -/
def getN (cs : T AV) : Nat → Nat → Option (List AV)
  | _, 0 => some []
  | i, n + 1 => match cs.get i with
    | some v => match getN cs (Nat.add i 1) n with
      | some l => some (v :: l)
      | none => none
    | none => none
def setN (cs : T AV) : Nat → List AV → T AV
  | _, [] => cs
  | i, v :: l => setN (cs.put i (some v)) (Nat.add i 1) l
def mkCells (l : List AV) : T AV := setN .e 0 l
def allOne : List AV → Bool
  | [] => true
  | v :: l => match v.one with
    | true => allOne l
    | false => false
def rep : Nat → List AV → List AV
  | 0, _ => []
  | n + 1, z => z ++ rep n z

def part (t : TypeId) (cs : List AV) (off : Nat) : Option AV := match aggT P t with
  | some true => match sizeT P t with
    | some s => some (.agg ((cs.drop off).take s))
    | none => none
  | some false => cs[off]?
  | none => none

/-- parts laid into cells -/
def afill (place : Nat → Option (Nat × Nat)) (cells : List AV) : List (Nat × AV) → Option (List AV)
  | [] => some cells
  | (i, v) :: rest => match place i with
    | none => none
    | some (off, size) =>
      match Nat.beq v.cells.length size with
      | false => none
      | true => match Nat.ble (Nat.add off size) cells.length with
        | false => none
        | true => afill place (cells.take off ++ (v.cells ++ cells.drop (Nat.add off size))) rest
def zipParts : List (Nat × Operand) → List AV → Option (List (Nat × AV))
  | [], [] => some []
  | (i, _) :: l, v :: vs => match zipParts l vs with
    | some r => some ((i, v) :: r)
    | none => none
  | _, _ => none

def abin (op : BinOp) (k : IntKind) (x y : Int) : Option AV := match op with
  | .add => some (.int k (k.wrap (x + y)))
  | .sub => some (.int k (k.wrap (x - y)))
  | .mul => some (.int k (k.wrap (x * y)))
  | .quo => match decide (y = 0) with
    | true => none
    | false => some (.int k (k.wrap (x.tdiv y)))
  | .rem => match decide (y = 0) with
    | true => none
    | false => some (.int k (x.tmod y))
  | .and => some (.int k (k.wrap (BitVec.ofInt k.bits x &&& BitVec.ofInt k.bits y).toNat))
  | .or => some (.int k (k.wrap (BitVec.ofInt k.bits x ||| BitVec.ofInt k.bits y).toNat))
  | .xor => some (.int k (k.wrap (BitVec.ofInt k.bits x ^^^ BitVec.ofInt k.bits y).toNat))
  | .andNot => some (.int k (k.wrap (BitVec.ofInt k.bits x &&& ~~~(BitVec.ofInt k.bits y)).toNat))
  | .eql => some (.bool (x == y))
  | .neq => some (.bool (x != y))
  | .lss => some (.bool (x < y))
  | .leq => some (.bool (x ≤ y))
  | .gtr => some (.bool (x > y))
  | .geq => some (.bool (x ≥ y))
  | _ => none
def ashift (op : BinOp) (k : IntKind) (x y : Int) : Option AV := match decide (y < 0) with
  | true => none
  | false => match op with
    | .shl => some (.int k (k.wrap (x * 2 ^ (min y.toNat k.bits))))
    | .shr => some (.int k (x.fdiv (2 ^ (min y.toNat k.bits))))
    | _ => none

/-- a bool that is known -/
def boolOf : AV → Option Bool
  | .bool b => some b
  | .bsym c p => match askC c with
    | some q => some (q == p)
    | none => none
  | _ => none
/-- == of the fields of structs -/
def aeqF (rec : TypeId → AV → AV → Option Bool) (a b : List AV) : List Field → Option Bool
  | [] => some true
  | f :: fs => match f.name == "_" with
    | true => none
    | false => match part P f.type a f.offset with
      | none => none
      | some u => match part P f.type b f.offset with
        | none => none
        | some v => match rec f.type u v with
          | none => none
          | some false => some false
          | some true => aeqF rec a b fs
/-- == -/
def aeq : Nat → TypeId → AV → AV → Option Bool
  | 0, _, _, _ => none
  | d + 1, t, x, y => match P.underlying t with
    | some .bool => match x, y with
      | .bool a, .bool b => some (a == b)
      | x, y => match boolOf x with
        | none => none
        | some a => match boolOf y with
          | none => none
          | some b => some (a == b)
    | some (.int _) => match x, y with
      | .int k a, .int k' b => match decide (k = k') with
        | true => some (a == b)
        | false => none
      | x, y => match toSE x, toSE y with
        | some (k, a), some (k', b) => match decide (k = k') with
          | true => askEq a b
          | false => none
        | _, _ => none
    | some (.pointer _) => match x, y with
      | .nilp, .nilp => some true
      | .nilp, .ptr _ _ => some false
      | .ptr _ _, .nilp => some false
      | .eptr .., .nilp => some false
      | _, _ => none
    | some (.slice _) => match x, y with
      | .nilsl, .nilsl => some true
      | .nilsl, .sl .. => some false
      | .sl .., .nilsl => some false
      | .nilsl, .esl _ => some false
      | .esl _, .nilsl => some false
      | .dsl .., .nilsl => some false
      | .ssl .., .nilsl => some false
      | _, _ => none
    | some (.map _ _) => match x, y with
      | .nilmap, .nilmap => some true
      | .nilmap, .map _ => some false
      | .map _, .nilmap => some false
      | _, _ => none
    | some (.func _ _ _) => match x, y with
      | .nilfn, .nilfn => some true
      | .nilfn, .fn .. => some false
      | .fn .., .nilfn => some false
      | _, _ => none
    | some (.struct fs) => match x, y with
      | .agg a, .agg b => match P.stoodInHeld t with
        | true => none
        | false => aeqF P (aeq d) a b fs.toList
      | _, _ => none
    | _ => none
/-- the two operands of a test: the model's guard lets it pass -/
def guardOk (t : TypeId) : AV → AV → Bool
  | .agg _, .agg _ => match P.eqGuardType P.depth t with
    | true => false
    | false => true
  | .nilif, .nilif => false
  | _, _ => true
/-- of numbers of which one is not known -/
def symOp (op : BinOp) (x y : AV) : Option AV := match toSE x with
  | none => none
  | some (k, a) => match toSE y with
    | none => none
    | some (k', b) => match decide (k = k') with
      | false => none
      | true => match op with
        | .add => match decide (k = .i64) with
          | true => some (.sym k (.bin .add a b))
          | false => match decide (k = .u64) with
            | true => some (.sym k (.ubin .add a b))
            | false => none
        | .sub => match decide (k = .i64) with
          | true => some (.sym k (.bin .sub a b))
          | false => match decide (k = .u64) with
            | true => some (.sym k (.ubin .sub a b))
            | false => none
        | .mul => match decide (k = .i64) with
          | true => some (.sym k (.bin .mul a b))
          | false => match decide (k = .u64) with
            | true => some (.sym k (.ubin .mul a b))
            | false => none
        | .quo => match decide (k = .i64) with
          | true => match askEq b (.lit 0) with
            | some false => some (.sym k (.bin .quo a b))
            | _ => none
          | false => none
        | .rem => match decide (k = .i64) with
          | true => match askEq b (.lit 0) with
            | some false => some (.sym k (.bin .rem a b))
            | _ => none
          | false => none
        | .eql => match askEq a b with
          | some r => some (.bool r)
          | none => none
        | .neq => match askEq a b with
          | some r => some (.bool (!r))
          | none => none
        | .lss => match askLt a b with
          | some r => some (.bool r)
          | none => none
        | .geq => match askLt a b with
          | some r => some (.bool (!r))
          | none => none
        | .gtr => match askLt b a with
          | some r => some (.bool r)
          | none => none
        | .leq => match askLt b a with
          | some r => some (.bool (!r))
          | none => none
        | _ => none
def abinop (op : BinOp) (t : TypeId) (x y : AV) : Option AV := match x, y with
  | .int k a, .int k' b => match op with
    | .shl => ashift .shl k a b
    | .shr => ashift .shr k a b
    | op => match decide (k = k') with
      | true => abin op k a b
      | false => none
  | .sym k a, y => symOp op (.sym k a) y
  | x, .sym k b => symOp op x (.sym k b)
  | .str _, _ => none
  | _, .str _ => none
  | x, y => match guardOk P t x y with
    | false => none
    | true => match op with
      | .eql => match aeq P 40 t x y with
        | some b => some (.bool b)
        | none => none
      | .neq => match aeq P 40 t x y with
        | some b => some (.bool (!b))
        | none => none
      | _ => none
def aun (op : UnOp) (x : AV) : Option AV := match op, x with
  | .neg, .int k n => some (.int k (k.wrap (0 - n)))
  | .xor, .int k n => some (.int k (k.wrap (BitVec.ofInt k.bits (if k.signed then -1 else k.max) ^^^ BitVec.ofInt k.bits n).toNat))
  | .not, .bool b => some (.bool (!b))
  | .not, .bsym c p => some (.bsym c (!p))
  | _, _ => none
def placesT : List Field → Option (List (Nat × Nat))
  | [] => some []
  | f :: fs => match sizeT P f.type with
    | some s => match placesT fs with
      | some r => some ((f.offset, s) :: r)
      | none => none
    | none => none
def inRange (i : Int) (len : Nat) : Option Nat := match i with
  | .ofNat k => match Nat.blt k len with
    | true => some k
    | false => none
  | .negSucc _ => none
/-- a bound of a slice expression: at most 'y' -/
def bnd (d : Nat) (y : Nat) : Option AV → Option Nat
  | none => some d
  | some (.int _ (.ofNat k)) => match Nat.ble k y with
    | true => some k
    | false => none
  | some _ => none
/-- so many on -/
def offAt (off : SE) : Nat → SE
  | 0 => off
  | k + 1 => match off with
    | .lit n => .lit (Int.add n (Int.ofNat (k + 1)))
    | off => .bin .add off (.lit (Int.ofNat (k + 1)))
/-- from where, and how many: two bounds of which the second one is some more than the first one -/
def spanOf (x y : SE) : Option (SE × Nat) := match x, y with
  | .lit a, .lit b => match b - a with
    | .ofNat k => some (.lit a, k)
    | _ => none
  | x, .bin .add x' (.lit (.ofNat k)) => match SE.beq x x' with
    | true => some (x, k)
    | false => none
  | _, _ => none
def asliceOf (e : TypeId) (x : AV) (lo hi mx : Option AV) : Option AV := match x with
  | .nilsl => match bnd 0 0 mx with
    | some _ => match bnd 0 0 hi with
      | some _ => match bnd 0 0 lo with
        | some _ => match hi, mx with
          | none, some _ => none
          | _, _ => match sizeT P e with
            | some _ => some .nilsl
            | none => none
        | none => none
      | none => none
    | none => none
  | .sl n off len sz r => match sizeT P e with
    | none => none
    | some s => match Nat.beq s sz with
      | false => none
      | true => match mx with
        | none => match bnd len len hi with
          | none => none
          | some h => match bnd 0 h lo with
            | none => none
            | some l => match Nat.beq l 0 with
              | true => some (.sl n off h sz r)
              | false => match Nat.blt l h with
                | true => some (.sl n (Nat.add off (Nat.mul l sz)) (Nat.sub h l) sz .any)
                | false => some (.esl n)
        | some _ => match hi with
          | none => none
          | some _ => match bnd 0 len mx with
            | none => none
            | some m => match bnd 0 m hi with
              | none => none
              | some h => match bnd 0 h lo with
                | none => none
                | some l => match Nat.beq l 0 with
                  | true => some (.sl n off h sz (.ex m))
                  | false => none
  | .dsl n len sz => match sizeT P e with
    | none => none
    | some s => match Nat.beq s sz && Nat.blt 0 s with
      | false => none
      | true => match lo, hi, mx with
        | some a, some b, none => match toSE a with
          | none => none
          | some (_, x) => match toSE b with
            | none => none
            | some (_, y) => match spanOf x y with
              | none => none
              | some (x', k) => match askLt x' (.lit 0) with
                | some false => match askLt x' (.lit 1000000000) with
                  | some true => match Nat.blt 0 k && Nat.blt k 1000000000 with
                    | false => none
                    | true => match askLt len (.bin .add x' (.lit (Int.ofNat k))) with
                      | some false => some (.ssl n x' k sz)
                      | _ => match within (offAt x' (Nat.sub k 1)) len with
                        | true => some (.ssl n x' k sz)
                        | false => none
                  | _ => none
                | _ => none
        | _, _, _ => none
  | _ => none
def asCells (e : TypeId) (cs : List AV) (len : Nat) (i : Int) : Option AV := match inRange i len with
  | some k => match sizeT P e with
    | some s => part P e cs (Nat.mul k s)
    | none => none
  | none => none
def aint2 (mx : Bool) : AV → AV → Option AV
  | .int k x, .int _ y => match mx with
    | true => some (.int k (if y > x then y else x))
    | false => some (.int k (if y < x then y else x))
  | x, y => match toSE x with
    | none => none
    | some (k, a) => match toSE y with
      | none => none
      | some (k', b) => match decide (k = k') with
        | false => none
        | true => match mx with
          | true => match askLt a b with
            | some true => some y
            | some false => some x
            | none => none
          | false => none
def afoldInt (mx : Bool) : AV → List AV → Option AV
  | v, [] => some v
  | v, w :: l => match aint2 mx v w with
    | some u => afoldInt mx u l
    | none => none

/-- a place of a slice, or an array, where the index is not known -/
def aindex (t : TypeId) (x : AV) (e : SE) : Option AV := match x with
  | .dsl n len z => match P.underlying t with
    | some (.slice el) => match sizeT P el with
      | some s => match Nat.beq s z with
        | true => match within e len with
          | true => some (.eptr n e z 0)
          | false => none
        | false => none
      | none => none
    | _ => none
  | .sl n off len z _ => match P.underlying t with
    | some (.slice el) => match sizeT P el with
      | some s => match Nat.beq s z && Nat.beq off 0 with
        | true => match within e (.lit (Int.ofNat len)) with
          | true => some (.eptr n e z 0)
          | false => none
        | false => none
      | none => none
    | _ => none
  | .ptr n off => match P.underlying t with
    | some (.array len el) => match sizeT P el with
      | some s => match Nat.beq off 0 with
        | true => match within e (.lit (Int.ofNat len)) with
          | true => some (.eptr n e s 0)
          | false => none
        | false => none
      | none => none
    | _ => none
  | .rsl i => match P.underlying t with
    | some (.slice el) => match sizeT P el with
      | some s => match Nat.beq s 1 with
        | true => match within e (.len (.lvar i)) with
          | true => some (.rptr i e)
          | false => none
        | false => none
      | none => none
    | _ => none
  | _ => none
/-- a bool, as a number; a value, as one of a kind -/
def toCK (k : CK) (v : AV) : Option SE := match k with
  | .int k => match toSE v with
    | some (k', e) => match decide (k = k') with
      | true => some e
      | false => none
    | none => none
  | .bool => match v with
    | .bool b => some (.lit (if b then 1 else 0))
    | .bsym c p => match askC c with
      | some b => some (.lit (if b == p then 1 else 0))
      | none => none
    | _ => none
def ofCK (k : CK) (e : SE) : AV := match k with
  | .int k => .sym k e
  | .bool => .bsym (.eq e (.lit 0)) false
/-- a cell of a record, behind what was changed since -/
def atE (e : SE) (j : Nat) : SE → SE
  | .lset l x k v => match Nat.beq j k with
    | false => atE e j l
    | true => match askEq e x with
      | some true => v
      | some false => match askLt x (.lit 0) with
        | some false => atE e j l
        | _ => .at (.lset l x k v) e j
      | none => .at (.lset l x k v) e j
  | .rep _ => .lit 0
  | l => .at l e j
/-- fields of a record -/
def recGet (l e : SE) (ks : List CK) : Nat → Nat → Option (List AV)
  | _, 0 => some []
  | j, n + 1 => match ks[j]? with
    | some k => match recGet l e ks (Nat.add j 1) n with
      | some r => some (ofCK k (atE e j l) :: r)
      | none => none
    | none => none
def recSet (l e : SE) (ks : List CK) : Nat → List AV → Option SE
  | _, [] => some l
  | j, v :: vs => match ks[j]? with
    | some k => match toCK k v with
      | some x => recSet (.lset l e j x) e ks (Nat.add j 1) vs
      | none => none
    | none => none
def recOf : List CK → List AV → Option SE
  | [], [] => some .rnil
  | k :: ks, v :: vs => match toCK k v with
    | some x => match recOf ks vs with
      | some r => some (.rcons x r)
      | none => none
    | none => none
  | _, _ => none
/-- which record, and which cell of it, lies where -/
def recAt (ks : List CK) (off : Nat) : Nat × Nat := (Nat.div off ks.length, Nat.mod off ks.length)
def recLoad (agg : Bool) (s : Nat) (l e : SE) (ks : List CK) (j : Nat) : Option AV := match within e (lenE l) with
  | false => none
  | true => match agg with
    | true => match recGet l e ks j s with
      | some r => some (.agg r)
      | none => none
    | false => match ks[j]? with
      | some k => some (ofCK k (atE e j l))
      | none => none
/-- an operation that looks at no memory -/
def apure (op : Op) (vs : List AV) : Option AV := match op with
  | .move _ => match vs with
    | [v] => some v
    | _ => none
  | .assign _ => match vs with
    | [v] => some v
    | _ => none
  | .pick _ _ _ => match vs with
    | [.bool true, a, _] => some a
    | [.bool false, _, b] => some b
    | [.bsym c p, a, b] => match askC c with
      | some q => match q == p with
        | true => some a
        | false => some b
      | none => none
    | _ => none
  | .build t parts => match zipParts parts.toList vs with
    | none => none
    | some ps => match zeroT P t with
      | none => none
      | some z => match P.underlying t with
        | some (.struct fs) => match placesT P fs.toList with
          | none => none
          | some pl => match afill (fun i => pl[i]?) z.cells ps with
            | some l => some (.agg l)
            | none => none
        | some (.array _ e) => match sizeT P e with
          | none => none
          | some s => match afill (fun i => some (Nat.mul i s, s)) z.cells ps with
            | some l => some (.agg l)
            | none => none
        | _ => none
  | .nilCheck _ => match vs with
    | [.ptr n o] => some (.ptr n o)
    | [.fn (.func f) a b] => some (.fn (.func f) a b)
    | _ => none
  | .binOp op t _ _ _ => match vs with
    | [x, y] => abinop P op t x y
    | _ => none
  | .unOp op _ _ => match vs with
    | [x] => aun op x
    | _ => none
  | .convert src dst _ => match vs with
    | [.int _ n] => match P.underlying src with
      | none => none
      | some _ => match P.underlying dst with
        | some (.int k) => some (.int k (k.wrap n))
        | _ => none
    | [.sym _ e] => match P.underlying src with
      | none => none
      | some _ => match P.underlying dst with
        | some (.int k) => some (.sym k (.cv k e))
        | _ => none
    | _ => none
  | .makeFunc fn first _ => some (.fn fn (vs.take first.size) (vs.drop first.size))
  | .slice t _ lo hi mx => match P.underlying t with
    | some (.slice e) => match vs, lo, hi, mx with
      | [x], none, none, none => asliceOf P e x none none none
      | [x, a], some _, none, none => asliceOf P e x (some a) none none
      | [x, a], none, some _, none => asliceOf P e x none (some a) none
      | [x, a, b], some _, some _, none => asliceOf P e x (some a) (some b) none
      | [x, a, b], none, some _, some _ => asliceOf P e x none (some a) (some b)
      | [x, a, b, c], some _, some _, some _ => asliceOf P e x (some a) (some b) (some c)
      | _, _, _, _ => none
    | _ => none
  | .fieldAddr s _ f => match vs with
    | [.ptr n off] => match P.underlying s with
      | some (.struct fs) => match fs[f]? with
        | some fd => match sizeT P fd.type with
          | some (_ + 1) => some (.ptr n (Nat.add off fd.offset))
          | _ => none
        | none => none
      | _ => none
    | [.eptr n e z j] => match P.underlying s with
      | some (.struct fs) => match fs[f]? with
        | some fd => match sizeT P fd.type with
          | some (_ + 1) => some (.eptr n e z (Nat.add j fd.offset))
          | _ => none
        | none => none
      | _ => none
    | _ => none
  | .field t _ f => match vs with
    | [.agg cs] => match P.underlying t with
      | some (.struct fs) => match fs[f]? with
        | some fd => part P fd.type cs fd.offset
        | none => none
      | _ => none
    | _ => none
  | .indexAddr t _ _ => match vs with
    | [.sl n off len sz _, .int _ i] => match P.underlying t with
      | some (.slice e) => match inRange i len with
        | some k => match sizeT P e with
          | some s => match Nat.beq s sz with
            | true => some (.ptr n (Nat.add off (Nat.mul k s)))
            | false => none
          | none => none
        | none => none
      | _ => none
    | [.ptr n off, .int _ i] => match P.underlying t with
      | some (.array len e) => match inRange i len with
        | some k => match sizeT P e with
          | some s => some (.ptr n (Nat.add off (Nat.mul k s)))
          | none => none
        | none => none
      | _ => none
    | [.gptr n off, .int _ i] => match P.underlying t with
      | some (.array len e) => match inRange i len with
        | some k => match sizeT P e with
          | some s => some (.gptr n (Nat.add off (Nat.mul k s)))
          | none => none
        | none => none
      | _ => none
    | [.ssl n off len z, .int _ i] => match P.underlying t with
      | some (.slice el) => match inRange i len with
        | some k => match sizeT P el with
          | some s => match Nat.beq s z with
            | true => some (.eptr n (offAt off k) z 0)
            | false => none
          | none => none
        | none => none
      | _ => none
    | [.sl n off len sz r, .sym _ e] => match litOf e with
      | none => aindex P t (.sl n off len sz r) e
      | some i => match P.underlying t with
        | some (.slice el) => match inRange i len with
          | some k => match sizeT P el with
            | some s => match Nat.beq s sz with
              | true => some (.ptr n (Nat.add off (Nat.mul k s)))
              | false => none
            | none => none
          | none => none
        | _ => none
    | [.ptr n off, .sym _ e] => match litOf e with
      | none => aindex P t (.ptr n off) e
      | some i => match P.underlying t with
        | some (.array len el) => match inRange i len with
          | some k => match sizeT P el with
            | some s => some (.ptr n (Nat.add off (Nat.mul k s)))
            | none => none
          | none => none
        | _ => none
    | [.gptr n off, .sym _ e] => match litOf e with
      | none => none
      | some i => match P.underlying t with
        | some (.array len el) => match inRange i len with
          | some k => match sizeT P el with
            | some s => some (.gptr n (Nat.add off (Nat.mul k s)))
            | none => none
          | none => none
        | _ => none
    | [x, y] => match toSE y with
      | none => none
      | some (_, e) => aindex P t x e
    | _ => none
  | .index t _ _ => match vs with
    | [.agg cs, .int _ i] => match P.underlying t with
      | some (.array len e) => asCells P e cs len i
      | _ => none
    | _ => none
  | .extract _ i => match vs with
    | [.tup l] => l[i]?
    | _ => none
  | .makeInterface t _ => match vs with
    | [v] => match P.underlying t with
      | some (.interface _) => none
      | some _ => some (.ifc t v)
      | none => none
    | _ => none
  | .call c => match c.callee with
    | .builtin .max => match vs with
      | v :: l => afoldInt true v l
      | _ => none
    | .builtin .min => match vs with
      | v :: l => afoldInt false v l
      | _ => none
    | _ => none
  | _ => none

/-- where a key lies, and what lies there -/
def lookE (k : IntKind) (e : SE) : List (AV × AV) → Option (Option (Nat × AV))
  | [] => some none
  | (x, v) :: es => match toSE x with
    | none => none
    | some (k', e') => match decide (k = k') with
      | false => none
      | true => match askEq e e' with
        | some true => some (some (0, v))
        | some false => match lookE k e es with
          | some (some (n, u)) => some (some (Nat.add n 1, u))
          | r => r
        | none => none
def lookAV (es : List (AV × AV)) (y : AV) : Option (Option (Nat × AV)) := match toSE y with
  | some (k, e) => lookE k e es
  | none => none
/-- a value without unknown numbers -/
def litV1 : AV → Option Value
  | .bool b => some (.bool b)
  | .int k n => some (.int k n)
  | _ => none
def litVs : List AV → Option (List Value)
  | [] => some []
  | v :: l => match litV1 v with
    | some x => match litVs l with
      | some xs => some (x :: xs)
      | none => none
    | none => none
def litV : AV → Option Value
  | .agg l => match litVs l with
    | some vs => some (.agg vs.toArray)
    | none => none
  | _ => none
/-- a key that is a struct of numbers -/
def keyA (kt : TypeId) (y : AV) : Bool := match litV y with
  | some v => P.keyTypeAt 20 kt && (v.formed P kt && (P.keyLits 20 kt v.cells.toList).isSome)
  | none => false
def lookA (beq : AV → AV → Bool) (kt : TypeId) (y : AV) : List (AV × AV) → Option (Option (Nat × AV))
  | [] => some none
  | (x, v) :: es => match aeq P 40 kt y x with
    | some true => match beq y x with
      | true => some (some (0, v))
      | false => none
    | some false => match lookA beq kt y es with
      | some (some (n, u)) => some (some (Nat.add n 1, u))
      | r => r
    | none => none
def litEq (y x : AV) : Bool := match y, x with
  | .agg a, .agg b => go a b
  | _, _ => false
where
  go : List AV → List AV → Bool
  | [], [] => true
  | .int k n :: a, .int k' n' :: b => decide (k = k') && (n == n' && go a b)
  | _, _ => false
/-- where a key lies, and what lies there, by the key's type -/
def lookM (kt : TypeId) (es : List (AV × AV)) (y : AV) : Option (Option (Nat × AV)) := match P.underlying kt with
  | some (.int _) => lookAV es y
  | some (.struct _) => match keyA P kt y with
    | true => lookA P litEq kt y es
    | false => none
  | _ => none
/-- entries that an iterator has not seen -/
def leftOf : List (AV × AV) → List Nat → List Nat → List (AV × AV × Nat)
  | (k, v) :: es, b :: bs, seen => match seen.contains b with
    | true => leftOf es bs seen
    | false => (k, v, b) :: leftOf es bs seen
  | _, _, _ => []
/-- the entry that an iterator stepped to -/
def lastOf : List Nat → Option Nat
  | [] => none
  | b :: l => match lastOf l with
    | some c => some c
    | none => some b
def atStamp (b : Nat) : List (AV × AV) → List Nat → Option (AV × AV)
  | p :: es, c :: bs => match Nat.beq c b with
    | true => some p
    | false => atStamp b es bs
  | _, _ => none
/-- not all that an iterator saw are gone -/
def okNext (bs seen : List Nat) (last : Nat) : Bool := seen.isEmpty || (bs.isEmpty || bs.any fun b => Nat.blt b last)
/-- an operation that reads memory -/
def aread (op : Op) (vs : List AV) (h : AH) : Option AV := match op with
  | .load t _ => match vs with
    | [.ptr n off] => match h.get n with
      | some (.cells cs _ _) => match aggT P t with
        | some true => match sizeT P t with
          | some s => match getN cs off s with
            | some l => some (.agg l)
            | none => none
          | none => none
        | some false => cs.get off
        | none => none
      | some (.recs l ks _) => match aggT P t with
        | some b => match sizeT P t with
          | some s => match Nat.blt 0 ks.length with
            | true => recLoad b s l (.lit (Int.ofNat (recAt ks off).1)) ks (recAt ks off).2
            | false => none
          | none => none
        | none => none
      | _ => none
    | [.eptr n e z j] => match h.get n with
      | some (.recs l ks _) => match Nat.beq z ks.length with
        | true => match aggT P t with
          | some b => match sizeT P t with
            | some s => recLoad b s l e ks j
            | none => none
          | none => none
        | false => none
      | _ => none
    | [.rptr i e] => match aggT P t with
      | some false => match Fc.rk i with
        | some k => some (ofCK k (.at (.lvar i) e 0))
        | none => none
      | _ => none
    | [.gptr g off] => match findG g Fc.globs with
      | some l => match aggT P t with
        | some false => match l[off]? with
          | some c => some (.int .i64 c)
          | none => none
        | _ => none
      | none => none
    | _ => none
  | .entry _ => match vs with
    | [.ptr n 0] => match h.get n with
      | some (.mit (some m) _ seen last) => match h.get m with
        | some (.map es bs ck) => match Nat.beq ck last with
          | true => match lastOf seen with
            | some b => match atStamp b es bs with
              | some (k, v) => some (.tup [k, v])
              | none => none
            | none => none
          | false => none
        | _ => none
      | _ => none
    | _ => none
  | .lookup t _ _ ok => match P.underlying t with
    | some (.map kt e) => match vs with
      | [x, y] => match (match x with
          | .nilmap => some []
          | .map n => match h.get n with
            | some (.map es _ _) => some es
            | _ => none
          | _ => none) with
        | none => none
        | some es => match lookM P kt es y with
          | none => none
          | some (some (_, v)) => match ok with
            | true => some (.tup [v, .bool true])
            | false => some v
          | some none => match zeroT P e with
            | none => none
            | some z => match ok with
              | true => some (.tup [z, .bool false])
              | false => some z
      | _ => none
    | _ => none
  | .call c => match c.callee with
    | .builtin .len => match vs, c.argTypes[0]? with
      | [x], some t => match P.underlying t with
        | some (.slice _) => match x with
          | .nilsl => some (.int .i64 0)
          | .esl _ => some (.int .i64 0)
          | .zsl => some (.int .i64 0)
          | .osl e => some (.sym .i64 e)
          | .sl _ _ len _ _ => some (.int .i64 (Int.ofNat len))
          | .dsl _ e _ => some (.sym .i64 e)
          | .ssl _ _ len _ => some (.int .i64 (Int.ofNat len))
          | .rsl i => some (.sym .i64 (.len (.lvar i)))
          | _ => none
        | some (.array n _) => some (.int .i64 (Int.ofNat n))
        | some (.map _ _) => match x with
          | .nilmap => some (.int .i64 0)
          | .map n => match h.get n with
            | some (.map es _ _) => some (.int .i64 (Int.ofNat es.length))
            | _ => none
          | _ => none
        | _ => none
      | _, _ => none
    | _ => none
  | _ => none

inductive AK where
  | ptr
  | sl (len sz : Nat)
  | dsl (len : SE) (sz : Nat)
  | map
def AK.at (k : AK) (n : Nat) : AV := match k with
  | .ptr => .ptr n 0
  | .sl len sz => .sl n 0 len sz .whole
  | .dsl len sz => .dsl n len sz
  | .map => .map n
def cellsOf (e : TypeId) (l : List AV) : AO := .cells (mkCells l) l.length e
/-- an operation that makes a block -/
def aalloc (op : Op) (vs : List AV) : Option (AO × AK) := match op with
  | .alloc t => match zeroT P t with
    | some z => match allOne z.cells with
      | true => some (cellsOf t z.cells, .ptr)
      | false => none
    | none => none
  | .box t _ => match vs with
    | [v] => match allOne v.cells with
      | true => some (cellsOf t v.cells, .ptr)
      | false => none
    | _ => none
  | .buildSlice t len parts => match P.underlying t with
    | some (.slice e) => match sizeT P e with
      | none => none
      | some s => match Nat.ble (Nat.mul len s) 16777216 && Nat.ble len 16777216 with
        | false => none
        | true => match zeroT P e with
          | none => none
          | some z => match Nat.beq z.cells.length s with
            | false => none
            | true => match zipParts parts.toList vs with
              | none => none
              | some ps => match afill (fun i => some (Nat.mul i s, s)) (rep len z.cells) ps with
                | none => none
                | some l => match allOne l with
                  | true => some (cellsOf e l, .sl len s)
                  | false => none
    | _ => none
  | .makeMap _ r => match r with
    | none => match vs with
      | [] => some (.map [] [] 0, .map)
      | _ => none
    | some _ => none
  | .makeSlice t _ _ => match P.underlying t with
    | some (.slice e) => match P.info? e with
      | none => none
      | some i => match vs with
        | [.int _ (.ofNat l), .int _ (.ofNat c)] => match Nat.ble l c with
          | false => none
          | true => match Nat.ble (Nat.mul i.bytes c) 281474976710656 with
            | false => none
            | true => match Nat.ble c 9223372036854775807 with
              | false => none
              | true => match zeroT P e with
                | none => none
                | some z => match Nat.beq z.cells.length i.size with
                  | false => none
                  | true => match Nat.blt 0 i.size with
                    | false => none
                    | true => match allOne z.cells with
                      | true => some (cellsOf e (rep c z.cells), .sl l i.size)
                      | false => none
        | [.sym _ a, .sym _ b] => match SE.beq a b with
          | false => none
          | true => match askLt a (.lit 0) with
            | some false => match askLt a (.lit 16777216) with
              | some true => match Nat.ble i.bytes 16777216 with
                | false => none
                | true => match zeroT P e with
                  | some (.int k 0) => match Nat.beq i.size 1 with
                    | true => some (.recs (.rep a) [.int k] e, .dsl a 1)
                    | false => none
                  | _ => none
              | _ => none
            | _ => none
        | _ => none
    | _ => none
  | _ => none

inductive AN where
  | val (v : AV) (h : AH)
  | call (f : FuncId) (args : List AV)
/-- cells of a source of append -/
def srcCells (h : AH) (s : Nat) : AV → Option (Nat × List AV)
  | .nilsl => some (0, [])
  | .esl _ => some (0, [])
  | .sl n off len sz _ => match Nat.beq sz s with
    | false => none
    | true => match h.get n with
      | some (.cells cs _ _) => match getN cs off (Nat.mul len sz) with
        | some l => some (len, l)
        | none => none
      | _ => none
  | _ => none
def fresh (h : AH) (o : AO) : Option AH := match Nat.blt h.next 1000000 with
  | true => some ((h.put h.next (some o)).skip 1)
  | false => none
def aappend (t : TypeId) (s x : AV) (h : AH) : Option (AV × AH) := match P.underlying t with
  | some (.slice e) => match P.info? e with
    | none => none
    | some i => match Nat.blt 0 i.size with
      | false => none
      | true => match i.zero with
        | none => none
        | some z => match Nat.beq z.cells.size i.size with
          | false => none
          | true => match srcCells h i.size x with
            | none => none
            | some (0, _) => match s with
              | .nilsl => some (.nilsl, h)
              | .esl n => some (.esl n, h)
              | .sl n off len sz r => some (.sl n off len sz r, h)
              | _ => none
            | some (m, news) => match s with
              | .nilsl => match Nat.ble m 9223372036854775807 with
                | false => none
                | true => match Nat.ble (Nat.mul m i.bytes) 140737488355328 with
                  | false => none
                  | true => match fresh h (cellsOf e news) with
                    | some h' => some (.sl h.next 0 m i.size .whole, h')
                    | none => none
              | .sl n 0 len sz r => match Nat.beq sz i.size with
                | false => none
                | true => match h.get n with
                  | some (.cells cs k e') => match Nat.beq e' e with
                    | false => none
                    | true => match Nat.ble (Nat.add len m) 9223372036854775807 with
                      | false => none
                      | true => match Nat.ble (Nat.mul (Nat.add len m) i.bytes) 140737488355328 with
                        | false => none
                        | true => match r with
                          | .whole => match Nat.ble (Nat.mul (Nat.add len m) sz) k with
                            | true => some (.sl n 0 (Nat.add len m) sz .whole, h.put n (some (.cells (setN cs (Nat.mul len sz) news) k e')))
                            | false => match getN cs 0 (Nat.mul len sz) with
                              | none => none
                              | some olds => match fresh (h.put n none) (cellsOf e (olds ++ news)) with
                                | some h' => some (.sl h.next 0 (Nat.add len m) sz .whole, h')
                                | none => none
                          | .ex c => match Nat.blt c (Nat.add len m) with
                            | false => none
                            | true => match getN cs 0 (Nat.mul len sz) with
                              | none => none
                              | some olds => match fresh h (cellsOf e (olds ++ news)) with
                                | some h' => some (.sl h.next 0 (Nat.add len m) sz .whole, h')
                                | none => none
                          | .any => none
                  | _ => none
              | .dsl n e' sz => match Nat.beq sz i.size with
                | false => none
                | true => match Nat.beq m 1 with
                  | false => none
                  | true => match h.get n with
                    | some (.recs l ks e0) => match Nat.beq e0 e && Nat.beq ks.length sz with
                      | false => none
                      | true => match SE.beq e' (lenE l) with
                        | false => none
                        | true => match askLt e' (.lit 1000000) with
                          | some true => match Nat.ble i.bytes 1000000 with
                            | false => none
                            | true => match recOf ks news with
                              | none => none
                              | some r => match fresh (h.put n none) (.recs (.lsnoc l r) ks e) with
                                | some h' => some (.dsl h.next (lenE (.lsnoc l r)) sz, h')
                                | none => none
                          | _ => none
                    | _ => none
              | _ => none
  | _ => none
/-- where a stamp stands -/
def idxOf (b : Nat) : List Nat → Option Nat
  | [] => none
  | c :: l => match Nat.beq c b with
    | true => some 0
    | false => match idxOf b l with
      | some j => some (Nat.add j 1)
      | none => none
/-- an operation that changes memory, or calls -/
def aloud (op : Op) (vs : List AV) (h : AH) : Option AN := match op with
  | .store t _ _ => match vs with
    | [.ptr n off, v] => match sizeT P t with
      | none => none
      | some s => match Nat.beq v.cells.length s with
        | false => none
        | true => match allOne v.cells with
          | false => none
          | true => match h.get n with
            | some (.cells cs k e) => match Nat.ble (Nat.add off s) k with
              | false => none
              | true => some (.val und (h.put n (some (.cells (setN cs off v.cells) k e))))
            | some (.recs l ks e) => match Nat.blt 0 ks.length with
              | true => recStore n l (.lit (Int.ofNat (recAt ks off).1)) ks e (recAt ks off).2 v h
              | false => none
            | _ => none
    | [.eptr n x z j, v] => match sizeT P t with
      | none => none
      | some s => match Nat.beq v.cells.length s with
        | false => none
        | true => match allOne v.cells with
          | false => none
          | true => match h.get n with
            | some (.recs l ks e) => match Nat.beq z ks.length with
              | true => recStore n l x ks e j v h
              | false => none
            | _ => none
    | _ => none
  | .mapUpdate t _ _ _ => mapPut t vs h
  | .insert t _ _ _ => mapPut t vs h
  | .mapEntry t _ _ => mapEnt t vs h
  | .entryStore _ _ _ _ => entSto vs h
  | .range t _ => match P.underlying t with
    | some (.map _ _) => arange vs h
    | _ => none
  | .next _ st => match st with
    | true => none
    | false => anext vs h
  | .call c => match c.callee with
    | .value _ => match vs with
      | .fn (.func f) a b :: args => some (.call f (a ++ (args ++ b)))
      | _ => none
    | .builtin .delete => match c.argTypes[0]? with
      | some t => mapDel t vs h
      | none => none
    | .builtin .append => match vs, c.argTypes with
      | [s, x], ⟨[t, t']⟩ => match Nat.beq t t' with
        | false => none
        | true => match aappend P t s x h with
          | some (v, h') => some (.val v h')
          | none => none
      | _, _ => none
    | _ => none
  | _ => none
where
  recStore (n : Nat) (l x : SE) (ks : List CK) (e : TypeId) (j : Nat) (v : AV) (h : AH) : Option AN := match within x (lenE l) with
    | false => none
    | true => match recSet l x ks j v.cells with
      | some l' => some (.val und (h.put n (some (.recs l' ks e))))
      | none => none
  arange (vs : List AV) (h : AH) : Option AN := match vs with
    | [.nilmap] => match fresh h (.mit none 0 [] 0) with
      | some h' => some (.val (.ptr h.next 0) h')
      | none => none
    | [.map n] => match h.get n with
      | some (.map _ _ ck) => match fresh h (.mit (some n) ck [] ck) with
        | some h' => some (.val (.ptr h.next 0) h')
        | none => none
      | _ => none
    | _ => none
  anext (vs : List AV) (h : AH) : Option AN := match vs with
    | [.ptr n 0] => match h.get n with
      | some (.mit none _ _ _) => some (.val (.tup [.bool false]) h)
      | some (.mit (some m) since seen last) => match h.get m with
        | some (.map es bs ck) => match okNext bs seen last with
          | false => none
          | true => match leftOf es bs seen with
            | [] => some (.val (.tup [.bool false]) h)
            | [(k, v, b)] => match Nat.blt b since with
              | true => some (.val (.tup [.bool true, k, v]) (h.put n (some (.mit (some m) since (seen ++ [b]) ck))))
              | false => none
            | _ => none
        | _ => none
      | _ => none
    | _ => none
  mapDel (t : TypeId) (vs : List AV) (h : AH) : Option AN := match P.underlying t with
    | some (.map kt _) => match vs with
      | [.map n, y] => match h.get n with
        | some (.map es bs ck) => match lookM P kt es y with
          | none => none
          | some none => some (.val und (h.put n (some (.map es bs ck))))
          | some (some (j, _)) => some (.val und (h.put n (some (.map (es.eraseIdx j) (bs.eraseIdx j) ck))))
        | _ => none
      | _ => none
    | _ => none
  mapPut (t : TypeId) (vs : List AV) (h : AH) : Option AN := match P.underlying t with
    | some (.map kt _) => match vs with
      | [.map n, y, v] => match h.get n with
        | some (.map es bs ck) => match lookM P kt es y with
          | none => none
          | some (some (j, _)) => some (.val und (h.put n (some (.map (es.modify j fun p => (p.1, v)) bs ck))))
          | some none => some (.val und (h.put n (some (.map (es ++ [(y, v)]) (bs ++ [ck]) (Nat.add ck 1)))))
        | _ => none
      | _ => none
    | _ => none
  mapEnt (t : TypeId) (vs : List AV) (h : AH) : Option AN := match P.underlying t with
    | some (.map kt e) => match vs with
      | [.map n, y] => match h.get n with
        | some (.map es bs ck) => match lookM P kt es y with
          | none => none
          | some (some (j, v)) => match (bs[j]? : Option Nat) with
            | some b => some (.val (.tup [v, .int .i64 (Int.ofNat b)]) (h.put n (some (.map es bs ck))))
            | none => none
          | some none => match zeroT P e with
            | none => none
            | some z => some (.val (.tup [z, .int .i64 (Int.ofNat ck)]) (h.put n (some (.map (es ++ [(y, z)]) (bs ++ [ck]) (Nat.add ck 1)))))
        | _ => none
      | _ => none
    | _ => none
  entSto (vs : List AV) (h : AH) : Option AN := match vs with
    | [.map n, .int _ (.ofNat b), v] => match h.get n with
      | some (.map es bs ck) => match idxOf b bs with
        | some j => some (.val und (h.put n (some (.map (es.modify j fun p => (p.1, v)) bs ck))))
        | none => none
      | _ => none
    | _ => none

inductive Kd where
  | pure
  | read
  | alloc
  | loud
def kd : Op → Kd
  | .load .. | .lookup .. | .entry _ => .read
  | .alloc _ | .box .. | .buildSlice .. | .makeMap .. | .makeSlice .. => .alloc
  | .store .. | .mapUpdate .. | .insert .. | .mapEntry .. | .entryStore .. | .range .. | .next .. => .loud
  | .call c => match c.callee with
    | .builtin .len => .read
    | .builtin .append => .loud
    | .builtin .delete => .loud
    | .builtin _ => .pure
    | _ => .loud
  | _ => .pure
end
end
end Go.Proofs.Ytmfemophafncnaa.Ex

/-
  A runner of calls without inputs: regions, code, calls. What it computes. No condition.
-/
namespace Go.Proofs.Ytmfemophafncnaa.Ex
open Go
noncomputable section

mutual
/-- a value without memory -/
def AV.shut : AV → Bool
  | .bool _ | .int _ _ | .sym _ _ | .bsym _ _ | .str _ | .nilp | .nilsl | .nilmap | .nilfn | .nilif => true
  | .agg l => AV.shuts l
  | .tup l => AV.shuts l
  | _ => false
def AV.shuts : List AV → Bool
  | [] => true
  | v :: l => match v.shut with
    | true => AV.shuts l
    | false => false
end
inductive AX where
  | normal
  | exit (id : Nat)
  | ret

def Cnd.beq : Cnd → Cnd → Bool
  | .lt a b, .lt c d => SE.beq a c && SE.beq b d
  | .eq a b, .eq c d => SE.beq a c && SE.beq b d
  | _, _ => false
mutual
def AV.beq : AV → AV → Bool
  | .bool a, .bool b => a == b
  | .int k a, .int k' b => decide (k = k') && a == b
  | .sym k e, .sym k' e' => decide (k = k') && SE.beq e e'
  | .bsym c p, .bsym c' p' => Cnd.beq c c' && p == p'
  | .eptr n e s j, .eptr n' e' s' j' => (Nat.beq n n' && SE.beq e e') && (Nat.beq s s' && Nat.beq j j')
  | .dsl n e s, .dsl n' e' s' => Nat.beq n n' && (SE.beq e e' && Nat.beq s s')
  | .ssl n e l s, .ssl n' e' l' s' => (Nat.beq n n' && SE.beq e e') && (Nat.beq l l' && Nat.beq s s')
  | .rsl i, .rsl j => Nat.beq i j
  | .rptr i e, .rptr j e' => Nat.beq i j && SE.beq e e'
  | .nilp, .nilp => true
  | .ptr n o, .ptr n' o' => Nat.beq n n' && Nat.beq o o'
  | .gptr n o, .gptr n' o' => Nat.beq n n' && Nat.beq o o'
  | .nilsl, .nilsl => true
  | .sl n o l s r, .sl n' o' l' s' r' => Nat.beq n n' && (Nat.beq o o' && (Nat.beq l l' && (Nat.beq s s' && (match r, r' with
    | .whole, .whole => true
    | .any, .any => true
    | .ex c, .ex c' => Nat.beq c c'
    | _, _ => false))))
  | .esl n, .esl n' => Nat.beq n n'
  | .zsl, .zsl => true
  | .osl e, .osl e' => SE.beq e e'
  | .nilmap, .nilmap => true
  | .map n, .map n' => Nat.beq n n'
  | .fn (.func f) a b, .fn (.func f') a' b' => Nat.beq f f' && (AV.beqs a a' && AV.beqs b b')
  | .nilfn, .nilfn => true
  | .nilif, .nilif => true
  | .agg a, .agg b => AV.beqs a b
  | .tup a, .tup b => AV.beqs a b
  | _, _ => false
def AV.beqs : List AV → List AV → Bool
  | [], [] => true
  | a :: l, b :: m => AV.beq a b && AV.beqs l m
  | _, _ => false
end

def guardA [Fc] (ops : Array Oper) (o : Oper) (env : T AV) : Option Bool := match o.guard with
  | none => some true
  | some (j, want) => match ops[j]? with
    | none => some false
    | some g => match g.dst with
      | none => some false
      | some d => match env.get d with
        | none => none
        | some (.bool b) => some (b == want)
        | some (.bsym c p) => match askC c with
          | some q => some ((q == p) == want)
          | none => none
        | some _ => some false
def putA (nt : Nat) (env : T AV) (dst : Option Tmp) (v : AV) : Option (T AV) := match dst with
  | none => some env
  | some d => match Nat.blt d nt with
    | true => some (env.put d (some v))
    | false => none

section
variable [Fc] (P : Program) (call : FuncId → List AV → AH → Option (AV × AH)) (nt : Nat)

def opA (op : Op) (vs : List AV) (h : AH) : Option (AV × AH) := match kd op with
  | .pure => match apure P op vs with
    | some v => some (v, h)
    | none => none
  | .read => match aread P op vs h with
    | some v => some (v, h)
    | none => none
  | .alloc => match aalloc P op vs with
    | some (o, k) => match fresh h o with
      | some h' => some (k.at h.next, h')
      | none => none
    | none => none
  | .loud => match aloud P op vs h with
    | some (.val v h') => some (v, h')
    | some (.call f args) => call f args h
    | none => none

/-- a region in the order of the text -/
def regL (ops : Array Oper) : List Oper → T AV → AH → Option (T AV × AH)
  | [], env, h => some (env, h)
  | o :: rest, env, h => match guardA ops o env with
    | none => none
    | some false => match putA nt env o.dst und with
      | some env' => regL ops rest env' h
      | none => none
    | some true => match evs env o.op.operands.toList with
      | none => none
      | some vs => match opA P call o.op vs h with
        | none => none
        | some (v, h') => match putA nt env o.dst v with
          | some env' => regL ops rest env' h'
          | none => none

/-- what stands ahead of each operation: a number's bits -/
def bfOf (t : T Nat) : List Edge → Nat
  | [] => 0
  | e :: l => match Region.binds .any e with
    | true => (2 ^ e.on ||| (match t.get e.on with | some b => b | none => 0)) ||| bfOf t l
    | false => bfOf t l
def bfs : Nat → List Oper → T Nat → T Nat
  | _, [], t => t
  | i, o :: l, t => bfs (i + 1) l (t.put i (some (bfOf t o.after.toList)))
def bf (ops : Array Oper) : T Nat := bfs 0 ops.toList .e
def bitsAt (b : T Nat) (i : Nat) : Nat := match b.get i with
  | some x => x
  | none => 0
def ahead (b : T Nat) (i j : Nat) : Bool := (bitsAt b j).testBit i

inductive Rk where
  | skip
  | val (v : AV)
  | alloc (o : AO) (v : AV)
  | loud (v : AV) (h : AH)
def Rk.res : Rk → AV
  | .skip => und
  | .val v => v
  | .alloc _ v => v
  | .loud v _ => v
/-- blocks of this region, laid over what memory there is -/
def overlay (base : Nat) (see : Nat → Bool) : List (Nat × AO) → AH → AH
  | [], h => h
  | (i, o) :: l, h => match see i with
    | true => (overlay base see l h).put (Nat.add base i) (some o)
    | false => overlay base see l h
/-- the operations, one by one: what each gives -/
def regD (ops : Array Oper) (b : T Nat) (base : Nat) : Nat → List Oper → T AV → AH → Nat → List (Nat × AO) → List Rk → Option (List Rk × T AV × AH × Nat × List (Nat × AO))
  | _, [], env, h, cons, al, rs => some (rs.reverse, env, h, cons, al)
  | i, o :: rest, env, h, cons, al, rs => match guardA ops o env with
    | none => none
    | some false => match putA nt env o.dst und with
      | some env' => regD ops b base (Nat.add i 1) rest env' h cons al (.skip :: rs)
      | none => none
    | some true => match evs env o.op.operands.toList with
      | none => none
      | some vs => match (match kd o.op with
          | .pure => match apure P o.op vs with
            | some v => some (Rk.val v, h, cons, al)
            | none => none
          | .read => match aread P o.op vs (overlay base (fun a => ahead b a i && !(cons.testBit a)) al h) with
            | some v => some (Rk.val v, h, cons, al)
            | none => none
          | .alloc => match aalloc P o.op vs with
            | some (ao, k) => some (Rk.alloc ao (k.at (Nat.add base i)), h, cons, (i, ao) :: al)
            | none => none
          | .loud => match opA P call o.op vs (overlay base (fun a => ahead b a i && !(cons.testBit a)) al h) with
            | some (v, h') => some (Rk.loud v h', h', cons ||| bitsAt b i, al)
            | none => none) with
        | none => none
        | some (r, h', cons', al') => match putA nt env o.dst r.res with
          | some env' => regD ops b base (Nat.add i 1) rest env' h' cons' al' (r :: rs)
          | none => none

def isLoud (o : Oper) : Bool := match kd o.op with
  | .loud => true
  | _ => false
def looks (ops : Array Oper) (o : Oper) : List Tmp := o.dst.toList ++ o.looksAt ops
def memB (t : Nat) : List Nat → Bool
  | [] => false
  | x :: l => match Nat.beq x t with
    | true => true
    | false => memB t l
def touch (ops : Array Oper) (o q : Oper) : Bool := (match q.dst with
  | some d => memB d (looks ops o)
  | none => false) || (isLoud o && isLoud q)
/-- every two operations that touch one slot, or are both loud, are ordered -/
def chk2 (ops : Array Oper) (b : T Nat) (o : Oper) (i : Nat) : Nat → List Oper → Bool
  | _, [] => true
  | j, q :: l => match Nat.beq i j with
    | true => chk2 ops b o i (Nat.add j 1) l
    | false => match touch ops o q with
      | false => chk2 ops b o i (Nat.add j 1) l
      | true => match (match Nat.blt j i with
          | true => ahead b j i
          | false => ahead b i j) with
        | true => chk2 ops b o i (Nat.add j 1) l
        | false => false
def chk1 (ops : Array Oper) (b : T Nat) : Nat → List Oper → Bool
  | _, [] => true
  | i, o :: l => match chk2 ops b o i 0 ops.toList with
    | true => chk1 ops b (Nat.add i 1) l
    | false => false
def edgesLt : Nat → List Oper → Bool
  | _, [] => true
  | i, o :: l => match o.after.toList.all (fun e => !(Region.binds .any e) || Nat.blt e.on i) with
    | true => edgesLt (Nat.add i 1) l
    | false => false
def chk (ops : Array Oper) : Bool := chk1 ops (bf ops) 0 ops.toList && edgesLt 0 ops.toList

/-- may operation i come when the loud ones below j are done, and no others? -/
def mayAt (b : T Nat) (i j : Nat) : Nat → List Rk → Bool
  | _, [] => true
  | l, .loud _ _ :: rs => match Nat.blt l j with
    | true => match ahead b i l with
      | true => false
      | false => mayAt b i j (Nat.add l 1) rs
    | false => match ahead b l i with
      | true => false
      | false => mayAt b i j (Nat.add l 1) rs
  | l, _ :: rs => mayAt b i j (Nat.add l 1) rs
/-- a read gives the same at a state between loud operations, if it may come there -/
def okAt (b : T Nat) (base : Nat) (all : List Rk) (al : List (Nat × AO)) (op : Op) (vs : List AV) (v : AV) (i j : Nat) (h : AH) (cons : Nat) : Bool := match mayAt b i j 0 all with
  | false => true
  | true => match aread P op vs (overlay base (fun a => ahead b a i && !(cons.testBit a)) al h) with
    | some u => AV.beq v u
    | none => false
def sameNext (b : T Nat) (base : Nat) (all : List Rk) (al : List (Nat × AO)) (op : Op) (vs : List AV) (v : AV) (i : Nat) : Nat → AH → Nat → List Rk → Bool
  | _, _, _, [] => true
  | j, h, cons, r :: rs => match r with
    | .loud _ h' => match okAt P b base all al op vs v i (Nat.add j 1) h' (cons ||| bitsAt b j) with
      | false => false
      | true => sameNext b base all al op vs v i (Nat.add j 1) h' (cons ||| bitsAt b j) rs
    | _ => sameNext b base all al op vs v i (Nat.add j 1) h cons rs
/-- .. over all states between loud operations -/
def sameAll (b : T Nat) (base : Nat) (all : List Rk) (al : List (Nat × AO)) (op : Op) (vs : List AV) (v : AV) (i : Nat) (h : AH) : Bool := match okAt P b base all al op vs v i 0 h 0 with
  | false => false
  | true => sameNext P b base all al op vs v i 0 h 0 all
/-- all reads -/
def reads (ops : Array Oper) (b : T Nat) (base : Nat) (h0 : AH) (all : List Rk) (al : List (Nat × AO)) : Nat → List Oper → List Rk → T AV → Bool
  | i, o :: l, r :: rs, env => match (match r, kd o.op with
      | .val v, .read => match evs env o.op.operands.toList with
        | some vs => sameAll P b base all al o.op vs v i h0
        | none => false
      | _, _ => true) with
    | false => false
    | true => match putA nt env o.dst r.res with
      | some env' => reads ops b base h0 all al (Nat.add i 1) l rs env'
      | none => false
  | _, [], [], _ => true
  | _, _, _, _ => false
/-- a region that draws its order -/
def regDr (ops : Array Oper) (env : T AV) (h : AH) : Option (T AV × AH) := match chk ops with
  | false => none
  | true => match Nat.blt (Nat.add h.next ops.size) 1000000 with
    | false => none
    | true => match regD P call nt ops (bf ops) h.next 0 ops.toList env (h.skip ops.size) 0 [] [] with
      | none => none
      | some (rs, env', h', cons, al) => match reads P nt ops (bf ops) h.next (h.skip ops.size) rs al 0 ops.toList rs env with
        | false => none
        | true => some (env', overlay h.next (fun a => !(cons.testBit a)) al h')

def iter (body : T AV → AH → Option (AX × T AV × AH)) : Nat → T AV → AH → Option (AX × T AV × AH)
  | 0, _, _ => none
  | n + 1, env, h => match body env h with
    | some (.normal, env', h') => iter body n env' h'
    | r => r
def exec : Code → T AV → AH → Option (AX × T AV × AH)
  | .skip, env, h => some (.normal, env, h)
  | .label _, env, h => some (.normal, env, h)
  | .region _ ops false, env, h => match regL P call nt ops ops.toList env h with
    | some (env', h') => some (.normal, env', h')
    | none => none
  | .region _ ops true, env, h => match regDr P call nt ops env h with
    | some (env', h') => some (.normal, env', h')
    | none => none
  | .seq x y, env, h => match exec x env h with
    | some (.normal, env', h') => exec y env' h'
    | r => r
  | .cond c x y, env, h => match ev env c with
    | some (.bool true) => exec x env h
    | some (.bool false) => exec y env h
    | some (.bsym q p) => match askC q with
      | some r => match r == p with
        | true => exec x env h
        | false => exec y env h
      | none => none
    | _ => none
  | .block id c, env, h => match exec c env h with
    | some (.exit j, env', h') => match Nat.beq j id with
      | true => some (.normal, env', h')
      | false => some (.exit j, env', h')
    | r => r
  | .loop c, env, h => iter (exec c) 100000 env h
  | .scope c, env, h => exec c env h
  | .exit id, env, h => some (.exit id, env, h)
  | .ret, env, h => some (.ret, env, h)
  | _, _, _ => none
end

def envOf : Nat → List AV → T AV → T AV
  | _, [], t => t
  | i, v :: l, t => envOf (Nat.add i 1) l (t.put i (some v))
def ress [Fc] (P : Program) (h : AH) (env : T AV) : List ResultVar → Option (List AV)
  | [] => some []
  | .tmp t :: l => match env.get t with
    | none => none
    | some v => match ress P h env l with
      | some vs => some (v :: vs)
      | none => none
  | .cell a t :: l => match env.get a with
    | none => none
    | some p => match aread P (.load t (.tmp a)) [p] h with
      | none => none
      | some v => match ress P h env l with
        | some vs => some (v :: vs)
        | none => none
def resOf : List AV → AV
  | [v] => v
  | vs => .tup vs
/-- a call that is known: function, arguments, what must be known of numbers, result, what becomes of blocks of which nothing is known (name, which one it is, which one it is then) -/
structure Kn where
  f : Nat
  args : List AV
  conds : List (Cnd × Bool) := []
  res : AV
  effs : List (Nat × Nat × Nat) := []
/-- calls that are known: function, arguments, result -/
abbrev Ov := List (Nat × List AV × AV)
def condsOk [Fc] : List (Cnd × Bool) → Bool
  | [] => true
  | (.lt a b, r) :: l => match askLt a b with
    | some q => match q == r with
      | true => condsOk l
      | false => false
    | none => false
  | (.eq a b, r) :: l => match askEq a b with
    | some q => match q == r with
      | true => condsOk l
      | false => false
    | none => false
def effDo (h : AH) : List (Nat × Nat × Nat) → Option AH
  | [] => some h
  | (n, i, j) :: l => match h.get n with
    | some (.opq q) => match Nat.beq q i with
      | true => effDo (h.put n (some (.opq j))) l
      | false => none
    | _ => none
def knAt [Fc] (f : FuncId) (args : List AV) (h : AH) : List Kn → Option (AV × AH)
  | [] => none
  | k :: l => match Nat.beq k.f f with
    | false => knAt f args h l
    | true => match AV.beqs args k.args with
      | false => knAt f args h l
      | true => match condsOk k.conds with
        | false => knAt f args h l
        | true => match effDo h k.effs with
          | some h' => some (k.res, h')
          | none => knAt f args h l
def ovAt (f : FuncId) (args : List AV) : Ov → Option AV
  | [] => none
  | (g, xs, v) :: l => match Nat.beq g f with
    | true => match AV.beqs args xs with
      | true => some v
      | false => ovAt f args l
    | false => ovAt f args l
def callN [Fc] (P : Program) (ov : Ov) (kn : List Kn) : Nat → FuncId → List AV → AH → Option (AV × AH)
  | 0, _, _, _ => none
  | n + 1, f, args, h => match ovAt f args ov with
    | some v => some (v, h)
    | none => match knAt f args h kn with
    | some r => some r
    | none => match P.funcs[f]? with
    | none => none
    | some fn => match fn.name == "runtime.NumGoroutine" with
      | true => none
      | false => match fn.body with
        | none => none
        | some c => match Nat.ble args.length fn.ntmps && Nat.ble fn.ntmps 1000000 with
          | false => none
          | true => match exec P (callN P ov kn n) fn.ntmps c (envOf 0 args .e) h with
            | some (.exit _, _, _) => none
            | some (_, env', h') => match ress P h' env' fn.results.toList with
              | some vs => some (resOf vs, h')
              | none => none
            | none => none
/-- the call gives a value -/
def runs [Fc] (P : Program) (ov : Ov) (n : Nat) (f : FuncId) (args : List AV) (v : AV) : Bool := match callN P ov [] n f args (.mk .e 0) with
  | some (u, _) => AV.beq u v
  | none => false
def yes (P : Program) (n : Nat) (f : FuncId) : Bool := @runs ⟨[], [], []⟩ P [] n f [] (.bool true)
/-- a tree of questions on numbers that are not known -/
inductive DT where
  | leaf
  | is (v : AV)
  | bad
  | node (c : Cnd) (t e : DT)
def tree (P : Program) (gs : List (Nat × List Int)) (ov : Ov) (n : Nat) (f : FuncId) (args : List AV) : DT → List (Cnd × Bool) → Bool
  | .leaf, fs => @runs ⟨fs, gs, []⟩ P ov n f args (.bool true)
  | .is v, fs => match AV.shut v with
    | true => @runs ⟨fs, gs, []⟩ P ov n f args v
    | false => false
  | .bad, _ => true
  | .node c t e, fs => match tree P gs ov n f args t ((c, true) :: fs) with
    | true => tree P gs ov n f args e ((c, false) :: fs)
    | false => false
/-! calls amid two blocks of which nothing is known: name 0 (the 2s-th), name 1 (the 2s+1-th) -/
def heap2 (s : Nat) : AH := .mk ((T.e.put 0 (some (.opq (Nat.mul 2 s)))).put 1 (some (.opq (Nat.add (Nat.mul 2 s) 1)))) 2
def isOpq (h : AH) (n i : Nat) : Bool := match h.get n with
  | some (.opq j) => Nat.beq j i
  | _ => false
def runs2 [Fc] (P : Program) (ov : Ov) (kn : List Kn) (n : Nat) (f : FuncId) (args : List AV) (s0 : Nat) (v : AV) (s : Nat) : Bool := match callN P ov kn n f args (heap2 s0) with
  | some (u, h) => AV.beq u v && (isOpq h 0 (Nat.mul 2 s) && isOpq h 1 (Nat.add (Nat.mul 2 s) 1))
  | none => false
/-- a tree of questions, whose ends tell the result and which one the blocks are then -/
inductive DM where
  | is (v : AV) (s : Nat)
  | bad
  | node (c : Cnd) (t e : DM)
def treeM (P : Program) (gs : List (Nat × List Int)) (ov : Ov) (kn : List Kn) (n : Nat) (f : FuncId) (args : List AV) (s0 : Nat) : DM → List (Cnd × Bool) → Bool
  | .is v s, fs => match AV.shut v with
    | true => @runs2 ⟨fs, gs, []⟩ P ov kn n f args s0 v s
    | false => false
  | .bad, _ => true
  | .node c t e, fs => match treeM P gs ov kn n f args s0 t ((c, true) :: fs) with
    | true => treeM P gs ov kn n f args s0 e ((c, false) :: fs)
    | false => false
end
end Go.Proofs.Ytmfemophafncnaa.Ex

/-
  The runner: numbers and names in place of others; values of a form; known calls of any effect; known loops. What it computes. No condition.
-/
namespace Go.Proofs.Ytmfemophafncnaa.Ex
open Go
noncomputable section

/-- expressions for numbers, for lists; names for names; which block of which nothing is known -/
structure Sub where
  v : List (Nat × SE) := []
  l : List (Nat × SE) := []
  n : List (Nat × Nat) := []
  o : List (Nat × Nat) := []
def lookS (i : Nat) : List (Nat × SE) → Option SE
  | [] => none
  | (j, e) :: r => match Nat.beq j i with
    | true => some e
    | false => lookS i r
def lookN (i : Nat) : List (Nat × Nat) → Nat
  | [] => i
  | (j, e) :: r => match Nat.beq j i with
    | true => e
    | false => lookN i r
def Sub.vAt (θ : Sub) (i : Nat) : SE := match lookS i θ.v with
  | some e => e
  | none => .var i
def Sub.lAt (θ : Sub) (i : Nat) : SE := match lookS i θ.l with
  | some e => e
  | none => .lvar i
def Sub.nAt (θ : Sub) (i : Nat) : Nat := lookN i θ.n
def Sub.oAt (θ : Sub) (i : Nat) : Nat := lookN i θ.o
def SE.sub (θ : Sub) : SE → SE
  | .var i => θ.vAt i
  | .lit n => .lit n
  | .bin o a b => .bin o (a.sub θ) (b.sub θ)
  | .ubin o a b => .ubin o (a.sub θ) (b.sub θ)
  | .cv k a => .cv k (a.sub θ)
  | .lvar i => θ.lAt i
  | .lset l e j v => .lset (l.sub θ) (e.sub θ) j (v.sub θ)
  | .lsnoc l r => .lsnoc (l.sub θ) (r.sub θ)
  | .rnil => .rnil
  | .rep n => .rep (n.sub θ)
  | .rcons v r => .rcons (v.sub θ) (r.sub θ)
  | .at l e j => .at (l.sub θ) (e.sub θ) j
  | .len l => .len (l.sub θ)
def Cnd.sub (θ : Sub) : Cnd → Cnd
  | .lt a b => .lt (a.sub θ) (b.sub θ)
  | .eq a b => .eq (a.sub θ) (b.sub θ)
mutual
def AV.sub (θ : Sub) : AV → AV
  | .sym k e => .sym k (e.sub θ)
  | .bsym c p => .bsym (c.sub θ) p
  | .ptr n off => .ptr (θ.nAt n) off
  | .eptr n e s j => .eptr (θ.nAt n) (e.sub θ) s j
  | .dsl n e s => .dsl (θ.nAt n) (e.sub θ) s
  | .rptr i e => .rptr i (e.sub θ)
  | .ssl n e l s => .ssl (θ.nAt n) (e.sub θ) l s
  | .sl n off len sz r => .sl (θ.nAt n) off len sz r
  | .map n => .map (θ.nAt n)
  | .fn f a b => .fn f (AV.subs θ a) (AV.subs θ b)
  | .ifc t v => .ifc t (AV.sub θ v)
  | .agg l => .agg (AV.subs θ l)
  | .tup l => .tup (AV.subs θ l)
  | .bool b => .bool b
  | .int k n => .int k n
  | .str s => .str s
  | .nilp => .nilp
  | .gptr g off => .gptr g off
  | .nilsl => .nilsl
  | .esl n => .esl n
  | .zsl => .zsl
  | .osl e => .osl (e.sub θ)
  | .rsl i => .rsl i
  | .nilmap => .nilmap
  | .nilfn => .nilfn
  | .nilif => .nilif
def AV.subs (θ : Sub) : List AV → List AV
  | [] => []
  | v :: l => AV.sub θ v :: AV.subs θ l
end
/-- a block, as it is to be -/
inductive TB where
  | cells (l : List AV) (e : TypeId)
  | recs (l : SE) (ks : List CK) (e : TypeId)
  | opb (i n m : Nat)
def TB.sub (θ : Sub) : TB → TB
  | .cells l e => .cells (AV.subs θ l) e
  | .recs l ks e => .recs (l.sub θ) ks e
  | .opb i n m => .opb (θ.oAt i) (θ.nAt n) (θ.nAt m)
def TB.ao : TB → AO
  | .cells l e => .cells (mkCells l) l.length e
  | .recs l ks e => .recs l ks e
  | .opb i n m => .opb i n m

/-! numbers below a bound, names below a bound: what a form speaks of -/
structure Bd where
  k : Nat
  kl : Nat
  ko : Nat
  kn : Nat
mutual
/-- a number -/
def SE.bd (B : Bd) : SE → Bool
  | .var i => Nat.blt i B.k
  | .lit _ => true
  | .bin _ a b => SE.bd B a && SE.bd B b
  | .ubin _ a b => SE.bd B a && SE.bd B b
  | .cv _ a => SE.bd B a
  | .at l e j => SE.bdL B l && (SE.bd B e && Nat.blt j 64)
  | .len l => SE.bdL B l
  | .lvar _ => false
  | .lset _ _ _ _ => false
  | .lsnoc _ _ => false
  | .rnil => false
  | .rep _ => false
  | .rcons _ _ => false
/-- a list -/
def SE.bdL (B : Bd) : SE → Bool
  | .lvar i => Nat.blt i B.kl
  | .lset l e j v => (SE.bdL B l && SE.bd B e) && (Nat.blt j 64 && SE.bd B v)
  | .lsnoc l r => SE.bdL B l && SE.bdR B r
  | .rnil => true
  | .rep n => SE.bd B n
  | .rcons _ _ => false
  | .var _ => false
  | .lit _ => false
  | .bin _ _ _ => false
  | .ubin _ _ _ => false
  | .cv _ _ => false
  | .at _ _ _ => false
  | .len _ => false
/-- a record -/
def SE.bdR (B : Bd) : SE → Bool
  | .rnil => true
  | .rep _ => false
  | .rcons v r => SE.bd B v && SE.bdR B r
  | .lvar _ => false
  | .lset _ _ _ _ => false
  | .lsnoc _ _ => false
  | .var _ => false
  | .lit _ => false
  | .bin _ _ _ => false
  | .ubin _ _ _ => false
  | .cv _ _ => false
  | .at _ _ _ => false
  | .len _ => false
end
def Cnd.bd (B : Bd) : Cnd → Bool
  | .lt a b => SE.bd B a && SE.bd B b
  | .eq a b => SE.bd B a && SE.bd B b
mutual
def AV.bd (B : Bd) : AV → Bool
  | .sym _ e => SE.bd B e
  | .bsym c _ => Cnd.bd B c
  | .ptr n _ => Nat.blt n B.kn
  | .eptr n e _ _ => Nat.blt n B.kn && SE.bd B e
  | .dsl n e _ => Nat.blt n B.kn && SE.bd B e
  | .ssl n e _ _ => Nat.blt n B.kn && SE.bd B e
  | .rptr _ e => SE.bd B e
  | .sl n _ _ _ _ => Nat.blt n B.kn
  | .map n => Nat.blt n B.kn
  | .fn _ a b => AV.bds B a && AV.bds B b
  | .ifc _ v => AV.bd B v
  | .agg l => AV.bds B l
  | .tup l => AV.bds B l
  | .bool _ => true
  | .int _ _ => true
  | .str _ => true
  | .nilp => true
  | .gptr _ _ => true
  | .nilsl => true
  | .esl _ => true
  | .zsl => true
  | .osl e => SE.bd B e
  | .rsl _ => true
  | .nilmap => true
  | .nilfn => true
  | .nilif => true
def AV.bds (B : Bd) : List AV → Bool
  | [] => true
  | v :: l => AV.bd B v && AV.bds B l
end
def ltAll (n : Nat) : List CK → Bool
  | l => Nat.ble l.length n
def TB.bd (B : Bd) : TB → Bool
  | .cells l _ => AV.bds B l && allOne l
  | .recs l ks _ => SE.bdL B l && ltAll 64 ks
  | .opb i n m => Nat.blt i B.ko && (Nat.blt n B.kn && Nat.blt m B.kn)

/-! a value is of a form -/
section
variable [Fc]
def eqB (a b : SE) : Bool := match askEq a b with
  | some true => true
  | _ => false
mutual
def AV.fits : AV → AV → Bool
  | .agg a, .agg b => AV.fitsL a b
  | .tup a, .tup b => AV.fitsL a b
  | .int k n, .sym k' e => decide (k = k') && eqB (.lit n) e
  | .sym k e, .sym k' e' => decide (k = k') && eqB e e'
  | .sym k e, .int k' n => decide (k = k') && eqB e (.lit n)
  | .bool b, .bsym c p => match askC c with
    | some q => b == (q == p)
    | none => false
  | .bsym c p, .bool b => match askC c with
    | some q => b == (q == p)
    | none => false
  | .bsym c p, .bsym c' p' => (Cnd.beq c c' && p == p') || (match askC c with
    | some q => (match askC c' with
      | some q' => (q == p) == (q' == p')
      | none => false)
    | none => false)
  | .dsl n e s, .dsl n' e' s' => Nat.beq n n' && (Nat.beq s s' && eqB e e')
  | .sl n off len s r, .dsl n' e' s' => (Nat.beq n n' && Nat.beq s s') && ((Nat.beq off 0 && (match r with | .whole => true | _ => false)) && eqB (.lit (Int.ofNat len)) e')
  | .nilsl, .zsl => true
  | .esl _, .zsl => false
  | .osl e, .osl e' => eqB e e'
  | a, b => AV.beq a b
def AV.fitsL : List AV → List AV → Bool
  | [], [] => true
  | a :: l, b :: m => AV.fits a b && AV.fitsL l m
  | _, _ => false
end
/-- cells are the fields of a record -/
def recFits (cs : T AV) : Nat → List CK → SE → Bool
  | _, [], .rnil => true
  | off, k :: ks, .rcons v r => match cs.get off with
    | some a => match toCK k a with
      | some x => eqB x v && recFits cs (Nat.add off 1) ks r
      | none => false
    | none => false
  | _, _, _ => false
/-- .. of the records of a list that is told record by record -/
def chainFits (cs : T AV) (ks : List CK) : SE → Option Nat
  | .rnil => some 0
  | .lsnoc l r => match chainFits cs ks l with
    | some n => match recFits cs (Nat.mul n ks.length) ks r with
      | true => some (Nat.add n 1)
      | false => none
    | none => none
  | _ => none
def CK.beqs : List CK → List CK → Bool
  | [], [] => true
  | a :: l, b :: m => CK.beq a b && CK.beqs l m
  | _, _ => false
def TB.fits (o : AO) (t : TB) : Bool := match o, t with
  | .cells cs k e, .cells l e' => Nat.beq e e' && (Nat.ble l.length k && (match getN cs 0 l.length with
    | some l' => AV.fitsL l' l
    | none => false))
  | .cells cs k e, .recs l ks e' => Nat.beq e e' && (match chainFits cs ks l with
    | some n => Nat.ble (Nat.mul n ks.length) k
    | none => false)
  | .recs l ks e, .recs l' ks' e' => Nat.beq e e' && (SE.beq l l' && CK.beqs ks ks')
  | .opb i n m, .opb i' n' m' => Nat.beq i i' && (Nat.beq n n' && Nat.beq m m')
  | _, _ => false
end

/-! a state of a function, as it is to be -/
structure Tm where
  env : List (Nat × AV)
  heap : List (Nat × TB)
  b : Bd
def envT : List (Nat × AV) → T AV
  | [] => .e
  | (t, v) :: l => (envT l).put t (some v)
def heapT : List (Nat × TB) → T AO
  | [] => .e
  | (n, o) :: l => (heapT l).put n (some o.ao)
def Tm.h (t : Tm) : AH := .mk (heapT t.heap) t.b.kn
def bdE (B : Bd) : List (Nat × AV) → Bool
  | [] => true
  | (_, v) :: l => AV.bd B v && bdE B l
def bdH (B : Bd) : List (Nat × TB) → Bool
  | [] => true
  | (n, o) :: l => (Nat.blt n B.kn && TB.bd B o) && bdH B l
def Tm.ok (t : Tm) : Bool := bdE t.b t.env && (bdH t.b t.heap && Nat.ble t.b.kn 1000000)
section
variable [Fc]
def fitE (θ : Sub) (env : T AV) : List (Nat × AV) → Bool
  | [] => true
  | (t, v) :: l => match env.get t with
    | some u => AV.fits u (v.sub θ) && fitE θ env l
    | none => false
def notIn (θ : Sub) (n : Nat) : List (Nat × TB) → Bool
  | [] => true
  | (m, _) :: l => match Nat.beq (θ.nAt m) n with
    | true => false
    | false => notIn θ n l
def fitH (θ : Sub) (h : AH) : List (Nat × TB) → Bool
  | [] => true
  | (n, o) :: l => match h.get (θ.nAt n) with
    | some a => TB.fits a (o.sub θ) && (notIn θ (θ.nAt n) l && fitH θ h l)
    | none => false
/-- a state is of a form -/
def Tm.fits (t : Tm) (θ : Sub) (env : T AV) (h : AH) : Bool := t.ok && (fitE θ env t.env && fitH θ h t.heap)
end

/-! known calls -/
/-- function; arguments; what must be known of numbers; blocks that it looks at; what they are then (others are no more known); new blocks; the result. New blocks' names: rel, rel + 1, .. -/
structure Kc where
  f : Nat
  args : List AV
  conds : List (Cnd × Bool) := []
  pre : List (Nat × TB) := []
  post : List (Nat × TB) := []
  news : List TB := []
  res : AV
def rel : Nat := 600000
def relSub (nx : Nat) : Nat → List TB → List (Nat × Nat)
  | _, [] => []
  | i, _ :: l => (Nat.add rel i, Nat.add nx i) :: relSub nx (Nat.add i 1) l
def putAll (θ : Sub) : List (Nat × TB) → AH → AH
  | [], h => h
  | (n, o) :: l, h => (putAll θ l h).put n (some (o.sub θ).ao)
def dropAll : List (Nat × TB) → AH → AH
  | [], h => h
  | (n, _) :: l, h => (dropAll l h).put n none
def newAll (θ : Sub) : List TB → AH → AH
  | [], h => h
  | o :: l, h => newAll θ l ((h.put h.next (some (o.sub θ).ao)).skip 1)
section
variable [Fc]
def Kc.at (k : Kc) (h : AH) : Option (AV × AH) :=
  match fitH {} h k.pre with
  | false => none
  | true => match Nat.blt (Nat.add h.next k.news.length) 600000 with
    | false => none
    | true =>
      let θ : Sub := { n := relSub h.next 0 k.news }
      some (k.res.sub θ, newAll θ k.news (putAll θ k.post (dropAll k.pre h)))
def kcAt (f : FuncId) (args : List AV) (h : AH) : List Kc → Option (AV × AH)
  | [] => none
  | k :: l => match Nat.beq k.f f with
    | false => kcAt f args h l
    | true => match AV.fitsL args k.args with
      | false => kcAt f args h l
      | true => match condsOk k.conds with
        | false => kcAt f args h l
        | true => match k.at h with
          | some r => some r
          | none => kcAt f args h l
/-- known calls, by their arguments (callK: and by memory) -/
abbrev Kg := List AV → List Kc
def callK (P : Program) (kx : AH → Kg) : Nat → FuncId → List AV → AH → Option (AV × AH)
  | 0, _, _, _ => none
  | n + 1, f, args, h => match kcAt f args h (kx h args) with
    | some r => some r
    | none => match P.funcs[f]? with
    | none => none
    | some fn => match fn.name == "runtime.NumGoroutine" with
      | true => none
      | false => match fn.body with
        | none => none
        | some c => match Nat.ble args.length fn.ntmps && Nat.ble fn.ntmps 1000000 with
          | false => none
          | true => match exec P (callK P kx n) fn.ntmps c (envOf 0 args .e) h with
            | some (.exit _, _, _) => none
            | some (_, env', h') => match ress P h' env' fn.results.toList with
              | some vs => some (resOf vs, h')
              | none => none
            | none => none

/-! names that a form speaks of -/
mutual
def AV.nm (p : Nat → Bool) : AV → Bool
  | .ptr n _ => p n
  | .eptr n _ _ _ => p n
  | .dsl n _ _ => p n
  | .ssl n _ _ _ => p n
  | .sl n _ _ _ _ => p n
  | .map n => p n
  | .fn _ a b => AV.nms p a && AV.nms p b
  | .ifc _ v => AV.nm p v
  | .agg l => AV.nms p l
  | .tup l => AV.nms p l
  | .sym _ _ => true
  | .bsym _ _ => true
  | .rptr _ _ => true
  | .bool _ => true
  | .int _ _ => true
  | .str _ => true
  | .nilp => true
  | .gptr _ _ => true
  | .nilsl => true
  | .esl _ => true
  | .zsl => true
  | .osl _ => true
  | .rsl _ => true
  | .nilmap => true
  | .nilfn => true
  | .nilif => true
def AV.nms (p : Nat → Bool) : List AV → Bool
  | [] => true
  | v :: l => AV.nm p v && AV.nms p l
end
def TB.nm (p : Nat → Bool) : TB → Bool
  | .cells l _ => AV.nms p l
  | .recs _ _ _ => true
  | .opb _ n m => p n && p m
def nmE (p : Nat → Bool) : List (Nat × AV) → Bool
  | [] => true
  | (_, v) :: l => AV.nm p v && nmE p l
def nmH (p : Nat → Bool) : List (Nat × TB) → Bool
  | [] => true
  | (_, o) :: l => TB.nm p o && nmH p l
def hasN (n : Nat) : List (Nat × TB) → Bool
  | [] => false
  | (m, _) :: l => match Nat.beq m n with
    | true => true
    | false => hasN n l
/-- a block of the form, or a new one -/
def okN (l : List (Nat × TB)) (nx n : Nat) : Bool := match Nat.ble nx n with
  | true => true
  | false => hasN n l
/-! known loops -/
/-- which loop it is: the number of its first region -/
def loopId : Code → Option Nat
  | .region id _ _ => some id
  | .seq a b => match loopId a with
    | some n => some n
    | none => loopId b
  | .cond _ a b => match loopId a with
    | some n => some n
    | none => loopId b
  | .block _ c => loopId c
  | .loop c => loopId c
  | .scope c => loopId c
  | _ => none
/-- which one; names below which they stay; how it begins; how it ends -/
structure Ln where
  key : Nat
  nx : Nat
  t : Tm
  th : Sub := {}
  x : AX
  post : Tm
def postNames (nx : Nat) (h : AH) : List (Nat × TB) → Bool
  | [] => true
  | (n, _) :: l => (match Nat.blt n nx with
    | true => (h.get n).isSome
    | false => Nat.ble h.next n) && postNames nx h l
def Ln.at (l : Ln) (env : T AV) (h : AH) : Option (AX × T AV × AH) :=
  match l.t.fits l.th env h with
  | false => none
  | true => match (l.post.ok && Nat.ble l.nx h.next) && ((Nat.ble h.next l.post.b.kn && postNames l.nx h l.post.heap) && (nmE (okN l.post.heap h.next) l.post.env && nmH (okN l.post.heap h.next) l.post.heap)) with
    | false => none
    | true => some (l.x, envT l.post.env, l.post.h)
def lnAt (i : Nat) (env : T AV) (h : AH) : List Ln → Option (AX × T AV × AH)
  | [] => none
  | l :: r => match Nat.beq l.key i with
    | true => match l.at env h with
      | some x => some x
      | none => lnAt i env h r
    | false => lnAt i env h r
def lnHas (i : Nat) : List Ln → Bool
  | [] => false
  | l :: r => match Nat.beq l.key i with
    | true => true
    | false => lnHas i r
/-- a loop that is known, else round by round -/
def lnDo (c : Code) (env : T AV) (h : AH) (lns : List Ln) (body : T AV → AH → Option (AX × T AV × AH)) : Option (AX × T AV × AH) := match loopId c with
  | some i => match lnAt i env h lns with
    | some r => some r
    | none => match lnHas i lns with
      | true => iter body 3 env h
      | false => iter body 100000 env h
  | none => iter body 100000 env h
variable (P : Program) (call : FuncId → List AV → AH → Option (AV × AH)) (nt : Nat) (lns : List Ln)
def execL : Code → T AV → AH → Option (AX × T AV × AH)
  | .skip, env, h => some (.normal, env, h)
  | .label _, env, h => some (.normal, env, h)
  | .region _ ops false, env, h => match regL P call nt ops ops.toList env h with
    | some (env', h') => some (.normal, env', h')
    | none => none
  | .region _ ops true, env, h => match regDr P call nt ops env h with
    | some (env', h') => some (.normal, env', h')
    | none => none
  | .seq x y, env, h => match execL x env h with
    | some (.normal, env', h') => execL y env' h'
    | r => r
  | .cond c x y, env, h => match ev env c with
    | some (.bool true) => execL x env h
    | some (.bool false) => execL y env h
    | some (.bsym q p) => match askC q with
      | some r => match r == p with
        | true => execL x env h
        | false => execL y env h
      | none => none
    | _ => none
  | .block id c, env, h => match execL c env h with
    | some (.exit j, env', h') => match Nat.beq j id with
      | true => some (.normal, env', h')
      | false => some (.exit j, env', h')
    | r => r
  | .loop c, env, h => lnDo c env h lns (execL c)
  | .scope c, env, h => execL c env h
  | .exit id, env, h => some (.exit id, env, h)
  | .ret, env, h => some (.ret, env, h)
  | _, _, _ => none
end
/-! questions -/
/-- what a way through the text comes to: the result and how memory is, or a round's end, or a way out of the loop -/
inductive LO where
  | cont (θ : Sub)
  | out (θ : Sub)
inductive LT where
  | leaf (o : LO)
  | bad
  | node (c : Cnd) (t e : LT)
/-- all loops of a text -/
def loopsOf : Code → List Code
  | .seq a b => loopsOf a ++ loopsOf b
  | .cond _ a b => loopsOf a ++ loopsOf b
  | .block _ c => loopsOf c
  | .loop c => c :: loopsOf c
  | .scope c => loopsOf c
  | _ => []
def pickL (i : Nat) : List Code → Option Code
  | [] => none
  | c :: l => match loopId c with
    | some j => match Nat.beq j i with
      | true => some c
      | false => pickL i l
    | none => pickL i l
/-- a function's loop of that number -/
def bodyOf (P : Program) (f : FuncId) : Code := match P.funcs[f]? with
  | some fn => match fn.body with
    | some c => c
    | none => .skip
  | none => .skip
def ntOf (P : Program) (f : FuncId) : Nat := match P.funcs[f]? with
  | some fn => fn.ntmps
  | none => 0
def loopOf (P : Program) (f : FuncId) (i : Nat) : Code := match pickL i (loopsOf (bodyOf P f)) with
  | some c => c
  | none => .skip
/-- one loop alone bears the number -/
def countL (i : Nat) : List Code → Nat
  | [] => 0
  | c :: l => match loopId c with
    | some j => match Nat.beq j i with
      | true => Nat.add (countL i l) 1
      | false => countL i l
    | none => countL i l
def axEq : AX → AX → Bool
  | .normal, .normal => true
  | .exit i, .exit j => Nat.beq i j
  | .ret, .ret => true
  | _, _ => false
/-- names that stay what they are -/
def keeps (nx : Nat) (θ : Sub) : List (Nat × TB) → Bool
  | [] => true
  | (n, _) :: l => (match Nat.blt n nx with
    | true => Nat.beq (θ.nAt n) n
    | false => true) && keeps nx θ l
/-- a round of a loop, question by question. Names below 'nx' stay. -/
def treeL (P : Program) (gs : List (Nat × List Int)) (rks : List (Nat × CK)) (kcs : Kg) (lns : List Ln) (n nt nx : Nat) (c : Code) (t : Tm) (x : AX) (post : Tm) : LT → List (Cnd × Bool) → Bool
  | .leaf (.cont θ), fs => @Option.rec _ (fun _ => Bool) false (fun r => match r with
      | (x', env, h) => axEq x' .normal && (@Tm.fits ⟨fs, gs, rks⟩ t θ env h && keeps nx θ t.heap)) (@execL ⟨fs, gs, rks⟩ P (@callK ⟨fs, gs, rks⟩ P (fun _ => kcs) n) nt lns c (envT t.env) t.h)
  | .leaf (.out θ), fs => @Option.rec _ (fun _ => Bool) false (fun r => match r with
      | (x', env, h) => axEq x' x && (@Tm.fits ⟨fs, gs, rks⟩ post θ env h && keeps nx θ post.heap)) (@execL ⟨fs, gs, rks⟩ P (@callK ⟨fs, gs, rks⟩ P (fun _ => kcs) n) nt lns c (envT t.env) t.h)
  | .bad, _ => true
  | .node q a b, fs => match treeL P gs rks kcs lns n nt nx c t x post a ((q, true) :: fs) with
    | true => treeL P gs rks kcs lns n nt nx c t x post b ((q, false) :: fs)
    | false => false
/-- a call of a function, question by question: what it gives, and blocks behind it -/
inductive CT where
  | is (v : AV) (post : List (Nat × TB))
  | bad
  | node (c : Cnd) (t e : CT)
def treeC (P : Program) (gs : List (Nat × List Int)) (rks : List (Nat × CK)) (kcs : Kg) (lns : List Ln) (n : Nat) (f : FuncId) (args : List AV) (t : Tm) : CT → List (Cnd × Bool) → Bool
  | .is v post, fs => match P.funcs[f]? with
    | none => false
    | some fn => match fn.name == "runtime.NumGoroutine" with
      | true => false
      | false => match fn.body with
        | none => false
        | some c => match Nat.ble args.length fn.ntmps && Nat.ble fn.ntmps 1000000 with
          | false => false
          | true => match @execL ⟨fs, gs, rks⟩ P (@callK ⟨fs, gs, rks⟩ P (fun _ => kcs) n) fn.ntmps lns c (envOf 0 args .e) t.h with
            | some (.exit _, _, _) => false
            | some (_, env', h') => match @ress ⟨fs, gs, rks⟩ P h' env' fn.results.toList with
              | some vs => @AV.fits ⟨fs, gs, rks⟩ (resOf vs) v && @fitH ⟨fs, gs, rks⟩ {} h' post
              | none => false
            | none => false
  | .bad, _ => true
  | .node q a b, fs => match treeC P gs rks kcs lns n f args t a ((q, true) :: fs) with
    | true => treeC P gs rks kcs lns n f args t b ((q, false) :: fs)
    | false => false
/-- .. with known calls by memory -/
def treeK (P : Program) (gs : List (Nat × List Int)) (rks : List (Nat × CK)) (kx : AH → Kg) (lns : List Ln) (n : Nat) (f : FuncId) (args : List AV) (t : Tm) : CT → List (Cnd × Bool) → Bool
  | .is v post, fs => match P.funcs[f]? with
    | none => false
    | some fn => match fn.name == "runtime.NumGoroutine" with
      | true => false
      | false => match fn.body with
        | none => false
        | some c => match Nat.ble args.length fn.ntmps && Nat.ble fn.ntmps 1000000 with
          | false => false
          | true => match @execL ⟨fs, gs, rks⟩ P (@callK ⟨fs, gs, rks⟩ P kx n) fn.ntmps lns c (envOf 0 args .e) t.h with
            | some (.exit _, _, _) => false
            | some (_, env', h') => match @ress ⟨fs, gs, rks⟩ P h' env' fn.results.toList with
              | some vs => @AV.fits ⟨fs, gs, rks⟩ (resOf vs) v && @fitH ⟨fs, gs, rks⟩ {} h' post
              | none => false
            | none => false
  | .bad, _ => true
  | .node q a b, fs => match treeK P gs rks kx lns n f args t a ((q, true) :: fs) with
    | true => treeK P gs rks kx lns n f args t b ((q, false) :: fs)
    | false => false
end
end Go.Proofs.Ytmfemophafncnaa.Ex

/-
  The runner: values and memory over names, against the model's. No condition.
-/
namespace Go.Proofs.Ytmfemophafncnaa.Ex
open Go

abbrev Ren := Nat → Option (Nat × Nat)

/-- a place that is served -/
def Ps.fit : Ps → Prop
  | .x => False
  | .h => True
  | .o p => p.fit
  | .i p => p.fit
theorem toPs_inj : ∀ (d k j : Nat), toPs d k = toPs d j → (toPs d k).fit → k = j
  | 0, _, _, _, h => by simp [toPs, Ps.fit] at h
  | d + 1, k, j, he, hf => by
    unfold toPs at he hf
    have hb : ∀ a b : Nat, Nat.beq a b = decide (a = b) := fun a b => by
      cases h : Nat.beq a b with
      | true => have := Nat.eq_of_beq_eq_true h; subst this; simp
      | false => have := Nat.ne_of_beq_eq_false h; simp [this]
    simp only [hb] at he hf
    by_cases hk : k = 0
    · subst hk
      by_cases hj : j = 0
      · exact hj.symm
      · simp [hj] at he
        split at he <;> cases he
    · by_cases hj : j = 0
      · subst hj
        simp [hk] at he
        split at he <;> cases he
      · simp only [hk, hj, decide_false] at he hf
        have e1 : ∀ n : Nat, Nat.mod n 2 = n % 2 := fun _ => rfl
        have e2 : ∀ n : Nat, Nat.div n 2 = n / 2 := fun _ => rfl
        have e3 : ∀ n m : Nat, Nat.sub n m = n - m := fun _ _ => rfl
        simp only [e1, e2, e3] at he hf
        by_cases h1 : k % 2 = 1 <;> by_cases h2 : j % 2 = 1 <;> simp only [h1, h2, decide_true, decide_false] at he hf
        · have := toPs_inj d _ _ (by injection he) hf
          omega
        · cases he
        · cases he
        · have := toPs_inj d _ _ (by injection he) hf
          omega
theorem T.getP_e {α : Type} : ∀ p : Ps, T.getP p (.e : T α) = none
  | .x => rfl
  | .h => rfl
  | .o _ => rfl
  | .i _ => rfl
theorem T.get_setP {α : Type} {x : Option α} : ∀ (p q : Ps) (t : T α) (v : α), T.getP q (T.setP x p t) = some v → (q = p ∧ p.fit ∧ x = some v) ∨ (q ≠ p ∧ T.getP q t = some v)
  | .x, q, t, v, h => by
    have h : T.getP q t = some v := h
    refine .inr ⟨fun he => ?_, h⟩
    subst he
    cases h
  | .h, q, t, v, h => by
    cases t <;> cases q <;> simp [T.getP, T.setP] at h ⊢ <;> first | exact ⟨trivial, h⟩ | exact h | exact absurd h (by rw [← T.getP, T.getP_e]; simp)
  | .o p, q, t, v, h => by
    cases t with
    | e => cases q with
      | x => cases h
      | h => cases h
      | o q =>
        have h : T.getP q (T.setP x p .e) = some v := h
        rcases T.get_setP p q .e v h with ⟨rfl, h2, h3⟩ | ⟨h1, h2⟩
        · exact .inl ⟨rfl, h2, h3⟩
        · rw [T.getP_e] at h2; cases h2
      | i q =>
        have h : T.getP q (.e : T α) = some v := h
        rw [T.getP_e] at h; cases h
    | n l u r => cases q with
      | x => cases h
      | h => exact .inr ⟨(by intro he; cases he), h⟩
      | o q =>
        have h : T.getP q (T.setP x p r) = some v := h
        rcases T.get_setP p q r v h with ⟨rfl, h2, h3⟩ | ⟨h1, h2⟩
        · exact .inl ⟨rfl, h2, h3⟩
        · exact .inr ⟨(by intro he; injection he with he; exact h1 he), h2⟩
      | i q => exact .inr ⟨(by intro he; cases he), h⟩
  | .i p, q, t, v, h => by
    cases t with
    | e => cases q with
      | x => cases h
      | h => cases h
      | i q =>
        have h : T.getP q (T.setP x p .e) = some v := h
        rcases T.get_setP p q .e v h with ⟨rfl, h2, h3⟩ | ⟨h1, h2⟩
        · exact .inl ⟨rfl, h2, h3⟩
        · rw [T.getP_e] at h2; cases h2
      | o q =>
        have h : T.getP q (.e : T α) = some v := h
        rw [T.getP_e] at h; cases h
    | n l u r => cases q with
      | x => cases h
      | h => exact .inr ⟨(by intro he; cases he), h⟩
      | i q =>
        have h : T.getP q (T.setP x p l) = some v := h
        rcases T.get_setP p q l v h with ⟨rfl, h2, h3⟩ | ⟨h1, h2⟩
        · exact .inl ⟨rfl, h2, h3⟩
        · exact .inr ⟨(by intro he; injection he with he; exact h1 he), h2⟩
      | o q => exact .inr ⟨(by intro he; cases he), h⟩
theorem T.get_put {α : Type} {t : T α} {k : Nat} {x : Option α} {j : Nat} {v : α} (h : (t.put k x).get j = some v) : (j = k ∧ x = some v) ∨ (j ≠ k ∧ t.get j = some v) := by
  rcases T.get_setP _ _ t v h with ⟨h1, h2, h3⟩ | ⟨h1, h2⟩
  · exact .inl ⟨(toPs_inj 20 k j h1.symm h2).symm, h3⟩
  · exact .inr ⟨fun he => h1 (by rw [he]), h2⟩

/-- which number is the j-th field of the e-th record of the i-th list; its length -/
def lc (i e j : Nat) : Nat := 4096 + ((e * 64 + j) * 64 + i)
def ln (i : Nat) : Nat := 2048 + i
mutual
def SE.ev (σ : Nat → Int) : SE → Int
  | .var i => σ i
  | .lit n => n
  | .bin .add a b => IntKind.i64.wrap (a.ev σ + b.ev σ)
  | .bin .sub a b => IntKind.i64.wrap (a.ev σ - b.ev σ)
  | .bin .mul a b => IntKind.i64.wrap (a.ev σ * b.ev σ)
  | .bin .quo a b => IntKind.i64.wrap ((a.ev σ).tdiv (b.ev σ))
  | .bin .rem a b => (a.ev σ).tmod (b.ev σ)
  | .ubin .add a b => IntKind.u64.wrap (a.ev σ + b.ev σ)
  | .ubin .sub a b => IntKind.u64.wrap (a.ev σ - b.ev σ)
  | .ubin .mul a b => IntKind.u64.wrap (a.ev σ * b.ev σ)
  | .ubin .quo a b => IntKind.u64.wrap ((a.ev σ).tdiv (b.ev σ))
  | .ubin .rem a b => (a.ev σ).tmod (b.ev σ)
  | .cv k a => k.wrap (a.ev σ)
  | .at l e j => l.evA σ (e.ev σ).toNat j
  | .len l => (l.evN σ : Int)
  | .lvar _ => 0
  | .lset _ _ _ _ => 0
  | .lsnoc _ _ => 0
  | .rnil => 0
  | .rep _ => 0
  | .rcons _ _ => 0
/-- a list's records -/
def SE.evA (σ : Nat → Int) : SE → Nat → Nat → Int
  | .lvar i => fun e j => σ (lc i e j)
  | .lset l x k v => fun e j => if e = (x.ev σ).toNat ∧ j = k then v.ev σ else l.evA σ e j
  | .lsnoc l r => fun e j => if e = l.evN σ then r.evA σ 0 j else l.evA σ e j
  | .rcons v r => fun _ j => match j with
    | 0 => v.ev σ
    | j + 1 => r.evA σ 0 j
  | .rnil => fun _ _ => 0
  | .rep _ => fun _ _ => 0
  | .at _ _ _ => fun _ _ => 0
  | .len _ => fun _ _ => 0
  | .var _ => fun _ _ => 0
  | .lit _ => fun _ _ => 0
  | .bin _ _ _ => fun _ _ => 0
  | .ubin _ _ _ => fun _ _ => 0
  | .cv _ _ => fun _ _ => 0
/-- .. how many -/
def SE.evN (σ : Nat → Int) : SE → Nat
  | .lvar i => (σ (ln i)).toNat
  | .lset l _ _ _ => l.evN σ
  | .lsnoc l _ => l.evN σ + 1
  | .rcons _ _ => 0
  | .rnil => 0
  | .rep n => (n.ev σ).toNat
  | .at _ _ _ => 0
  | .len _ => 0
  | .var _ => 0
  | .lit _ => 0
  | .bin _ _ _ => 0
  | .ubin _ _ _ => 0
  | .cv _ _ => 0
end
def CK.val : CK → Int → Value
  | .int k, n => .int k n
  | .bool, n => .bool (!(n == 0))
theorem lenE_ev (σ : Nat → Int) : ∀ l : SE, (lenE l).ev σ = (l.evN σ : Int)
  | .lset l _ _ _ => by
    have := lenE_ev σ l
    simp only [lenE, SE.evN]
    exact this
  | .lvar _ | .lsnoc _ _ | .rcons _ _ | .rnil | .rep _ | .at _ _ _ | .len _ | .var _ | .lit _ | .bin _ _ _ | .ubin _ _ _ | .cv _ _ => by simp only [lenE, SE.ev]
def Cnd.ev (σ : Nat → Int) : Cnd → Bool
  | .lt a b => decide (a.ev σ < b.ev σ)
  | .eq a b => a.ev σ == b.ev σ
/-- what the numbers are -/
class Nums extends Fc where
  σ : Nat → Int
  /-- blocks of which nothing else is known -/
  ω : Nat → Nat → Nat → Obj := fun _ _ _ => .map #[] 0
  /-- .., what they may be -/
  Ω : Nat → Nat → Nat → Obj → Prop := fun _ _ _ _ => True
  /-- slices of numbers that nobody changes: where, how many, how many more -/
  ro : Nat → Option (Option Addr × Nat × Nat) := fun _ => none
  ok : ∀ f ∈ facts, f.1.ev σ = f.2
def RoomR (off c sz s : Nat) : Room → Prop
  | .whole => off = 0 ∧ c * sz = s
  | .any => True
  | .ex c0 => c = c0
section
variable [Nums]
mutual
def VR (ρ : Ren) : AV → Value → Prop
  | .bool b, v => v = .bool b
  | .int k n, v => v = .int k n
  | .sym k e, v => v = .int k (e.ev Nums.σ)
  | .bsym c p, v => v = .bool (c.ev Nums.σ == p)
  | .eptr n e s j, v => ∃ b z, ρ n = some (b, z) ∧ v = .pointer (some ⟨b, (e.ev Nums.σ).toNat * s + j, none⟩)
  | .dsl n e s, v => ∃ b z len c : Nat, ρ n = some (b, z) ∧ v = .slice (some ⟨b, 0, none⟩) len c ∧ len ≤ c ∧ c ≤ maxLen ∧ c * s = z ∧ e.ev Nums.σ = len
  | .ssl n e len s, v => ∃ b z c, ρ n = some (b, z) ∧ v = .slice (some ⟨b, (e.ev Nums.σ).toNat * s, none⟩) len c ∧ len ≤ c ∧ c ≤ maxLen ∧ 0 ≤ e.ev Nums.σ ∧ e.ev Nums.σ + len ≤ 4000000000
  | .rsl i, v => ∃ A len c, Nums.ro i = some (A, len, c) ∧ v = .slice A len c ∧ len ≤ c ∧ c ≤ maxLen ∧ (Nums.σ (ln i)).toNat = len ∧ (A = none → len = 0)
  | .rptr i e, v => ∃ A len c, Nums.ro i = some (some A, len, c) ∧ v = .pointer (some (A.add (e.ev Nums.σ).toNat)) ∧ (e.ev Nums.σ).toNat < len
  | .str s, v => v = .string s
  | .nilp, v => v = .pointer none
  | .ptr n off, v => ∃ b s, ρ n = some (b, s) ∧ v = .pointer (some ⟨b, off, none⟩)
  | .gptr g off, v => v = .pointer (some ⟨g, off, none⟩)
  | .nilsl, v => v = .slice none 0 0
  | .sl n off len sz r, v => ∃ b s c, ρ n = some (b, s) ∧ v = .slice (some ⟨b, off, none⟩) len c ∧ len ≤ c ∧ c ≤ maxLen ∧ RoomR off c sz s r
  | .esl n, v => ∃ a c, v = .slice (some a) 0 c
  | .zsl, v => ∃ A c, v = .slice A 0 c ∧ c ≤ maxLen
  | .osl e, v => ∃ A len c, v = .slice A len c ∧ len ≤ c ∧ c ≤ maxLen ∧ e.ev Nums.σ = len
  | .nilmap, v => v = .map none
  | .map n, v => ∃ b s, ρ n = some (b, s) ∧ v = .map (some b)
  | .fn f x y, v => ∃ a c : Array Value, v = .func f a c ∧ VRs ρ x a.toList ∧ VRs ρ y c.toList
  | .nilfn, v => v = .nilFunc
  | .nilif, v => v = .nilIface
  | .ifc t x, v => ∃ y, v = .iface t y ∧ VR ρ x y
  | .agg l, v => ∃ a : Array Value, v = .agg a ∧ VRs ρ l a.toList
  | .tup l, v => ∃ a : Array Value, v = .tuple a ∧ VRs ρ l a.toList
def VRs (ρ : Ren) : List AV → List Value → Prop
  | [], l => l = []
  | x :: xs, l => ∃ y ys, l = y :: ys ∧ VR ρ x y ∧ VRs ρ xs ys
end
variable {ρ ρ' : Ren}
theorem VRs.nil : VRs ρ [] [] := by simp [VRs]
theorem VRs.cons {x : AV} {y : Value} {xs : List AV} {ys : List Value} (h : VR ρ x y) (t : VRs ρ xs ys) : VRs ρ (x :: xs) (y :: ys) := by
  unfold VRs; exact ⟨y, ys, rfl, h, t⟩
theorem VRs.uncons {x : AV} {xs : List AV} {l : List Value} (h : VRs ρ (x :: xs) l) : ∃ y ys, l = y :: ys ∧ VR ρ x y ∧ VRs ρ xs ys := by
  unfold VRs at h; exact h
theorem VRs.one {x : AV} {l : List Value} (h : VRs ρ [x] l) : ∃ y, l = [y] ∧ VR ρ x y := by
  obtain ⟨y, ys, rfl, h1, h2⟩ := h.uncons
  unfold VRs at h2; subst h2; exact ⟨y, rfl, h1⟩
theorem VRs.two {x x' : AV} {l : List Value} (h : VRs ρ [x, x'] l) : ∃ y y', l = [y, y'] ∧ VR ρ x y ∧ VR ρ x' y' := by
  obtain ⟨y, ys, rfl, h1, h2⟩ := h.uncons
  obtain ⟨y', rfl, h3⟩ := h2.one; exact ⟨y, y', rfl, h1, h3⟩
theorem VRs.three {x x' x'' : AV} {l : List Value} (h : VRs ρ [x, x', x''] l) : ∃ y y' y'', l = [y, y', y''] ∧ VR ρ x y ∧ VR ρ x' y' ∧ VR ρ x'' y'' := by
  obtain ⟨y, ys, rfl, h1, h2⟩ := h.uncons
  obtain ⟨y', y'', rfl, h3, h4⟩ := h2.two; exact ⟨y, y', y'', rfl, h1, h3, h4⟩
theorem VRs.four {x x' x'' x3 : AV} {l : List Value} (h : VRs ρ [x, x', x'', x3] l) : ∃ y y' y'' y3, l = [y, y', y'', y3] ∧ VR ρ x y ∧ VR ρ x' y' ∧ VR ρ x'' y'' ∧ VR ρ x3 y3 := by
  obtain ⟨y, ys, rfl, h1, h2⟩ := h.uncons
  obtain ⟨y', y'', y3, rfl, h3, h4⟩ := h2.three; exact ⟨y, y', y'', y3, rfl, h1, h3, h4⟩
theorem VRs.len : ∀ {l : List AV} {m : List Value}, VRs ρ l m → l.length = m.length
  | [], m, h => by unfold VRs at h; subst h; rfl
  | x :: xs, m, h => by
    obtain ⟨y, ys, rfl, _, h2⟩ := h.uncons
    simp [VRs.len h2]
theorem VRs.get : ∀ {l : List AV} {m : List Value} {i : Nat} {v : AV}, VRs ρ l m → l[i]? = some v → ∃ x, m[i]? = some x ∧ VR ρ v x
  | [], m, i, v, _, h => by simp at h
  | x :: xs, m, i, v, h, hi => by
    obtain ⟨y, ys, rfl, h1, h2⟩ := h.uncons
    cases i with
    | zero => simp at hi; subst hi; exact ⟨y, rfl, h1⟩
    | succ i => exact VRs.get (i := i) h2 (by simpa using hi)
theorem VRs.append : ∀ {l l' : List AV} {m m' : List Value}, VRs ρ l m → VRs ρ l' m' → VRs ρ (l ++ l') (m ++ m')
  | [], _, m, _, h, h' => by unfold VRs at h; subst h; exact h'
  | x :: xs, _, m, _, h, h' => by
    obtain ⟨y, ys, rfl, h1, h2⟩ := h.uncons
    exact VRs.cons h1 (VRs.append h2 h')
theorem VRs.take : ∀ {l : List AV} {m : List Value} (n : Nat), VRs ρ l m → VRs ρ (l.take n) (m.take n)
  | _, _, 0, _ => by simp [VRs]
  | [], m, n + 1, h => by unfold VRs at h; subst h; simp [VRs]
  | x :: xs, m, n + 1, h => by
    obtain ⟨y, ys, rfl, h1, h2⟩ := h.uncons
    exact VRs.cons h1 (VRs.take n h2)
theorem VRs.drop : ∀ {l : List AV} {m : List Value} (n : Nat), VRs ρ l m → VRs ρ (l.drop n) (m.drop n)
  | _, _, 0, h => by simpa using h
  | [], m, n + 1, h => by unfold VRs at h; subst h; simp [VRs]
  | x :: xs, m, n + 1, h => by
    obtain ⟨y, ys, rfl, h1, h2⟩ := h.uncons
    simpa using VRs.drop n h2
theorem VRs.rep {z : List AV} {y : List Value} (h : VRs ρ z y) : ∀ n, VRs ρ (Ex.rep n z) (List.replicate n y).flatten
  | 0 => by simp [Ex.rep, VRs]
  | n + 1 => by
    rw [List.replicate_succ, List.flatten_cons]
    exact VRs.append h (VRs.rep h n)
mutual
theorem VR.mono (hρ : ∀ n p, ρ n = some p → ρ' n = some p) : ∀ {v : AV} {x : Value}, VR ρ v x → VR ρ' v x
  | .bool _, _, h => by unfold VR at h ⊢; exact h
  | .int _ _, _, h => by unfold VR at h ⊢; exact h
  | .sym _ _, _, h => by unfold VR at h ⊢; exact h
  | .bsym _ _, _, h => by unfold VR at h ⊢; exact h
  | .eptr .., _, h => by
    unfold VR at h ⊢
    obtain ⟨b, s, h1, h2⟩ := h
    exact ⟨b, s, hρ _ _ h1, h2⟩
  | .dsl .., _, h => by
    unfold VR at h ⊢
    obtain ⟨b, s, l, c, h1, h2⟩ := h
    exact ⟨b, s, l, c, hρ _ _ h1, h2⟩
  | .ssl .., _, h => by
    unfold VR at h ⊢
    obtain ⟨b, s, c, h1, h2⟩ := h
    exact ⟨b, s, c, hρ _ _ h1, h2⟩
  | .rsl _, _, h => by unfold VR at h ⊢; exact h
  | .rptr _ _, _, h => by unfold VR at h ⊢; exact h
  | .str _, _, h => by unfold VR at h ⊢; exact h
  | .nilp, _, h => by unfold VR at h ⊢; exact h
  | .ptr _ _, _, h => by
    unfold VR at h ⊢
    obtain ⟨b, s, h1, h2⟩ := h
    exact ⟨b, s, hρ _ _ h1, h2⟩
  | .gptr _ _, _, h => by unfold VR at h ⊢; exact h
  | .nilsl, _, h => by unfold VR at h ⊢; exact h
  | .sl .., _, h => by
    unfold VR at h ⊢
    obtain ⟨b, s, c, h1, h2⟩ := h
    exact ⟨b, s, c, hρ _ _ h1, h2⟩
  | .esl _, _, h => by unfold VR at h ⊢; exact h
  | .zsl, _, h => by unfold VR at h ⊢; exact h
  | .osl _, _, h => by unfold VR at h ⊢; exact h
  | .nilmap, _, h => by unfold VR at h ⊢; exact h
  | .map _, _, h => by
    unfold VR at h ⊢
    obtain ⟨b, s, h1, h2⟩ := h
    exact ⟨b, s, hρ _ _ h1, h2⟩
  | .fn _ _ _, _, h => by
    unfold VR at h ⊢
    obtain ⟨a, c, h1, h2, h3⟩ := h
    exact ⟨a, c, h1, VRs.mono hρ h2, VRs.mono hρ h3⟩
  | .nilfn, _, h => by unfold VR at h ⊢; exact h
  | .nilif, _, h => by unfold VR at h ⊢; exact h
  | .ifc _ _, _, h => by
    unfold VR at h ⊢
    obtain ⟨y, h1, h2⟩ := h
    exact ⟨y, h1, VR.mono hρ h2⟩
  | .agg _, _, h => by
    unfold VR at h ⊢
    obtain ⟨a, h1, h2⟩ := h
    exact ⟨a, h1, VRs.mono hρ h2⟩
  | .tup _, _, h => by
    unfold VR at h ⊢
    obtain ⟨a, h1, h2⟩ := h
    exact ⟨a, h1, VRs.mono hρ h2⟩
theorem VRs.mono (hρ : ∀ n p, ρ n = some p → ρ' n = some p) : ∀ {l : List AV} {m : List Value}, VRs ρ l m → VRs ρ' l m
  | [], _, h => by unfold VRs at h ⊢; exact h
  | x :: xs, _, h => by
    unfold VRs at h ⊢
    obtain ⟨y, ys, h1, h2, h3⟩ := h
    exact ⟨y, ys, h1, VR.mono hρ h2, VRs.mono hρ h3⟩
end
mutual
theorem ofV_sound (ρ : Ren) : ∀ {v : Value} {x : AV}, ofV v = some x → VR ρ x v
  | .bool _, _, h => by simp [ofV] at h; subst h; simp [VR]
  | .int _ _, _, h => by simp [ofV] at h; subst h; simp [VR]
  | .string _, _, h => by simp [ofV] at h; subst h; simp [VR]
  | .pointer none, _, h => by simp [ofV] at h; subst h; simp [VR]
  | .pointer (some _), _, h => by simp [ofV] at h
  | .slice none 0 0, _, h => by simp [ofV] at h; subst h; simp [VR]
  | .slice none 0 (_ + 1), _, h => by simp [ofV] at h
  | .slice none (_ + 1) _, _, h => by simp [ofV] at h
  | .slice (some _) _ _, _, h => by simp [ofV] at h
  | .map none, _, h => by simp [ofV] at h; subst h; simp [VR]
  | .map (some _), _, h => by simp [ofV] at h
  | .nilFunc, _, h => by simp [ofV] at h; subst h; simp [VR]
  | .nilIface, _, h => by simp [ofV] at h; subst h; simp [VR]
  | .agg cs, _, h => by
    simp only [ofV, Option.map_eq_some_iff] at h
    obtain ⟨l, h1, rfl⟩ := h
    unfold VR
    exact ⟨cs, rfl, ofA_sound ρ h1⟩
  | .tuple cs, _, h => by
    simp only [ofV, Option.map_eq_some_iff] at h
    obtain ⟨l, h1, rfl⟩ := h
    unfold VR
    exact ⟨cs, rfl, ofA_sound ρ h1⟩
  | .float _ _, _, h => by simp [ofV] at h
  | .complex _ _ _, _, h => by simp [ofV] at h
  | .chan _, _, h => by simp [ofV] at h
  | .func _ _ _, _, h => by simp [ofV] at h
  | .iface _ _, _, h => by simp [ofV] at h
theorem ofA_sound (ρ : Ren) : ∀ {a : Array Value} {l : List AV}, ofA a = some l → VRs ρ l a.toList
  | ⟨m⟩, _, h => ofL_sound ρ (by simpa [ofA] using h)
theorem ofL_sound (ρ : Ren) : ∀ {m : List Value} {l : List AV}, ofL m = some l → VRs ρ l m
  | [], _, h => by simp [ofL] at h; subst h; simp [VRs]
  | v :: m, _, h => by
    unfold ofL at h
    split at h
    · rename_i x hx
      split at h
      · rename_i xs hxs
        simp at h
        subst h
        exact VRs.cons (ofV_sound ρ hx) (ofL_sound ρ hxs)
      · cases h
    · cases h
end
theorem VR.oneCell {v : AV} {x : Value} (h : VR ρ v x) (h1 : v.one = true) : x.oneCell' = true := by
  cases v <;> simp only [VR] at h <;> first
    | (cases h1; done)
    | (subst h; rfl)
    | (obtain ⟨_, _, _, rfl⟩ := h; rfl)
    | (obtain ⟨_, _, _, _, rfl, _⟩ := h; rfl)
    | (obtain ⟨_, _, _, _, _, rfl, _⟩ := h; rfl)
    | (obtain ⟨_, _, _, rfl, _⟩ := h; rfl)
    | (obtain ⟨_, _, rfl⟩ := h; rfl)
    | (obtain ⟨_, _, rfl, _⟩ := h; rfl)
    | (obtain ⟨_, rfl, _⟩ := h; rfl)
theorem VR.cells {v : AV} {x : Value} (h : VR ρ v x) : VRs ρ v.cells x.cells.toList := by
  have key : ∀ (u : AV) (y : Value), VR ρ u y → u.cells = [u] → y.cells = #[y] → VRs ρ u.cells y.cells.toList := by
    intro u y hu h1 h2
    rw [h1, h2]
    exact VRs.cons hu VRs.nil
  cases v with
  | agg l =>
    unfold VR at h
    obtain ⟨a, rfl, h⟩ := h
    exact h
  | _ =>
    refine key _ _ h rfl ?_
    simp only [VR] at h
    first
    | (subst h; rfl)
    | (obtain ⟨_, _, _, rfl⟩ := h; rfl)
    | (obtain ⟨_, _, _, _, rfl, _⟩ := h; rfl)
    | (obtain ⟨_, _, _, _, _, rfl, _⟩ := h; rfl)
    | (obtain ⟨_, _, _, rfl, _⟩ := h; rfl)
    | (obtain ⟨_, _, rfl⟩ := h; rfl)
    | (obtain ⟨_, _, rfl, _⟩ := h; rfl)
    | (obtain ⟨_, rfl, _⟩ := h; rfl)
omit [Nums] in
theorem allOne_mem : ∀ {l : List AV}, allOne l = true → ∀ v ∈ l, v.one = true
  | [], _, _, h => by cases h
  | v :: l, h, u, hu => by
    unfold allOne at h
    split at h
    · rename_i h1
      rcases List.mem_cons.1 hu with rfl | hu
      · exact h1
      · exact allOne_mem h u hu
    · cases h
theorem VRs.ones {l : List AV} {m : List Value} (h : VRs ρ l m) (h1 : allOne l = true) : ∀ x ∈ m, x.oneCell' = true := by
  intro x hx
  obtain ⟨i, hi, rfl⟩ := List.getElem_of_mem hx
  have hl : i < l.length := by rw [h.len]; exact hi
  obtain ⟨y, hy, hv⟩ := h.get (List.getElem?_eq_getElem hl)
  rw [List.getElem?_eq_getElem hi] at hy
  cases hy
  exact hv.oneCell (allOne_mem h1 _ (List.getElem_mem hl))
end
end Go.Proofs.Ytmfemophafncnaa.Ex
