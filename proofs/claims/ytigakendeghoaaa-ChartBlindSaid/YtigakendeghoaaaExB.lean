/-
  A runner of calls without inputs: regions, code, calls. What it computes. No condition.
-/
import Derived.Test.YtigakendeghoaaaExA
namespace Go.Proofs.Ytigakendeghoaaa.Ex
open Go
noncomputable section

mutual
/-- a value without memory -/
def AV.shut : AV → Bool
  | .bool _ | .int _ _ | .sym _ _ | .str _ | .nilp | .nilsl | .nilmap | .nilfn | .nilif => true
  | .agg l => AV.shuts l
  | .tup l => AV.shuts l
  | _ => false
def AV.shuts : List AV → Bool
  | [] => true
  | v :: l => match v.shut with
    | true => AV.shuts l
    | false => false
end
inductive AX where
  | normal
  | exit (id : Nat)
  | ret

mutual
def AV.beq : AV → AV → Bool
  | .bool a, .bool b => a == b
  | .int k a, .int k' b => decide (k = k') && a == b
  | .sym k e, .sym k' e' => decide (k = k') && SE.beq e e'
  | .nilp, .nilp => true
  | .ptr n o, .ptr n' o' => Nat.beq n n' && Nat.beq o o'
  | .gptr n o, .gptr n' o' => Nat.beq n n' && Nat.beq o o'
  | .nilsl, .nilsl => true
  | .sl n o l s r, .sl n' o' l' s' r' => Nat.beq n n' && (Nat.beq o o' && (Nat.beq l l' && (Nat.beq s s' && (match r, r' with
    | .whole, .whole => true
    | .any, .any => true
    | .ex c, .ex c' => Nat.beq c c'
    | _, _ => false))))
  | .esl n, .esl n' => Nat.beq n n'
  | .nilmap, .nilmap => true
  | .map n, .map n' => Nat.beq n n'
  | .fn (.func f) a b, .fn (.func f') a' b' => Nat.beq f f' && (AV.beqs a a' && AV.beqs b b')
  | .nilfn, .nilfn => true
  | .nilif, .nilif => true
  | .agg a, .agg b => AV.beqs a b
  | .tup a, .tup b => AV.beqs a b
  | _, _ => false
def AV.beqs : List AV → List AV → Bool
  | [], [] => true
  | a :: l, b :: m => AV.beq a b && AV.beqs l m
  | _, _ => false
end

def guardA (ops : Array Oper) (o : Oper) (env : T AV) : Option Bool := match o.guard with
  | none => some true
  | some (j, want) => match ops[j]? with
    | none => some false
    | some g => match g.dst with
      | none => some false
      | some d => match env.get d with
        | none => none
        | some (.bool b) => some (b == want)
        | some _ => some false
def putA (nt : Nat) (env : T AV) (dst : Option Tmp) (v : AV) : Option (T AV) := match dst with
  | none => some env
  | some d => match Nat.blt d nt with
    | true => some (env.put d (some v))
    | false => none

section
variable [Fc] (P : Program) (call : FuncId → List AV → AH → Option (AV × AH)) (nt : Nat)

def opA (op : Op) (vs : List AV) (h : AH) : Option (AV × AH) := match kd op with
  | .pure => match apure P op vs with
    | some v => some (v, h)
    | none => none
  | .read => match aread P op vs h with
    | some v => some (v, h)
    | none => none
  | .alloc => match aalloc P op vs with
    | some (o, k) => match fresh h o with
      | some h' => some (k.at h.next, h')
      | none => none
    | none => none
  | .loud => match aloud P op vs h with
    | some (.val v h') => some (v, h')
    | some (.call f args) => call f args h
    | none => none

/-- a region in the order of the text -/
def regL (ops : Array Oper) : List Oper → T AV → AH → Option (T AV × AH)
  | [], env, h => some (env, h)
  | o :: rest, env, h => match guardA ops o env with
    | none => none
    | some false => match putA nt env o.dst und with
      | some env' => regL ops rest env' h
      | none => none
    | some true => match evs env o.op.operands.toList with
      | none => none
      | some vs => match opA P call o.op vs h with
        | none => none
        | some (v, h') => match putA nt env o.dst v with
          | some env' => regL ops rest env' h'
          | none => none

/-- what stands ahead of each operation: a number's bits -/
def bfOf (t : T Nat) : List Edge → Nat
  | [] => 0
  | e :: l => match Region.binds .any e with
    | true => (2 ^ e.on ||| (match t.get e.on with | some b => b | none => 0)) ||| bfOf t l
    | false => bfOf t l
def bfs : Nat → List Oper → T Nat → T Nat
  | _, [], t => t
  | i, o :: l, t => bfs (i + 1) l (t.put i (some (bfOf t o.after.toList)))
def bf (ops : Array Oper) : T Nat := bfs 0 ops.toList .e
def bitsAt (b : T Nat) (i : Nat) : Nat := match b.get i with
  | some x => x
  | none => 0
def ahead (b : T Nat) (i j : Nat) : Bool := (bitsAt b j).testBit i

inductive Rk where
  | skip
  | val (v : AV)
  | alloc (o : AO) (v : AV)
  | loud (v : AV) (h : AH)
def Rk.res : Rk → AV
  | .skip => und
  | .val v => v
  | .alloc _ v => v
  | .loud v _ => v
/-- blocks of this region, laid over what memory there is -/
def overlay (base : Nat) (see : Nat → Bool) : List (Nat × AO) → AH → AH
  | [], h => h
  | (i, o) :: l, h => match see i with
    | true => (overlay base see l h).put (Nat.add base i) (some o)
    | false => overlay base see l h
/-- the operations, one by one: what each gives -/
def regD (ops : Array Oper) (b : T Nat) (base : Nat) : Nat → List Oper → T AV → AH → Nat → List (Nat × AO) → List Rk → Option (List Rk × T AV × AH × Nat × List (Nat × AO))
  | _, [], env, h, cons, al, rs => some (rs.reverse, env, h, cons, al)
  | i, o :: rest, env, h, cons, al, rs => match guardA ops o env with
    | none => none
    | some false => match putA nt env o.dst und with
      | some env' => regD ops b base (Nat.add i 1) rest env' h cons al (.skip :: rs)
      | none => none
    | some true => match evs env o.op.operands.toList with
      | none => none
      | some vs => match (match kd o.op with
          | .pure => match apure P o.op vs with
            | some v => some (Rk.val v, h, cons, al)
            | none => none
          | .read => match aread P o.op vs (overlay base (fun a => ahead b a i && !(cons.testBit a)) al h) with
            | some v => some (Rk.val v, h, cons, al)
            | none => none
          | .alloc => match aalloc P o.op vs with
            | some (ao, k) => some (Rk.alloc ao (k.at (Nat.add base i)), h, cons, (i, ao) :: al)
            | none => none
          | .loud => match opA P call o.op vs (overlay base (fun a => ahead b a i && !(cons.testBit a)) al h) with
            | some (v, h') => some (Rk.loud v h', h', cons ||| bitsAt b i, al)
            | none => none) with
        | none => none
        | some (r, h', cons', al') => match putA nt env o.dst r.res with
          | some env' => regD ops b base (Nat.add i 1) rest env' h' cons' al' (r :: rs)
          | none => none

def isLoud (o : Oper) : Bool := match kd o.op with
  | .loud => true
  | _ => false
def looks (ops : Array Oper) (o : Oper) : List Tmp := o.dst.toList ++ o.looksAt ops
def memB (t : Nat) : List Nat → Bool
  | [] => false
  | x :: l => match Nat.beq x t with
    | true => true
    | false => memB t l
def touch (ops : Array Oper) (o q : Oper) : Bool := (match q.dst with
  | some d => memB d (looks ops o)
  | none => false) || (isLoud o && isLoud q)
/-- every two operations that touch one slot, or are both loud, are ordered -/
def chk2 (ops : Array Oper) (b : T Nat) (o : Oper) (i : Nat) : Nat → List Oper → Bool
  | _, [] => true
  | j, q :: l => match Nat.beq i j with
    | true => chk2 ops b o i (Nat.add j 1) l
    | false => match touch ops o q with
      | false => chk2 ops b o i (Nat.add j 1) l
      | true => match (match Nat.blt j i with
          | true => ahead b j i
          | false => ahead b i j) with
        | true => chk2 ops b o i (Nat.add j 1) l
        | false => false
def chk1 (ops : Array Oper) (b : T Nat) : Nat → List Oper → Bool
  | _, [] => true
  | i, o :: l => match chk2 ops b o i 0 ops.toList with
    | true => chk1 ops b (Nat.add i 1) l
    | false => false
def edgesLt : Nat → List Oper → Bool
  | _, [] => true
  | i, o :: l => match o.after.toList.all (fun e => !(Region.binds .any e) || Nat.blt e.on i) with
    | true => edgesLt (Nat.add i 1) l
    | false => false
def chk (ops : Array Oper) : Bool := chk1 ops (bf ops) 0 ops.toList && edgesLt 0 ops.toList

/-- may operation i come when the loud ones below j are done, and no others? -/
def mayAt (b : T Nat) (i j : Nat) : Nat → List Rk → Bool
  | _, [] => true
  | l, .loud _ _ :: rs => match Nat.blt l j with
    | true => match ahead b i l with
      | true => false
      | false => mayAt b i j (Nat.add l 1) rs
    | false => match ahead b l i with
      | true => false
      | false => mayAt b i j (Nat.add l 1) rs
  | l, _ :: rs => mayAt b i j (Nat.add l 1) rs
/-- a read gives the same at a state between loud operations, if it may come there -/
def okAt (b : T Nat) (base : Nat) (all : List Rk) (al : List (Nat × AO)) (op : Op) (vs : List AV) (v : AV) (i j : Nat) (h : AH) (cons : Nat) : Bool := match mayAt b i j 0 all with
  | false => true
  | true => match aread P op vs (overlay base (fun a => ahead b a i && !(cons.testBit a)) al h) with
    | some u => AV.beq v u
    | none => false
def sameNext (b : T Nat) (base : Nat) (all : List Rk) (al : List (Nat × AO)) (op : Op) (vs : List AV) (v : AV) (i : Nat) : Nat → AH → Nat → List Rk → Bool
  | _, _, _, [] => true
  | j, h, cons, r :: rs => match r with
    | .loud _ h' => match okAt P b base all al op vs v i (Nat.add j 1) h' (cons ||| bitsAt b j) with
      | false => false
      | true => sameNext b base all al op vs v i (Nat.add j 1) h' (cons ||| bitsAt b j) rs
    | _ => sameNext b base all al op vs v i (Nat.add j 1) h cons rs
/-- .. over all states between loud operations -/
def sameAll (b : T Nat) (base : Nat) (all : List Rk) (al : List (Nat × AO)) (op : Op) (vs : List AV) (v : AV) (i : Nat) (h : AH) : Bool := match okAt P b base all al op vs v i 0 h 0 with
  | false => false
  | true => sameNext P b base all al op vs v i 0 h 0 all
/-- all reads -/
def reads (ops : Array Oper) (b : T Nat) (base : Nat) (h0 : AH) (all : List Rk) (al : List (Nat × AO)) : Nat → List Oper → List Rk → T AV → Bool
  | i, o :: l, r :: rs, env => match (match r, kd o.op with
      | .val v, .read => match evs env o.op.operands.toList with
        | some vs => sameAll P b base all al o.op vs v i h0
        | none => false
      | _, _ => true) with
    | false => false
    | true => match putA nt env o.dst r.res with
      | some env' => reads ops b base h0 all al (Nat.add i 1) l rs env'
      | none => false
  | _, [], [], _ => true
  | _, _, _, _ => false
/-- a region that draws its order -/
def regDr (ops : Array Oper) (env : T AV) (h : AH) : Option (T AV × AH) := match chk ops with
  | false => none
  | true => match Nat.blt (Nat.add h.next ops.size) 1000000 with
    | false => none
    | true => match regD P call nt ops (bf ops) h.next 0 ops.toList env (h.skip ops.size) 0 [] [] with
      | none => none
      | some (rs, env', h', cons, al) => match reads P nt ops (bf ops) h.next (h.skip ops.size) rs al 0 ops.toList rs env with
        | false => none
        | true => some (env', overlay h.next (fun a => !(cons.testBit a)) al h')

def iter (body : T AV → AH → Option (AX × T AV × AH)) : Nat → T AV → AH → Option (AX × T AV × AH)
  | 0, _, _ => none
  | n + 1, env, h => match body env h with
    | some (.normal, env', h') => iter body n env' h'
    | r => r
def exec : Code → T AV → AH → Option (AX × T AV × AH)
  | .skip, env, h => some (.normal, env, h)
  | .label _, env, h => some (.normal, env, h)
  | .region _ ops false, env, h => match regL P call nt ops ops.toList env h with
    | some (env', h') => some (.normal, env', h')
    | none => none
  | .region _ ops true, env, h => match regDr P call nt ops env h with
    | some (env', h') => some (.normal, env', h')
    | none => none
  | .seq x y, env, h => match exec x env h with
    | some (.normal, env', h') => exec y env' h'
    | r => r
  | .cond c x y, env, h => match ev env c with
    | some (.bool true) => exec x env h
    | some (.bool false) => exec y env h
    | _ => none
  | .block id c, env, h => match exec c env h with
    | some (.exit j, env', h') => match Nat.beq j id with
      | true => some (.normal, env', h')
      | false => some (.exit j, env', h')
    | r => r
  | .loop c, env, h => iter (exec c) 100000 env h
  | .scope c, env, h => exec c env h
  | .exit id, env, h => some (.exit id, env, h)
  | .ret, env, h => some (.ret, env, h)
  | _, _, _ => none
end

def envOf : Nat → List AV → T AV → T AV
  | _, [], t => t
  | i, v :: l, t => envOf (Nat.add i 1) l (t.put i (some v))
def ress [Fc] (P : Program) (h : AH) (env : T AV) : List ResultVar → Option (List AV)
  | [] => some []
  | .tmp t :: l => match env.get t with
    | none => none
    | some v => match ress P h env l with
      | some vs => some (v :: vs)
      | none => none
  | .cell a t :: l => match env.get a with
    | none => none
    | some p => match aread P (.load t (.tmp a)) [p] h with
      | none => none
      | some v => match ress P h env l with
        | some vs => some (v :: vs)
        | none => none
def resOf : List AV → AV
  | [v] => v
  | vs => .tup vs
/-- calls that are known: function, arguments, result -/
abbrev Ov := List (Nat × List AV × AV)
def ovAt (f : FuncId) (args : List AV) : Ov → Option AV
  | [] => none
  | (g, xs, v) :: l => match Nat.beq g f with
    | true => match AV.beqs args xs with
      | true => some v
      | false => ovAt f args l
    | false => ovAt f args l
def callN [Fc] (P : Program) (ov : Ov) : Nat → FuncId → List AV → AH → Option (AV × AH)
  | 0, _, _, _ => none
  | n + 1, f, args, h => match ovAt f args ov with
    | some v => some (v, h)
    | none => match P.funcs[f]? with
    | none => none
    | some fn => match fn.name == "runtime.NumGoroutine" with
      | true => none
      | false => match fn.body with
        | none => none
        | some c => match Nat.ble args.length fn.ntmps && Nat.ble fn.ntmps 1000000 with
          | false => none
          | true => match exec P (callN P ov n) fn.ntmps c (envOf 0 args .e) h with
            | some (.exit _, _, _) => none
            | some (_, env', h') => match ress P h' env' fn.results.toList with
              | some vs => some (resOf vs, h')
              | none => none
            | none => none
/-- the call gives a value -/
def runs [Fc] (P : Program) (ov : Ov) (n : Nat) (f : FuncId) (args : List AV) (v : AV) : Bool := match callN P ov n f args (.mk .e 0) with
  | some (u, _) => AV.beq u v
  | none => false
def yes (P : Program) (n : Nat) (f : FuncId) : Bool := @runs ⟨[], []⟩ P [] n f [] (.bool true)
/-- a tree of questions on numbers that are not known -/
inductive DT where
  | leaf
  | is (v : AV)
  | bad
  | node (c : Cnd) (t e : DT)
def tree (P : Program) (gs : List (Nat × List Int)) (ov : Ov) (n : Nat) (f : FuncId) (args : List AV) : DT → List (Cnd × Bool) → Bool
  | .leaf, fs => @runs ⟨fs, gs⟩ P ov n f args (.bool true)
  | .is v, fs => match AV.shut v with
    | true => @runs ⟨fs, gs⟩ P ov n f args v
    | false => false
  | .bad, _ => true
  | .node c t e, fs => match tree P gs ov n f args t ((c, true) :: fs) with
    | true => tree P gs ov n f args e ((c, false) :: fs)
    | false => false
end
end Go.Proofs.Ytigakendeghoaaa.Ex
