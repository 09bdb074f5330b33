/-
  Texts of this claim, joined. No condition.
-/
import Derived.Test.YtfgomgodfcdijaaGreatDoorKn1
import Derived.Maps.AppendAt
import Derived.Laws.CopyRow
import Derived.Deep.MidRow
import Derived.Laws.StructEq
import Derived.Laws.Tables
import Derived.Scope
import Derived.LoopN
/-
  A runner of calls without inputs: regions, code, calls. What it computes. No condition.
-/
namespace Go.Proofs.YtfgomgodfcdijaaGreatDoor.Ex
open Go
noncomputable section

mutual
/-- a value without memory -/
def AV.shut : AV → Bool
  | .bool _ | .int _ _ | .sym _ _ | .bsym _ _ | .str _ | .nilp | .nilsl | .nilmap | .nilfn | .nilif => true
  | .agg l => AV.shuts l
  | .tup l => AV.shuts l
  | _ => false
def AV.shuts : List AV → Bool
  | [] => true
  | v :: l => match v.shut with
    | true => AV.shuts l
    | false => false
end
inductive AX where
  | normal
  | exit (id : Nat)
  | ret

def Cnd.beq : Cnd → Cnd → Bool
  | .lt a b, .lt c d => SE.beq a c && SE.beq b d
  | .eq a b, .eq c d => SE.beq a c && SE.beq b d
  | _, _ => false
mutual
def AV.beq : AV → AV → Bool
  | .bool a, .bool b => a == b
  | .int k a, .int k' b => decide (k = k') && a == b
  | .sym k e, .sym k' e' => decide (k = k') && SE.beq e e'
  | .bsym c p, .bsym c' p' => Cnd.beq c c' && p == p'
  | .eptr n e s j, .eptr n' e' s' j' => (Nat.beq n n' && SE.beq e e') && (Nat.beq s s' && Nat.beq j j')
  | .dsl n e s, .dsl n' e' s' => Nat.beq n n' && (SE.beq e e' && Nat.beq s s')
  | .ssl n e l s, .ssl n' e' l' s' => (Nat.beq n n' && SE.beq e e') && (Nat.beq l l' && Nat.beq s s')
  | .rsl i, .rsl j => Nat.beq i j
  | .rptr i e, .rptr j e' => Nat.beq i j && SE.beq e e'
  | .nilp, .nilp => true
  | .ptr n o, .ptr n' o' => Nat.beq n n' && Nat.beq o o'
  | .gptr n o, .gptr n' o' => Nat.beq n n' && Nat.beq o o'
  | .nilsl, .nilsl => true
  | .sl n o l s r, .sl n' o' l' s' r' => Nat.beq n n' && (Nat.beq o o' && (Nat.beq l l' && (Nat.beq s s' && (match r, r' with
    | .whole, .whole => true
    | .any, .any => true
    | .ex c, .ex c' => Nat.beq c c'
    | _, _ => false))))
  | .esl n, .esl n' => Nat.beq n n'
  | .zsl, .zsl => true
  | .osl e, .osl e' => SE.beq e e'
  | .nilmap, .nilmap => true
  | .map n, .map n' => Nat.beq n n'
  | .fn (.func f) a b, .fn (.func f') a' b' => Nat.beq f f' && (AV.beqs a a' && AV.beqs b b')
  | .nilfn, .nilfn => true
  | .nilif, .nilif => true
  | .ifc t v, .ifc t' v' => Nat.beq t t' && AV.beq v v'
  | .agg a, .agg b => AV.beqs a b
  | .tup a, .tup b => AV.beqs a b
  | _, _ => false
def AV.beqs : List AV → List AV → Bool
  | [], [] => true
  | a :: l, b :: m => AV.beq a b && AV.beqs l m
  | _, _ => false
end

def guardA [Fc] (ops : Array Oper) (o : Oper) (env : T AV) : Option Bool := match o.guard with
  | none => some true
  | some (j, want) => match ops[j]? with
    | none => some false
    | some g => match g.dst with
      | none => some false
      | some d => match env.get d with
        | none => none
        | some (.bool b) => some (b == want)
        | some (.bsym c p) => match askC c with
          | some q => some ((q == p) == want)
          | none => none
        | some _ => some false
def putA (nt : Nat) (env : T AV) (dst : Option Tmp) (v : AV) : Option (T AV) := match dst with
  | none => some env
  | some d => match Nat.blt d nt with
    | true => some (env.put d (some v))
    | false => none

section
variable [Fc] (P : Program) (call : FuncId → List AV → AH → Option (AV × AH)) (nt : Nat)

def opA (op : Op) (vs : List AV) (h : AH) : Option (AV × AH) := match kd op with
  | .pure => match apure P op vs with
    | some v => some (v, h)
    | none => none
  | .read => match aread P op vs h with
    | some v => some (v, h)
    | none => none
  | .alloc => match aalloc P op vs with
    | some (o, k) => match fresh h o with
      | some h' => some (k.at h.next, h')
      | none => none
    | none => none
  | .loud => match aloud P op vs h with
    | some (.val v h') => some (v, h')
    | some (.call f args) => call f args h
    | none => none

/-- a region in the order of the text -/
def regL (ops : Array Oper) : List Oper → T AV → AH → Option (T AV × AH)
  | [], env, h => some (env, h)
  | o :: rest, env, h => match guardA ops o env with
    | none => none
    | some false => match putA nt env o.dst und with
      | some env' => regL ops rest env' h
      | none => none
    | some true => match evs env o.op.operands.toList with
      | none => none
      | some vs => match opA P call o.op vs h with
        | none => none
        | some (v, h') => match putA nt env o.dst v with
          | some env' => regL ops rest env' h'
          | none => none

/-- what stands ahead of each operation: a number's bits -/
def bfOf (t : T Nat) : List Edge → Nat
  | [] => 0
  | e :: l => match Region.binds .any e with
    | true => (2 ^ e.on ||| (match t.get e.on with | some b => b | none => 0)) ||| bfOf t l
    | false => bfOf t l
def bfs : Nat → List Oper → T Nat → T Nat
  | _, [], t => t
  | i, o :: l, t => bfs (i + 1) l (t.put i (some (bfOf t o.after.toList)))
def bf (ops : Array Oper) : T Nat := bfs 0 ops.toList .e
def bitsAt (b : T Nat) (i : Nat) : Nat := match b.get i with
  | some x => x
  | none => 0
def ahead (b : T Nat) (i j : Nat) : Bool := (bitsAt b j).testBit i

inductive Rk where
  | skip
  | val (v : AV)
  | alloc (o : AO) (v : AV)
  | loud (v : AV) (h : AH)
def Rk.res : Rk → AV
  | .skip => und
  | .val v => v
  | .alloc _ v => v
  | .loud v _ => v
/-- blocks of this region, laid over what memory there is -/
def overlay (base : Nat) (see : Nat → Bool) : List (Nat × AO) → AH → AH
  | [], h => h
  | (i, o) :: l, h => match see i with
    | true => (overlay base see l h).put (Nat.add base i) (some o)
    | false => overlay base see l h
/-- the operations, one by one: what each gives -/
def regD (ops : Array Oper) (b : T Nat) (base : Nat) : Nat → List Oper → T AV → AH → Nat → List (Nat × AO) → List Rk → Option (List Rk × T AV × AH × Nat × List (Nat × AO))
  | _, [], env, h, cons, al, rs => some (rs.reverse, env, h, cons, al)
  | i, o :: rest, env, h, cons, al, rs => match guardA ops o env with
    | none => none
    | some false => match putA nt env o.dst und with
      | some env' => regD ops b base (Nat.add i 1) rest env' h cons al (.skip :: rs)
      | none => none
    | some true => match evs env o.op.operands.toList with
      | none => none
      | some vs => match (match kd o.op with
          | .pure => match apure P o.op vs with
            | some v => some (Rk.val v, h, cons, al)
            | none => none
          | .read => match aread P o.op vs (overlay base (fun a => ahead b a i && !(cons.testBit a)) al h) with
            | some v => some (Rk.val v, h, cons, al)
            | none => none
          | .alloc => match aalloc P o.op vs with
            | some (ao, k) => some (Rk.alloc ao (k.at (Nat.add base i)), h, cons, (i, ao) :: al)
            | none => none
          | .loud => match opA P call o.op vs (overlay base (fun a => ahead b a i && !(cons.testBit a)) al h) with
            | some (v, h') => some (Rk.loud v h', h', cons ||| bitsAt b i, al)
            | none => none) with
        | none => none
        | some (r, h', cons', al') => match putA nt env o.dst r.res with
          | some env' => regD ops b base (Nat.add i 1) rest env' h' cons' al' (r :: rs)
          | none => none

def isLoud (o : Oper) : Bool := match kd o.op with
  | .loud => true
  | _ => false
def looks (ops : Array Oper) (o : Oper) : List Tmp := o.dst.toList ++ o.looksAt ops
def memB (t : Nat) : List Nat → Bool
  | [] => false
  | x :: l => match Nat.beq x t with
    | true => true
    | false => memB t l
def touch (ops : Array Oper) (o q : Oper) : Bool := (match q.dst with
  | some d => memB d (looks ops o)
  | none => false) || (isLoud o && isLoud q)
/-- every two operations that touch one slot, or are both loud, are ordered -/
def chk2 (ops : Array Oper) (b : T Nat) (o : Oper) (i : Nat) : Nat → List Oper → Bool
  | _, [] => true
  | j, q :: l => match Nat.beq i j with
    | true => chk2 ops b o i (Nat.add j 1) l
    | false => match touch ops o q with
      | false => chk2 ops b o i (Nat.add j 1) l
      | true => match (match Nat.blt j i with
          | true => ahead b j i
          | false => ahead b i j) with
        | true => chk2 ops b o i (Nat.add j 1) l
        | false => false
def chk1 (ops : Array Oper) (b : T Nat) : Nat → List Oper → Bool
  | _, [] => true
  | i, o :: l => match chk2 ops b o i 0 ops.toList with
    | true => chk1 ops b (Nat.add i 1) l
    | false => false
def edgesLt : Nat → List Oper → Bool
  | _, [] => true
  | i, o :: l => match o.after.toList.all (fun e => !(Region.binds .any e) || Nat.blt e.on i) with
    | true => edgesLt (Nat.add i 1) l
    | false => false
def chk (ops : Array Oper) : Bool := chk1 ops (bf ops) 0 ops.toList && edgesLt 0 ops.toList

/-- may operation i come when the loud ones below j are done, and no others? -/
def mayAt (b : T Nat) (i j : Nat) : Nat → List Rk → Bool
  | _, [] => true
  | l, .loud _ _ :: rs => match Nat.blt l j with
    | true => match ahead b i l with
      | true => false
      | false => mayAt b i j (Nat.add l 1) rs
    | false => match ahead b l i with
      | true => false
      | false => mayAt b i j (Nat.add l 1) rs
  | l, _ :: rs => mayAt b i j (Nat.add l 1) rs
/-- a read gives the same at a state between loud operations, if it may come there -/
def okAt (b : T Nat) (base : Nat) (all : List Rk) (al : List (Nat × AO)) (op : Op) (vs : List AV) (v : AV) (i j : Nat) (h : AH) (cons : Nat) : Bool := match mayAt b i j 0 all with
  | false => true
  | true => match aread P op vs (overlay base (fun a => ahead b a i && !(cons.testBit a)) al h) with
    | some u => AV.beq v u
    | none => false
def sameNext (b : T Nat) (base : Nat) (all : List Rk) (al : List (Nat × AO)) (op : Op) (vs : List AV) (v : AV) (i : Nat) : Nat → AH → Nat → List Rk → Bool
  | _, _, _, [] => true
  | j, h, cons, r :: rs => match r with
    | .loud _ h' => match okAt P b base all al op vs v i (Nat.add j 1) h' (cons ||| bitsAt b j) with
      | false => false
      | true => sameNext b base all al op vs v i (Nat.add j 1) h' (cons ||| bitsAt b j) rs
    | _ => sameNext b base all al op vs v i (Nat.add j 1) h cons rs
/-- .. over all states between loud operations -/
def sameAll (b : T Nat) (base : Nat) (all : List Rk) (al : List (Nat × AO)) (op : Op) (vs : List AV) (v : AV) (i : Nat) (h : AH) : Bool := match okAt P b base all al op vs v i 0 h 0 with
  | false => false
  | true => sameNext P b base all al op vs v i 0 h 0 all
/-- all reads -/
def reads (ops : Array Oper) (b : T Nat) (base : Nat) (h0 : AH) (all : List Rk) (al : List (Nat × AO)) : Nat → List Oper → List Rk → T AV → Bool
  | i, o :: l, r :: rs, env => match (match r, kd o.op with
      | .val v, .read => match evs env o.op.operands.toList with
        | some vs => sameAll P b base all al o.op vs v i h0
        | none => false
      | _, _ => true) with
    | false => false
    | true => match putA nt env o.dst r.res with
      | some env' => reads ops b base h0 all al (Nat.add i 1) l rs env'
      | none => false
  | _, [], [], _ => true
  | _, _, _, _ => false
/-- a region that draws its order -/
def regDr (ops : Array Oper) (env : T AV) (h : AH) : Option (T AV × AH) := match chk ops with
  | false => none
  | true => match Nat.blt (Nat.add h.next ops.size) 1000000 with
    | false => none
    | true => match regD P call nt ops (bf ops) h.next 0 ops.toList env (h.skip ops.size) 0 [] [] with
      | none => none
      | some (rs, env', h', cons, al) => match reads P nt ops (bf ops) h.next (h.skip ops.size) rs al 0 ops.toList rs env with
        | false => none
        | true => some (env', overlay h.next (fun a => !(cons.testBit a)) al h')

def iter (body : T AV → AH → Option (AX × T AV × AH)) : Nat → T AV → AH → Option (AX × T AV × AH)
  | 0, _, _ => none
  | n + 1, env, h => match body env h with
    | some (.normal, env', h') => iter body n env' h'
    | r => r
def exec : Code → T AV → AH → Option (AX × T AV × AH)
  | .skip, env, h => some (.normal, env, h)
  | .label _, env, h => some (.normal, env, h)
  | .region _ ops false, env, h => match regL P call nt ops ops.toList env h with
    | some (env', h') => some (.normal, env', h')
    | none => none
  | .region _ ops true, env, h => match regDr P call nt ops env h with
    | some (env', h') => some (.normal, env', h')
    | none => none
  | .seq x y, env, h => match exec x env h with
    | some (.normal, env', h') => exec y env' h'
    | r => r
  | .cond c x y, env, h => match ev env c with
    | some (.bool true) => exec x env h
    | some (.bool false) => exec y env h
    | some (.bsym q p) => match askC q with
      | some r => match r == p with
        | true => exec x env h
        | false => exec y env h
      | none => none
    | _ => none
  | .block id c, env, h => match exec c env h with
    | some (.exit j, env', h') => match Nat.beq j id with
      | true => some (.normal, env', h')
      | false => some (.exit j, env', h')
    | r => r
  | .loop c, env, h => iter (exec c) 100000 env h
  | .scope c, env, h => exec c env h
  | .exit id, env, h => some (.exit id, env, h)
  | .ret, env, h => some (.ret, env, h)
  | _, _, _ => none
end

def envOf : Nat → List AV → T AV → T AV
  | _, [], t => t
  | i, v :: l, t => envOf (Nat.add i 1) l (t.put i (some v))
def ress [Fc] (P : Program) (h : AH) (env : T AV) : List ResultVar → Option (List AV)
  | [] => some []
  | .tmp t :: l => match env.get t with
    | none => none
    | some v => match ress P h env l with
      | some vs => some (v :: vs)
      | none => none
  | .cell a t :: l => match env.get a with
    | none => none
    | some p => match aread P (.load t (.tmp a)) [p] h with
      | none => none
      | some v => match ress P h env l with
        | some vs => some (v :: vs)
        | none => none
def resOf : List AV → AV
  | [v] => v
  | vs => .tup vs
/-- a call that is known: function, arguments, what must be known of numbers, result, what becomes of blocks of which nothing is known (name, which one it is, which one it is then) -/
structure Kn where
  f : Nat
  args : List AV
  conds : List (Cnd × Bool) := []
  res : AV
  effs : List (Nat × Nat × Nat) := []
/-- calls that are known: function, arguments, result -/
abbrev Ov := List (Nat × List AV × AV)
def condsOk [Fc] : List (Cnd × Bool) → Bool
  | [] => true
  | (.lt a b, r) :: l => match askLt a b with
    | some q => match q == r with
      | true => condsOk l
      | false => false
    | none => false
  | (.eq a b, r) :: l => match askEq a b with
    | some q => match q == r with
      | true => condsOk l
      | false => false
    | none => false
def effDo (h : AH) : List (Nat × Nat × Nat) → Option AH
  | [] => some h
  | (n, i, j) :: l => match h.get n with
    | some (.opq q) => match Nat.beq q i with
      | true => effDo (h.put n (some (.opq j))) l
      | false => none
    | _ => none
def knAt [Fc] (f : FuncId) (args : List AV) (h : AH) : List Kn → Option (AV × AH)
  | [] => none
  | k :: l => match Nat.beq k.f f with
    | false => knAt f args h l
    | true => match AV.beqs args k.args with
      | false => knAt f args h l
      | true => match condsOk k.conds with
        | false => knAt f args h l
        | true => match effDo h k.effs with
          | some h' => some (k.res, h')
          | none => knAt f args h l
def ovAt (f : FuncId) (args : List AV) : Ov → Option AV
  | [] => none
  | (g, xs, v) :: l => match Nat.beq g f with
    | true => match AV.beqs args xs with
      | true => some v
      | false => ovAt f args l
    | false => ovAt f args l
def callN [Fc] (P : Program) (ov : Ov) (kn : List Kn) : Nat → FuncId → List AV → AH → Option (AV × AH)
  | 0, _, _, _ => none
  | n + 1, f, args, h => match ovAt f args ov with
    | some v => some (v, h)
    | none => match knAt f args h kn with
    | some r => some r
    | none => match P.funcs[f]? with
    | none => none
    | some fn => match fn.name == "runtime.NumGoroutine" with
      | true => none
      | false => match fn.body with
        | none => none
        | some c => match Nat.ble args.length fn.ntmps && Nat.ble fn.ntmps 1000000 with
          | false => none
          | true => match exec P (callN P ov kn n) fn.ntmps c (envOf 0 args .e) h with
            | some (.exit _, _, _) => none
            | some (_, env', h') => match ress P h' env' fn.results.toList with
              | some vs => some (resOf vs, h')
              | none => none
            | none => none
/-- the call gives a value -/
def runs [Fc] (P : Program) (ov : Ov) (n : Nat) (f : FuncId) (args : List AV) (v : AV) : Bool := match callN P ov [] n f args (.mk .e 0) with
  | some (u, _) => AV.beq u v
  | none => false
def yes (P : Program) (n : Nat) (f : FuncId) : Bool := @runs ⟨[], [], []⟩ P [] n f [] (.bool true)
/-- a tree of questions on numbers that are not known -/
inductive DT where
  | leaf
  | is (v : AV)
  | bad
  | node (c : Cnd) (t e : DT)
def tree (P : Program) (gs : List (Nat × List Int)) (ov : Ov) (n : Nat) (f : FuncId) (args : List AV) : DT → List (Cnd × Bool) → Bool
  | .leaf, fs => @runs ⟨fs, gs, []⟩ P ov n f args (.bool true)
  | .is v, fs => match AV.shut v with
    | true => @runs ⟨fs, gs, []⟩ P ov n f args v
    | false => false
  | .bad, _ => true
  | .node c t e, fs => match tree P gs ov n f args t ((c, true) :: fs) with
    | true => tree P gs ov n f args e ((c, false) :: fs)
    | false => false
/-! calls amid two blocks of which nothing is known: name 0 (the 2s-th), name 1 (the 2s+1-th) -/
def heap2 (s : Nat) : AH := .mk ((T.e.put 0 (some (.opq (Nat.mul 2 s)))).put 1 (some (.opq (Nat.add (Nat.mul 2 s) 1)))) 2
def isOpq (h : AH) (n i : Nat) : Bool := match h.get n with
  | some (.opq j) => Nat.beq j i
  | _ => false
def runs2 [Fc] (P : Program) (ov : Ov) (kn : List Kn) (n : Nat) (f : FuncId) (args : List AV) (s0 : Nat) (v : AV) (s : Nat) : Bool := match callN P ov kn n f args (heap2 s0) with
  | some (u, h) => AV.beq u v && (isOpq h 0 (Nat.mul 2 s) && isOpq h 1 (Nat.add (Nat.mul 2 s) 1))
  | none => false
/-- a tree of questions, whose ends tell the result and which one the blocks are then -/
inductive DM where
  | is (v : AV) (s : Nat)
  | bad
  | node (c : Cnd) (t e : DM)
def treeM (P : Program) (gs : List (Nat × List Int)) (ov : Ov) (kn : List Kn) (n : Nat) (f : FuncId) (args : List AV) (s0 : Nat) : DM → List (Cnd × Bool) → Bool
  | .is v s, fs => match AV.shut v with
    | true => @runs2 ⟨fs, gs, []⟩ P ov kn n f args s0 v s
    | false => false
  | .bad, _ => true
  | .node c t e, fs => match treeM P gs ov kn n f args s0 t ((c, true) :: fs) with
    | true => treeM P gs ov kn n f args s0 e ((c, false) :: fs)
    | false => false
end
end Go.Proofs.YtfgomgodfcdijaaGreatDoor.Ex

/-
  The runner: values and memory over names, against the model's. No condition.
-/
namespace Go.Proofs.YtfgomgodfcdijaaGreatDoor.Ex
open Go

abbrev Ren := Nat → Option (Nat × Nat)

/-- a place that is served -/
def Ps.fit : Ps → Prop
  | .x => False
  | .h => True
  | .o p => p.fit
  | .i p => p.fit
theorem toPs_inj : ∀ (d k j : Nat), toPs d k = toPs d j → (toPs d k).fit → k = j
  | 0, _, _, _, h => by simp [toPs, Ps.fit] at h
  | d + 1, k, j, he, hf => by
    unfold toPs at he hf
    have hb : ∀ a b : Nat, Nat.beq a b = decide (a = b) := fun a b => by
      cases h : Nat.beq a b with
      | true => have := Nat.eq_of_beq_eq_true h; subst this; simp
      | false => have := Nat.ne_of_beq_eq_false h; simp [this]
    simp only [hb] at he hf
    by_cases hk : k = 0
    · subst hk
      by_cases hj : j = 0
      · exact hj.symm
      · simp [hj] at he
        split at he <;> cases he
    · by_cases hj : j = 0
      · subst hj
        simp [hk] at he
        split at he <;> cases he
      · simp only [hk, hj, decide_false] at he hf
        have e1 : ∀ n : Nat, Nat.mod n 2 = n % 2 := fun _ => rfl
        have e2 : ∀ n : Nat, Nat.div n 2 = n / 2 := fun _ => rfl
        have e3 : ∀ n m : Nat, Nat.sub n m = n - m := fun _ _ => rfl
        simp only [e1, e2, e3] at he hf
        by_cases h1 : k % 2 = 1 <;> by_cases h2 : j % 2 = 1 <;> simp only [h1, h2, decide_true, decide_false] at he hf
        · have := toPs_inj d _ _ (by injection he) hf
          omega
        · cases he
        · cases he
        · have := toPs_inj d _ _ (by injection he) hf
          omega
theorem T.getP_e {α : Type} : ∀ p : Ps, T.getP p (.e : T α) = none
  | .x => rfl
  | .h => rfl
  | .o _ => rfl
  | .i _ => rfl
theorem T.get_setP {α : Type} {x : Option α} : ∀ (p q : Ps) (t : T α) (v : α), T.getP q (T.setP x p t) = some v → (q = p ∧ p.fit ∧ x = some v) ∨ (q ≠ p ∧ T.getP q t = some v)
  | .x, q, t, v, h => by
    have h : T.getP q t = some v := h
    refine .inr ⟨fun he => ?_, h⟩
    subst he
    cases h
  | .h, q, t, v, h => by
    cases t <;> cases q <;> simp [T.getP, T.setP] at h ⊢ <;> first | exact ⟨trivial, h⟩ | exact h | exact absurd h (by rw [← T.getP, T.getP_e]; simp)
  | .o p, q, t, v, h => by
    cases t with
    | e => cases q with
      | x => cases h
      | h => cases h
      | o q =>
        have h : T.getP q (T.setP x p .e) = some v := h
        rcases T.get_setP p q .e v h with ⟨rfl, h2, h3⟩ | ⟨h1, h2⟩
        · exact .inl ⟨rfl, h2, h3⟩
        · rw [T.getP_e] at h2; cases h2
      | i q =>
        have h : T.getP q (.e : T α) = some v := h
        rw [T.getP_e] at h; cases h
    | n l u r => cases q with
      | x => cases h
      | h => exact .inr ⟨(by intro he; cases he), h⟩
      | o q =>
        have h : T.getP q (T.setP x p r) = some v := h
        rcases T.get_setP p q r v h with ⟨rfl, h2, h3⟩ | ⟨h1, h2⟩
        · exact .inl ⟨rfl, h2, h3⟩
        · exact .inr ⟨(by intro he; injection he with he; exact h1 he), h2⟩
      | i q => exact .inr ⟨(by intro he; cases he), h⟩
  | .i p, q, t, v, h => by
    cases t with
    | e => cases q with
      | x => cases h
      | h => cases h
      | i q =>
        have h : T.getP q (T.setP x p .e) = some v := h
        rcases T.get_setP p q .e v h with ⟨rfl, h2, h3⟩ | ⟨h1, h2⟩
        · exact .inl ⟨rfl, h2, h3⟩
        · rw [T.getP_e] at h2; cases h2
      | o q =>
        have h : T.getP q (.e : T α) = some v := h
        rw [T.getP_e] at h; cases h
    | n l u r => cases q with
      | x => cases h
      | h => exact .inr ⟨(by intro he; cases he), h⟩
      | i q =>
        have h : T.getP q (T.setP x p l) = some v := h
        rcases T.get_setP p q l v h with ⟨rfl, h2, h3⟩ | ⟨h1, h2⟩
        · exact .inl ⟨rfl, h2, h3⟩
        · exact .inr ⟨(by intro he; injection he with he; exact h1 he), h2⟩
      | o q => exact .inr ⟨(by intro he; cases he), h⟩
theorem T.get_put {α : Type} {t : T α} {k : Nat} {x : Option α} {j : Nat} {v : α} (h : (t.put k x).get j = some v) : (j = k ∧ x = some v) ∨ (j ≠ k ∧ t.get j = some v) := by
  rcases T.get_setP _ _ t v h with ⟨h1, h2, h3⟩ | ⟨h1, h2⟩
  · exact .inl ⟨(toPs_inj 20 k j h1.symm h2).symm, h3⟩
  · exact .inr ⟨fun he => h1 (by rw [he]), h2⟩

/-- which number is the j-th field of the e-th record of the i-th list; its length -/
def lc (i e j : Nat) : Nat := 4096 + ((e * 64 + j) * 64 + i)
def ln (i : Nat) : Nat := 2048 + i
mutual
def SE.ev (σ : Nat → Int) : SE → Int
  | .var i => σ i
  | .lit n => n
  | .bin .add a b => IntKind.i64.wrap (a.ev σ + b.ev σ)
  | .bin .sub a b => IntKind.i64.wrap (a.ev σ - b.ev σ)
  | .bin .mul a b => IntKind.i64.wrap (a.ev σ * b.ev σ)
  | .bin .quo a b => IntKind.i64.wrap ((a.ev σ).tdiv (b.ev σ))
  | .bin .rem a b => (a.ev σ).tmod (b.ev σ)
  | .ubin .add a b => IntKind.u64.wrap (a.ev σ + b.ev σ)
  | .ubin .sub a b => IntKind.u64.wrap (a.ev σ - b.ev σ)
  | .ubin .mul a b => IntKind.u64.wrap (a.ev σ * b.ev σ)
  | .ubin .quo a b => IntKind.u64.wrap ((a.ev σ).tdiv (b.ev σ))
  | .ubin .rem a b => (a.ev σ).tmod (b.ev σ)
  | .cv k a => k.wrap (a.ev σ)
  | .at l e j => l.evA σ (e.ev σ).toNat j
  | .len l => (l.evN σ : Int)
  | .lvar _ => 0
  | .lset _ _ _ _ => 0
  | .lsnoc _ _ => 0
  | .rnil => 0
  | .rep _ => 0
  | .rcons _ _ => 0
/-- a list's records -/
def SE.evA (σ : Nat → Int) : SE → Nat → Nat → Int
  | .lvar i => fun e j => σ (lc i e j)
  | .lset l x k v => fun e j => if e = (x.ev σ).toNat ∧ j = k then v.ev σ else l.evA σ e j
  | .lsnoc l r => fun e j => if e = l.evN σ then r.evA σ 0 j else l.evA σ e j
  | .rcons v r => fun _ j => match j with
    | 0 => v.ev σ
    | j + 1 => r.evA σ 0 j
  | .rnil => fun _ _ => 0
  | .rep _ => fun _ _ => 0
  | .at _ _ _ => fun _ _ => 0
  | .len _ => fun _ _ => 0
  | .var _ => fun _ _ => 0
  | .lit _ => fun _ _ => 0
  | .bin _ _ _ => fun _ _ => 0
  | .ubin _ _ _ => fun _ _ => 0
  | .cv _ _ => fun _ _ => 0
/-- .. how many -/
def SE.evN (σ : Nat → Int) : SE → Nat
  | .lvar i => (σ (ln i)).toNat
  | .lset l _ _ _ => l.evN σ
  | .lsnoc l _ => l.evN σ + 1
  | .rcons _ _ => 0
  | .rnil => 0
  | .rep n => (n.ev σ).toNat
  | .at _ _ _ => 0
  | .len _ => 0
  | .var _ => 0
  | .lit _ => 0
  | .bin _ _ _ => 0
  | .ubin _ _ _ => 0
  | .cv _ _ => 0
end
def CK.val : CK → Int → Value
  | .int k, n => .int k n
  | .bool, n => .bool (!(n == 0))
theorem lenE_ev (σ : Nat → Int) : ∀ l : SE, (lenE l).ev σ = (l.evN σ : Int)
  | .lset l _ _ _ => by
    have := lenE_ev σ l
    simp only [lenE, SE.evN]
    exact this
  | .lvar _ | .lsnoc _ _ | .rcons _ _ | .rnil | .rep _ | .at _ _ _ | .len _ | .var _ | .lit _ | .bin _ _ _ | .ubin _ _ _ | .cv _ _ => by simp only [lenE, SE.ev]
def Cnd.ev (σ : Nat → Int) : Cnd → Bool
  | .lt a b => decide (a.ev σ < b.ev σ)
  | .eq a b => a.ev σ == b.ev σ
/-- what the numbers are -/
class Nums extends Fc where
  σ : Nat → Int
  /-- blocks of which nothing else is known -/
  ω : Nat → Nat → Nat → Obj := fun _ _ _ => .map #[] 0
  /-- .., what they may be -/
  Ω : Nat → Nat → Nat → Obj → Prop := fun _ _ _ _ => True
  /-- slices of numbers that nobody changes: where, how many, how many more -/
  ro : Nat → Option (Option Addr × Nat × Nat) := fun _ => none
  ok : ∀ f ∈ facts, f.1.ev σ = f.2
def RoomR (off c sz s : Nat) : Room → Prop
  | .whole => off = 0 ∧ c * sz = s
  | .any => True
  | .ex c0 => c = c0
section
variable [Nums]
mutual
def VR (ρ : Ren) : AV → Value → Prop
  | .bool b, v => v = .bool b
  | .int k n, v => v = .int k n
  | .sym k e, v => v = .int k (e.ev Nums.σ)
  | .bsym c p, v => v = .bool (c.ev Nums.σ == p)
  | .eptr n e s j, v => ∃ b z, ρ n = some (b, z) ∧ v = .pointer (some ⟨b, (e.ev Nums.σ).toNat * s + j, none⟩)
  | .dsl n e s, v => ∃ b z len c : Nat, ρ n = some (b, z) ∧ v = .slice (some ⟨b, 0, none⟩) len c ∧ len ≤ c ∧ c ≤ maxLen ∧ c * s = z ∧ e.ev Nums.σ = len
  | .ssl n e len s, v => ∃ b z c, ρ n = some (b, z) ∧ v = .slice (some ⟨b, (e.ev Nums.σ).toNat * s, none⟩) len c ∧ len ≤ c ∧ c ≤ maxLen ∧ 0 ≤ e.ev Nums.σ ∧ e.ev Nums.σ + len ≤ 4000000000
  | .rsl i, v => ∃ A len c, Nums.ro i = some (A, len, c) ∧ v = .slice A len c ∧ len ≤ c ∧ c ≤ maxLen ∧ (Nums.σ (ln i)).toNat = len ∧ (A = none → len = 0)
  | .rptr i e, v => ∃ A len c, Nums.ro i = some (some A, len, c) ∧ v = .pointer (some (A.add (e.ev Nums.σ).toNat)) ∧ (e.ev Nums.σ).toNat < len
  | .str s, v => v = .string s
  | .nilp, v => v = .pointer none
  | .ptr n off, v => ∃ b s, ρ n = some (b, s) ∧ v = .pointer (some ⟨b, off, none⟩)
  | .gptr g off, v => v = .pointer (some ⟨g, off, none⟩)
  | .nilsl, v => v = .slice none 0 0
  | .sl n off len sz r, v => ∃ b s c, ρ n = some (b, s) ∧ v = .slice (some ⟨b, off, none⟩) len c ∧ len ≤ c ∧ c ≤ maxLen ∧ RoomR off c sz s r
  | .esl _n, v => ∃ a c, v = .slice (some a) 0 c
  | .zsl, v => ∃ A c, v = .slice A 0 c ∧ c ≤ maxLen
  | .osl e, v => ∃ A len c, v = .slice A len c ∧ len ≤ c ∧ c ≤ maxLen ∧ e.ev Nums.σ = len
  | .nilmap, v => v = .map none
  | .map n, v => ∃ b s, ρ n = some (b, s) ∧ v = .map (some b)
  | .fn f x y, v => ∃ a c : Array Value, v = .func f a c ∧ VRs ρ x a.toList ∧ VRs ρ y c.toList
  | .nilfn, v => v = .nilFunc
  | .nilif, v => v = .nilIface
  | .ifc t x, v => ∃ y, v = .iface t y ∧ VR ρ x y
  | .agg l, v => ∃ a : Array Value, v = .agg a ∧ VRs ρ l a.toList
  | .tup l, v => ∃ a : Array Value, v = .tuple a ∧ VRs ρ l a.toList
def VRs (ρ : Ren) : List AV → List Value → Prop
  | [], l => l = []
  | x :: xs, l => ∃ y ys, l = y :: ys ∧ VR ρ x y ∧ VRs ρ xs ys
end
variable {ρ ρ' : Ren}
theorem VRs.nil : VRs ρ [] [] := by simp [VRs]
theorem VRs.cons {x : AV} {y : Value} {xs : List AV} {ys : List Value} (h : VR ρ x y) (t : VRs ρ xs ys) : VRs ρ (x :: xs) (y :: ys) := by
  unfold VRs; exact ⟨y, ys, rfl, h, t⟩
theorem VRs.uncons {x : AV} {xs : List AV} {l : List Value} (h : VRs ρ (x :: xs) l) : ∃ y ys, l = y :: ys ∧ VR ρ x y ∧ VRs ρ xs ys := by
  unfold VRs at h; exact h
theorem VRs.one {x : AV} {l : List Value} (h : VRs ρ [x] l) : ∃ y, l = [y] ∧ VR ρ x y := by
  obtain ⟨y, ys, rfl, h1, h2⟩ := h.uncons
  unfold VRs at h2; subst h2; exact ⟨y, rfl, h1⟩
theorem VRs.two {x x' : AV} {l : List Value} (h : VRs ρ [x, x'] l) : ∃ y y', l = [y, y'] ∧ VR ρ x y ∧ VR ρ x' y' := by
  obtain ⟨y, ys, rfl, h1, h2⟩ := h.uncons
  obtain ⟨y', rfl, h3⟩ := h2.one; exact ⟨y, y', rfl, h1, h3⟩
theorem VRs.three {x x' x'' : AV} {l : List Value} (h : VRs ρ [x, x', x''] l) : ∃ y y' y'', l = [y, y', y''] ∧ VR ρ x y ∧ VR ρ x' y' ∧ VR ρ x'' y'' := by
  obtain ⟨y, ys, rfl, h1, h2⟩ := h.uncons
  obtain ⟨y', y'', rfl, h3, h4⟩ := h2.two; exact ⟨y, y', y'', rfl, h1, h3, h4⟩
theorem VRs.four {x x' x'' x3 : AV} {l : List Value} (h : VRs ρ [x, x', x'', x3] l) : ∃ y y' y'' y3, l = [y, y', y'', y3] ∧ VR ρ x y ∧ VR ρ x' y' ∧ VR ρ x'' y'' ∧ VR ρ x3 y3 := by
  obtain ⟨y, ys, rfl, h1, h2⟩ := h.uncons
  obtain ⟨y', y'', y3, rfl, h3, h4⟩ := h2.three; exact ⟨y, y', y'', y3, rfl, h1, h3, h4⟩
theorem VRs.len : ∀ {l : List AV} {m : List Value}, VRs ρ l m → l.length = m.length
  | [], m, h => by unfold VRs at h; subst h; rfl
  | x :: xs, m, h => by
    obtain ⟨y, ys, rfl, _, h2⟩ := h.uncons
    simp [VRs.len h2]
theorem VRs.get : ∀ {l : List AV} {m : List Value} {i : Nat} {v : AV}, VRs ρ l m → l[i]? = some v → ∃ x, m[i]? = some x ∧ VR ρ v x
  | [], m, i, v, _, h => by simp at h
  | x :: xs, m, i, v, h, hi => by
    obtain ⟨y, ys, rfl, h1, h2⟩ := h.uncons
    cases i with
    | zero => simp at hi; subst hi; exact ⟨y, rfl, h1⟩
    | succ i => exact VRs.get (i := i) h2 (by simpa using hi)
theorem VRs.append : ∀ {l l' : List AV} {m m' : List Value}, VRs ρ l m → VRs ρ l' m' → VRs ρ (l ++ l') (m ++ m')
  | [], _, m, _, h, h' => by unfold VRs at h; subst h; exact h'
  | x :: xs, _, m, _, h, h' => by
    obtain ⟨y, ys, rfl, h1, h2⟩ := h.uncons
    exact VRs.cons h1 (VRs.append h2 h')
theorem VRs.take : ∀ {l : List AV} {m : List Value} (n : Nat), VRs ρ l m → VRs ρ (l.take n) (m.take n)
  | _, _, 0, _ => by simp [VRs]
  | [], m, n + 1, h => by unfold VRs at h; subst h; simp [VRs]
  | x :: xs, m, n + 1, h => by
    obtain ⟨y, ys, rfl, h1, h2⟩ := h.uncons
    exact VRs.cons h1 (VRs.take n h2)
theorem VRs.drop : ∀ {l : List AV} {m : List Value} (n : Nat), VRs ρ l m → VRs ρ (l.drop n) (m.drop n)
  | _, _, 0, h => by simpa using h
  | [], m, n + 1, h => by unfold VRs at h; subst h; simp [VRs]
  | x :: xs, m, n + 1, h => by
    obtain ⟨y, ys, rfl, h1, h2⟩ := h.uncons
    simpa using VRs.drop n h2
theorem VRs.rep {z : List AV} {y : List Value} (h : VRs ρ z y) : ∀ n, VRs ρ (Ex.rep n z) (List.replicate n y).flatten
  | 0 => by simp [Ex.rep, VRs]
  | n + 1 => by
    rw [List.replicate_succ, List.flatten_cons]
    exact VRs.append h (VRs.rep h n)
mutual
theorem VR.mono (hρ : ∀ n p, ρ n = some p → ρ' n = some p) : ∀ {v : AV} {x : Value}, VR ρ v x → VR ρ' v x
  | .bool _, _, h => by unfold VR at h ⊢; exact h
  | .int _ _, _, h => by unfold VR at h ⊢; exact h
  | .sym _ _, _, h => by unfold VR at h ⊢; exact h
  | .bsym _ _, _, h => by unfold VR at h ⊢; exact h
  | .eptr .., _, h => by
    unfold VR at h ⊢
    obtain ⟨b, s, h1, h2⟩ := h
    exact ⟨b, s, hρ _ _ h1, h2⟩
  | .dsl .., _, h => by
    unfold VR at h ⊢
    obtain ⟨b, s, l, c, h1, h2⟩ := h
    exact ⟨b, s, l, c, hρ _ _ h1, h2⟩
  | .ssl .., _, h => by
    unfold VR at h ⊢
    obtain ⟨b, s, c, h1, h2⟩ := h
    exact ⟨b, s, c, hρ _ _ h1, h2⟩
  | .rsl _, _, h => by unfold VR at h ⊢; exact h
  | .rptr _ _, _, h => by unfold VR at h ⊢; exact h
  | .str _, _, h => by unfold VR at h ⊢; exact h
  | .nilp, _, h => by unfold VR at h ⊢; exact h
  | .ptr _ _, _, h => by
    unfold VR at h ⊢
    obtain ⟨b, s, h1, h2⟩ := h
    exact ⟨b, s, hρ _ _ h1, h2⟩
  | .gptr _ _, _, h => by unfold VR at h ⊢; exact h
  | .nilsl, _, h => by unfold VR at h ⊢; exact h
  | .sl .., _, h => by
    unfold VR at h ⊢
    obtain ⟨b, s, c, h1, h2⟩ := h
    exact ⟨b, s, c, hρ _ _ h1, h2⟩
  | .esl _, _, h => by unfold VR at h ⊢; exact h
  | .zsl, _, h => by unfold VR at h ⊢; exact h
  | .osl _, _, h => by unfold VR at h ⊢; exact h
  | .nilmap, _, h => by unfold VR at h ⊢; exact h
  | .map _, _, h => by
    unfold VR at h ⊢
    obtain ⟨b, s, h1, h2⟩ := h
    exact ⟨b, s, hρ _ _ h1, h2⟩
  | .fn _ _ _, _, h => by
    unfold VR at h ⊢
    obtain ⟨a, c, h1, h2, h3⟩ := h
    exact ⟨a, c, h1, VRs.mono hρ h2, VRs.mono hρ h3⟩
  | .nilfn, _, h => by unfold VR at h ⊢; exact h
  | .nilif, _, h => by unfold VR at h ⊢; exact h
  | .ifc _ _, _, h => by
    unfold VR at h ⊢
    obtain ⟨y, h1, h2⟩ := h
    exact ⟨y, h1, VR.mono hρ h2⟩
  | .agg _, _, h => by
    unfold VR at h ⊢
    obtain ⟨a, h1, h2⟩ := h
    exact ⟨a, h1, VRs.mono hρ h2⟩
  | .tup _, _, h => by
    unfold VR at h ⊢
    obtain ⟨a, h1, h2⟩ := h
    exact ⟨a, h1, VRs.mono hρ h2⟩
theorem VRs.mono (hρ : ∀ n p, ρ n = some p → ρ' n = some p) : ∀ {l : List AV} {m : List Value}, VRs ρ l m → VRs ρ' l m
  | [], _, h => by unfold VRs at h ⊢; exact h
  | x :: xs, _, h => by
    unfold VRs at h ⊢
    obtain ⟨y, ys, h1, h2, h3⟩ := h
    exact ⟨y, ys, h1, VR.mono hρ h2, VRs.mono hρ h3⟩
end
mutual
theorem ofV_sound (ρ : Ren) : ∀ {v : Value} {x : AV}, ofV v = some x → VR ρ x v
  | .bool _, _, h => by simp [ofV] at h; subst h; simp [VR]
  | .int _ _, _, h => by simp [ofV] at h; subst h; simp [VR]
  | .string _, _, h => by simp [ofV] at h; subst h; simp [VR]
  | .pointer none, _, h => by simp [ofV] at h; subst h; simp [VR]
  | .pointer (some _), _, h => by simp [ofV] at h
  | .slice none 0 0, _, h => by simp [ofV] at h; subst h; simp [VR]
  | .slice none 0 (_ + 1), _, h => by simp [ofV] at h
  | .slice none (_ + 1) _, _, h => by simp [ofV] at h
  | .slice (some _) _ _, _, h => by simp [ofV] at h
  | .map none, _, h => by simp [ofV] at h; subst h; simp [VR]
  | .map (some _), _, h => by simp [ofV] at h
  | .nilFunc, _, h => by simp [ofV] at h; subst h; simp [VR]
  | .nilIface, _, h => by simp [ofV] at h; subst h; simp [VR]
  | .agg cs, _, h => by
    simp only [ofV, Option.map_eq_some_iff] at h
    obtain ⟨l, h1, rfl⟩ := h
    unfold VR
    exact ⟨cs, rfl, ofA_sound ρ h1⟩
  | .tuple cs, _, h => by
    simp only [ofV, Option.map_eq_some_iff] at h
    obtain ⟨l, h1, rfl⟩ := h
    unfold VR
    exact ⟨cs, rfl, ofA_sound ρ h1⟩
  | .float _ _, _, h => by simp [ofV] at h
  | .complex _ _ _, _, h => by simp [ofV] at h
  | .chan _, _, h => by simp [ofV] at h
  | .func _ _ _, _, h => by simp [ofV] at h
  | .iface _ _, _, h => by simp [ofV] at h
theorem ofA_sound (ρ : Ren) : ∀ {a : Array Value} {l : List AV}, ofA a = some l → VRs ρ l a.toList
  | ⟨m⟩, _, h => ofL_sound ρ (by simpa [ofA] using h)
theorem ofL_sound (ρ : Ren) : ∀ {m : List Value} {l : List AV}, ofL m = some l → VRs ρ l m
  | [], _, h => by simp [ofL] at h; subst h; simp [VRs]
  | v :: m, _, h => by
    unfold ofL at h
    split at h
    · rename_i x hx
      split at h
      · rename_i xs hxs
        simp at h
        subst h
        exact VRs.cons (ofV_sound ρ hx) (ofL_sound ρ hxs)
      · cases h
    · cases h
end
theorem VR.oneCell {v : AV} {x : Value} (h : VR ρ v x) (h1 : v.one = true) : x.oneCell' = true := by
  cases v <;> simp only [VR] at h <;> first
    | (cases h1; done)
    | (subst h; rfl)
    | (obtain ⟨_, _, _, rfl⟩ := h; rfl)
    | (obtain ⟨_, _, _, _, rfl, _⟩ := h; rfl)
    | (obtain ⟨_, _, _, _, _, rfl, _⟩ := h; rfl)
    | (obtain ⟨_, _, _, rfl, _⟩ := h; rfl)
    | (obtain ⟨_, _, rfl⟩ := h; rfl)
    | (obtain ⟨_, _, rfl, _⟩ := h; rfl)
    | (obtain ⟨_, rfl, _⟩ := h; rfl)
theorem VR.cells {v : AV} {x : Value} (h : VR ρ v x) : VRs ρ v.cells x.cells.toList := by
  have key : ∀ (u : AV) (y : Value), VR ρ u y → u.cells = [u] → y.cells = #[y] → VRs ρ u.cells y.cells.toList := by
    intro u y hu h1 h2
    rw [h1, h2]
    exact VRs.cons hu VRs.nil
  cases v with
  | agg l =>
    unfold VR at h
    obtain ⟨a, rfl, h⟩ := h
    exact h
  | _ =>
    refine key _ _ h rfl ?_
    simp only [VR] at h
    first
    | (subst h; rfl)
    | (obtain ⟨_, _, _, rfl⟩ := h; rfl)
    | (obtain ⟨_, _, _, _, rfl, _⟩ := h; rfl)
    | (obtain ⟨_, _, _, _, _, rfl, _⟩ := h; rfl)
    | (obtain ⟨_, _, _, rfl, _⟩ := h; rfl)
    | (obtain ⟨_, _, rfl⟩ := h; rfl)
    | (obtain ⟨_, _, rfl, _⟩ := h; rfl)
    | (obtain ⟨_, rfl, _⟩ := h; rfl)
omit [Nums] in
theorem allOne_mem : ∀ {l : List AV}, allOne l = true → ∀ v ∈ l, v.one = true
  | [], _, _, h => by cases h
  | v :: l, h, u, hu => by
    unfold allOne at h
    split at h
    · rename_i h1
      rcases List.mem_cons.1 hu with rfl | hu
      · exact h1
      · exact allOne_mem h u hu
    · cases h
theorem VRs.ones {l : List AV} {m : List Value} (h : VRs ρ l m) (h1 : allOne l = true) : ∀ x ∈ m, x.oneCell' = true := by
  intro x hx
  obtain ⟨i, hi, rfl⟩ := List.getElem_of_mem hx
  have hl : i < l.length := by rw [h.len]; exact hi
  obtain ⟨y, hy, hv⟩ := h.get (List.getElem?_eq_getElem hl)
  rw [List.getElem?_eq_getElem hi] at hy
  cases hy
  exact hv.oneCell (allOne_mem h1 _ (List.getElem_mem hl))
end
end Go.Proofs.YtfgomgodfcdijaaGreatDoor.Ex
