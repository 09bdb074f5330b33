/-
  Texts of this claim, joined. No condition.
-/
import Derived.Test.YthjjpmoifgcepaaGreatJh1
import Derived.Maps.AppendAt
import Derived.Laws.CopyRow
import Derived.Deep.MidRow
import Derived.Laws.StructEq
import Derived.Laws.Tables
import Derived.Scope
import Derived.LoopN
/-
  A runner of calls without inputs: regions, code, calls. What it computes. No condition.
-/
namespace Go.Proofs.YthjjpmoifgcepaaGreat.Ex
open Go
noncomputable section

mutual
/-- a value without memory -/
def AV.shut : AV → Bool
  | .bool _ | .int _ _ | .sym _ _ | .bsym _ _ | .str _ | .nilp | .nilsl | .nilmap | .nilfn | .nilif => true
  | .agg l => AV.shuts l
  | .tup l => AV.shuts l
  | _ => false
def AV.shuts : List AV → Bool
  | [] => true
  | v :: l => match v.shut with
    | true => AV.shuts l
    | false => false
end
inductive AX where
  | normal
  | exit (id : Nat)
  | ret

def Cnd.beq : Cnd → Cnd → Bool
  | .lt a b, .lt c d => SE.beq a c && SE.beq b d
  | .eq a b, .eq c d => SE.beq a c && SE.beq b d
  | _, _ => false
mutual
def AV.beq : AV → AV → Bool
  | .bool a, .bool b => a == b
  | .int k a, .int k' b => decide (k = k') && a == b
  | .sym k e, .sym k' e' => decide (k = k') && SE.beq e e'
  | .bsym c p, .bsym c' p' => Cnd.beq c c' && p == p'
  | .eptr n e s j, .eptr n' e' s' j' => (Nat.beq n n' && SE.beq e e') && (Nat.beq s s' && Nat.beq j j')
  | .dsl n e s, .dsl n' e' s' => Nat.beq n n' && (SE.beq e e' && Nat.beq s s')
  | .ssl n e l s, .ssl n' e' l' s' => (Nat.beq n n' && SE.beq e e') && (Nat.beq l l' && Nat.beq s s')
  | .rsl i, .rsl j => Nat.beq i j
  | .rptr i e, .rptr j e' => Nat.beq i j && SE.beq e e'
  | .nilp, .nilp => true
  | .ptr n o, .ptr n' o' => Nat.beq n n' && Nat.beq o o'
  | .gptr n o, .gptr n' o' => Nat.beq n n' && Nat.beq o o'
  | .nilsl, .nilsl => true
  | .sl n o l s r, .sl n' o' l' s' r' => Nat.beq n n' && (Nat.beq o o' && (Nat.beq l l' && (Nat.beq s s' && (match r, r' with
    | .whole, .whole => true
    | .any, .any => true
    | .ex c, .ex c' => Nat.beq c c'
    | _, _ => false))))
  | .esl n, .esl n' => Nat.beq n n'
  | .zsl, .zsl => true
  | .osl e, .osl e' => SE.beq e e'
  | .nilmap, .nilmap => true
  | .map n, .map n' => Nat.beq n n'
  | .fn (.func f) a b, .fn (.func f') a' b' => Nat.beq f f' && (AV.beqs a a' && AV.beqs b b')
  | .nilfn, .nilfn => true
  | .nilif, .nilif => true
  | .agg a, .agg b => AV.beqs a b
  | .tup a, .tup b => AV.beqs a b
  | _, _ => false
def AV.beqs : List AV → List AV → Bool
  | [], [] => true
  | a :: l, b :: m => AV.beq a b && AV.beqs l m
  | _, _ => false
end

def guardA [Fc] (ops : Array Oper) (o : Oper) (env : T AV) : Option Bool := match o.guard with
  | none => some true
  | some (j, want) => match ops[j]? with
    | none => some false
    | some g => match g.dst with
      | none => some false
      | some d => match env.get d with
        | none => none
        | some (.bool b) => some (b == want)
        | some (.bsym c p) => match askC c with
          | some q => some ((q == p) == want)
          | none => none
        | some _ => some false
def putA (nt : Nat) (env : T AV) (dst : Option Tmp) (v : AV) : Option (T AV) := match dst with
  | none => some env
  | some d => match Nat.blt d nt with
    | true => some (env.put d (some v))
    | false => none

section
variable [Fc] (P : Program) (call : FuncId → List AV → AH → Option (AV × AH)) (nt : Nat)

def opA (op : Op) (vs : List AV) (h : AH) : Option (AV × AH) := match kd op with
  | .pure => match apure P op vs with
    | some v => some (v, h)
    | none => none
  | .read => match aread P op vs h with
    | some v => some (v, h)
    | none => none
  | .alloc => match aalloc P op vs with
    | some (o, k) => match fresh h o with
      | some h' => some (k.at h.next, h')
      | none => none
    | none => none
  | .loud => match aloud P op vs h with
    | some (.val v h') => some (v, h')
    | some (.call f args) => call f args h
    | none => none

/-- a region in the order of the text -/
def regL (ops : Array Oper) : List Oper → T AV → AH → Option (T AV × AH)
  | [], env, h => some (env, h)
  | o :: rest, env, h => match guardA ops o env with
    | none => none
    | some false => match putA nt env o.dst und with
      | some env' => regL ops rest env' h
      | none => none
    | some true => match evs env o.op.operands.toList with
      | none => none
      | some vs => match opA P call o.op vs h with
        | none => none
        | some (v, h') => match putA nt env o.dst v with
          | some env' => regL ops rest env' h'
          | none => none

/-- what stands ahead of each operation: a number's bits -/
def bfOf (t : T Nat) : List Edge → Nat
  | [] => 0
  | e :: l => match Region.binds .any e with
    | true => (2 ^ e.on ||| (match t.get e.on with | some b => b | none => 0)) ||| bfOf t l
    | false => bfOf t l
def bfs : Nat → List Oper → T Nat → T Nat
  | _, [], t => t
  | i, o :: l, t => bfs (i + 1) l (t.put i (some (bfOf t o.after.toList)))
def bf (ops : Array Oper) : T Nat := bfs 0 ops.toList .e
def bitsAt (b : T Nat) (i : Nat) : Nat := match b.get i with
  | some x => x
  | none => 0
def ahead (b : T Nat) (i j : Nat) : Bool := (bitsAt b j).testBit i

inductive Rk where
  | skip
  | val (v : AV)
  | alloc (o : AO) (v : AV)
  | loud (v : AV) (h : AH)
def Rk.res : Rk → AV
  | .skip => und
  | .val v => v
  | .alloc _ v => v
  | .loud v _ => v
/-- blocks of this region, laid over what memory there is -/
def overlay (base : Nat) (see : Nat → Bool) : List (Nat × AO) → AH → AH
  | [], h => h
  | (i, o) :: l, h => match see i with
    | true => (overlay base see l h).put (Nat.add base i) (some o)
    | false => overlay base see l h
/-- the operations, one by one: what each gives -/
def regD (ops : Array Oper) (b : T Nat) (base : Nat) : Nat → List Oper → T AV → AH → Nat → List (Nat × AO) → List Rk → Option (List Rk × T AV × AH × Nat × List (Nat × AO))
  | _, [], env, h, cons, al, rs => some (rs.reverse, env, h, cons, al)
  | i, o :: rest, env, h, cons, al, rs => match guardA ops o env with
    | none => none
    | some false => match putA nt env o.dst und with
      | some env' => regD ops b base (Nat.add i 1) rest env' h cons al (.skip :: rs)
      | none => none
    | some true => match evs env o.op.operands.toList with
      | none => none
      | some vs => match (match kd o.op with
          | .pure => match apure P o.op vs with
            | some v => some (Rk.val v, h, cons, al)
            | none => none
          | .read => match aread P o.op vs (overlay base (fun a => ahead b a i && !(cons.testBit a)) al h) with
            | some v => some (Rk.val v, h, cons, al)
            | none => none
          | .alloc => match aalloc P o.op vs with
            | some (ao, k) => some (Rk.alloc ao (k.at (Nat.add base i)), h, cons, (i, ao) :: al)
            | none => none
          | .loud => match opA P call o.op vs (overlay base (fun a => ahead b a i && !(cons.testBit a)) al h) with
            | some (v, h') => some (Rk.loud v h', h', cons ||| bitsAt b i, al)
            | none => none) with
        | none => none
        | some (r, h', cons', al') => match putA nt env o.dst r.res with
          | some env' => regD ops b base (Nat.add i 1) rest env' h' cons' al' (r :: rs)
          | none => none

def isLoud (o : Oper) : Bool := match kd o.op with
  | .loud => true
  | _ => false
def looks (ops : Array Oper) (o : Oper) : List Tmp := o.dst.toList ++ o.looksAt ops
def memB (t : Nat) : List Nat → Bool
  | [] => false
  | x :: l => match Nat.beq x t with
    | true => true
    | false => memB t l
def touch (ops : Array Oper) (o q : Oper) : Bool := (match q.dst with
  | some d => memB d (looks ops o)
  | none => false) || (isLoud o && isLoud q)
/-- every two operations that touch one slot, or are both loud, are ordered -/
def chk2 (ops : Array Oper) (b : T Nat) (o : Oper) (i : Nat) : Nat → List Oper → Bool
  | _, [] => true
  | j, q :: l => match Nat.beq i j with
    | true => chk2 ops b o i (Nat.add j 1) l
    | false => match touch ops o q with
      | false => chk2 ops b o i (Nat.add j 1) l
      | true => match (match Nat.blt j i with
          | true => ahead b j i
          | false => ahead b i j) with
        | true => chk2 ops b o i (Nat.add j 1) l
        | false => false
def chk1 (ops : Array Oper) (b : T Nat) : Nat → List Oper → Bool
  | _, [] => true
  | i, o :: l => match chk2 ops b o i 0 ops.toList with
    | true => chk1 ops b (Nat.add i 1) l
    | false => false
def edgesLt : Nat → List Oper → Bool
  | _, [] => true
  | i, o :: l => match o.after.toList.all (fun e => !(Region.binds .any e) || Nat.blt e.on i) with
    | true => edgesLt (Nat.add i 1) l
    | false => false
def chk (ops : Array Oper) : Bool := chk1 ops (bf ops) 0 ops.toList && edgesLt 0 ops.toList

/-- may operation i come when the loud ones below j are done, and no others? -/
def mayAt (b : T Nat) (i j : Nat) : Nat → List Rk → Bool
  | _, [] => true
  | l, .loud _ _ :: rs => match Nat.blt l j with
    | true => match ahead b i l with
      | true => false
      | false => mayAt b i j (Nat.add l 1) rs
    | false => match ahead b l i with
      | true => false
      | false => mayAt b i j (Nat.add l 1) rs
  | l, _ :: rs => mayAt b i j (Nat.add l 1) rs
/-- a read gives the same at a state between loud operations, if it may come there -/
def okAt (b : T Nat) (base : Nat) (all : List Rk) (al : List (Nat × AO)) (op : Op) (vs : List AV) (v : AV) (i j : Nat) (h : AH) (cons : Nat) : Bool := match mayAt b i j 0 all with
  | false => true
  | true => match aread P op vs (overlay base (fun a => ahead b a i && !(cons.testBit a)) al h) with
    | some u => AV.beq v u
    | none => false
def sameNext (b : T Nat) (base : Nat) (all : List Rk) (al : List (Nat × AO)) (op : Op) (vs : List AV) (v : AV) (i : Nat) : Nat → AH → Nat → List Rk → Bool
  | _, _, _, [] => true
  | j, h, cons, r :: rs => match r with
    | .loud _ h' => match okAt P b base all al op vs v i (Nat.add j 1) h' (cons ||| bitsAt b j) with
      | false => false
      | true => sameNext b base all al op vs v i (Nat.add j 1) h' (cons ||| bitsAt b j) rs
    | _ => sameNext b base all al op vs v i (Nat.add j 1) h cons rs
/-- .. over all states between loud operations -/
def sameAll (b : T Nat) (base : Nat) (all : List Rk) (al : List (Nat × AO)) (op : Op) (vs : List AV) (v : AV) (i : Nat) (h : AH) : Bool := match okAt P b base all al op vs v i 0 h 0 with
  | false => false
  | true => sameNext P b base all al op vs v i 0 h 0 all
/-- all reads -/
def reads (ops : Array Oper) (b : T Nat) (base : Nat) (h0 : AH) (all : List Rk) (al : List (Nat × AO)) : Nat → List Oper → List Rk → T AV → Bool
  | i, o :: l, r :: rs, env => match (match r, kd o.op with
      | .val v, .read => match evs env o.op.operands.toList with
        | some vs => sameAll P b base all al o.op vs v i h0
        | none => false
      | _, _ => true) with
    | false => false
    | true => match putA nt env o.dst r.res with
      | some env' => reads ops b base h0 all al (Nat.add i 1) l rs env'
      | none => false
  | _, [], [], _ => true
  | _, _, _, _ => false
/-- a region that draws its order -/
def regDr (ops : Array Oper) (env : T AV) (h : AH) : Option (T AV × AH) := match chk ops with
  | false => none
  | true => match Nat.blt (Nat.add h.next ops.size) 1000000 with
    | false => none
    | true => match regD P call nt ops (bf ops) h.next 0 ops.toList env (h.skip ops.size) 0 [] [] with
      | none => none
      | some (rs, env', h', cons, al) => match reads P nt ops (bf ops) h.next (h.skip ops.size) rs al 0 ops.toList rs env with
        | false => none
        | true => some (env', overlay h.next (fun a => !(cons.testBit a)) al h')

def iter (body : T AV → AH → Option (AX × T AV × AH)) : Nat → T AV → AH → Option (AX × T AV × AH)
  | 0, _, _ => none
  | n + 1, env, h => match body env h with
    | some (.normal, env', h') => iter body n env' h'
    | r => r
def exec : Code → T AV → AH → Option (AX × T AV × AH)
  | .skip, env, h => some (.normal, env, h)
  | .label _, env, h => some (.normal, env, h)
  | .region _ ops false, env, h => match regL P call nt ops ops.toList env h with
    | some (env', h') => some (.normal, env', h')
    | none => none
  | .region _ ops true, env, h => match regDr P call nt ops env h with
    | some (env', h') => some (.normal, env', h')
    | none => none
  | .seq x y, env, h => match exec x env h with
    | some (.normal, env', h') => exec y env' h'
    | r => r
  | .cond c x y, env, h => match ev env c with
    | some (.bool true) => exec x env h
    | some (.bool false) => exec y env h
    | some (.bsym q p) => match askC q with
      | some r => match r == p with
        | true => exec x env h
        | false => exec y env h
      | none => none
    | _ => none
  | .block id c, env, h => match exec c env h with
    | some (.exit j, env', h') => match Nat.beq j id with
      | true => some (.normal, env', h')
      | false => some (.exit j, env', h')
    | r => r
  | .loop c, env, h => iter (exec c) 100000 env h
  | .scope c, env, h => exec c env h
  | .exit id, env, h => some (.exit id, env, h)
  | .ret, env, h => some (.ret, env, h)
  | _, _, _ => none
end

def envOf : Nat → List AV → T AV → T AV
  | _, [], t => t
  | i, v :: l, t => envOf (Nat.add i 1) l (t.put i (some v))
def ress [Fc] (P : Program) (h : AH) (env : T AV) : List ResultVar → Option (List AV)
  | [] => some []
  | .tmp t :: l => match env.get t with
    | none => none
    | some v => match ress P h env l with
      | some vs => some (v :: vs)
      | none => none
  | .cell a t :: l => match env.get a with
    | none => none
    | some p => match aread P (.load t (.tmp a)) [p] h with
      | none => none
      | some v => match ress P h env l with
        | some vs => some (v :: vs)
        | none => none
def resOf : List AV → AV
  | [v] => v
  | vs => .tup vs
/-- a call that is known: function, arguments, what must be known of numbers, result, what becomes of blocks of which nothing is known (name, which one it is, which one it is then) -/
structure Kn where
  f : Nat
  args : List AV
  conds : List (Cnd × Bool) := []
  res : AV
  effs : List (Nat × Nat × Nat) := []
/-- calls that are known: function, arguments, result -/
abbrev Ov := List (Nat × List AV × AV)
def condsOk [Fc] : List (Cnd × Bool) → Bool
  | [] => true
  | (.lt a b, r) :: l => match askLt a b with
    | some q => match q == r with
      | true => condsOk l
      | false => false
    | none => false
  | (.eq a b, r) :: l => match askEq a b with
    | some q => match q == r with
      | true => condsOk l
      | false => false
    | none => false
def effDo (h : AH) : List (Nat × Nat × Nat) → Option AH
  | [] => some h
  | (n, i, j) :: l => match h.get n with
    | some (.opq q) => match Nat.beq q i with
      | true => effDo (h.put n (some (.opq j))) l
      | false => none
    | _ => none
def knAt [Fc] (f : FuncId) (args : List AV) (h : AH) : List Kn → Option (AV × AH)
  | [] => none
  | k :: l => match Nat.beq k.f f with
    | false => knAt f args h l
    | true => match AV.beqs args k.args with
      | false => knAt f args h l
      | true => match condsOk k.conds with
        | false => knAt f args h l
        | true => match effDo h k.effs with
          | some h' => some (k.res, h')
          | none => knAt f args h l
def ovAt (f : FuncId) (args : List AV) : Ov → Option AV
  | [] => none
  | (g, xs, v) :: l => match Nat.beq g f with
    | true => match AV.beqs args xs with
      | true => some v
      | false => ovAt f args l
    | false => ovAt f args l
def callN [Fc] (P : Program) (ov : Ov) (kn : List Kn) : Nat → FuncId → List AV → AH → Option (AV × AH)
  | 0, _, _, _ => none
  | n + 1, f, args, h => match ovAt f args ov with
    | some v => some (v, h)
    | none => match knAt f args h kn with
    | some r => some r
    | none => match P.funcs[f]? with
    | none => none
    | some fn => match fn.name == "runtime.NumGoroutine" with
      | true => none
      | false => match fn.body with
        | none => none
        | some c => match Nat.ble args.length fn.ntmps && Nat.ble fn.ntmps 1000000 with
          | false => none
          | true => match exec P (callN P ov kn n) fn.ntmps c (envOf 0 args .e) h with
            | some (.exit _, _, _) => none
            | some (_, env', h') => match ress P h' env' fn.results.toList with
              | some vs => some (resOf vs, h')
              | none => none
            | none => none
/-- the call gives a value -/
def runs [Fc] (P : Program) (ov : Ov) (n : Nat) (f : FuncId) (args : List AV) (v : AV) : Bool := match callN P ov [] n f args (.mk .e 0) with
  | some (u, _) => AV.beq u v
  | none => false
def yes (P : Program) (n : Nat) (f : FuncId) : Bool := @runs ⟨[], [], []⟩ P [] n f [] (.bool true)
/-- a tree of questions on numbers that are not known -/
inductive DT where
  | leaf
  | is (v : AV)
  | bad
  | node (c : Cnd) (t e : DT)
def tree (P : Program) (gs : List (Nat × List Int)) (ov : Ov) (n : Nat) (f : FuncId) (args : List AV) : DT → List (Cnd × Bool) → Bool
  | .leaf, fs => @runs ⟨fs, gs, []⟩ P ov n f args (.bool true)
  | .is v, fs => match AV.shut v with
    | true => @runs ⟨fs, gs, []⟩ P ov n f args v
    | false => false
  | .bad, _ => true
  | .node c t e, fs => match tree P gs ov n f args t ((c, true) :: fs) with
    | true => tree P gs ov n f args e ((c, false) :: fs)
    | false => false
/-! calls amid two blocks of which nothing is known: name 0 (the 2s-th), name 1 (the 2s+1-th) -/
def heap2 (s : Nat) : AH := .mk ((T.e.put 0 (some (.opq (Nat.mul 2 s)))).put 1 (some (.opq (Nat.add (Nat.mul 2 s) 1)))) 2
def isOpq (h : AH) (n i : Nat) : Bool := match h.get n with
  | some (.opq j) => Nat.beq j i
  | _ => false
def runs2 [Fc] (P : Program) (ov : Ov) (kn : List Kn) (n : Nat) (f : FuncId) (args : List AV) (s0 : Nat) (v : AV) (s : Nat) : Bool := match callN P ov kn n f args (heap2 s0) with
  | some (u, h) => AV.beq u v && (isOpq h 0 (Nat.mul 2 s) && isOpq h 1 (Nat.add (Nat.mul 2 s) 1))
  | none => false
/-- a tree of questions, whose ends tell the result and which one the blocks are then -/
inductive DM where
  | is (v : AV) (s : Nat)
  | bad
  | node (c : Cnd) (t e : DM)
def treeM (P : Program) (gs : List (Nat × List Int)) (ov : Ov) (kn : List Kn) (n : Nat) (f : FuncId) (args : List AV) (s0 : Nat) : DM → List (Cnd × Bool) → Bool
  | .is v s, fs => match AV.shut v with
    | true => @runs2 ⟨fs, gs, []⟩ P ov kn n f args s0 v s
    | false => false
  | .bad, _ => true
  | .node c t e, fs => match treeM P gs ov kn n f args s0 t ((c, true) :: fs) with
    | true => treeM P gs ov kn n f args s0 e ((c, false) :: fs)
    | false => false
end
end Go.Proofs.YthjjpmoifgcepaaGreat.Ex

/-
  The runner: values and memory over names, against the model's. No condition.
-/
namespace Go.Proofs.YthjjpmoifgcepaaGreat.Ex
open Go

abbrev Ren := Nat → Option (Nat × Nat)

/-- a place that is served -/
def Ps.fit : Ps → Prop
  | .x => False
  | .h => True
  | .o p => p.fit
  | .i p => p.fit
theorem toPs_inj : ∀ (d k j : Nat), toPs d k = toPs d j → (toPs d k).fit → k = j
  | 0, _, _, _, h => by simp [toPs, Ps.fit] at h
  | d + 1, k, j, he, hf => by
    unfold toPs at he hf
    have hb : ∀ a b : Nat, Nat.beq a b = decide (a = b) := fun a b => by
      cases h : Nat.beq a b with
      | true => have := Nat.eq_of_beq_eq_true h; subst this; simp
      | false => have := Nat.ne_of_beq_eq_false h; simp [this]
    simp only [hb] at he hf
    by_cases hk : k = 0
    · subst hk
      by_cases hj : j = 0
      · exact hj.symm
      · simp [hj] at he
        split at he <;> cases he
    · by_cases hj : j = 0
      · subst hj
        simp [hk] at he
        split at he <;> cases he
      · simp only [hk, hj, decide_false] at he hf
        have e1 : ∀ n : Nat, Nat.mod n 2 = n % 2 := fun _ => rfl
        have e2 : ∀ n : Nat, Nat.div n 2 = n / 2 := fun _ => rfl
        have e3 : ∀ n m : Nat, Nat.sub n m = n - m := fun _ _ => rfl
        simp only [e1, e2, e3] at he hf
        by_cases h1 : k % 2 = 1 <;> by_cases h2 : j % 2 = 1 <;> simp only [h1, h2, decide_true, decide_false] at he hf
        · have := toPs_inj d _ _ (by injection he) hf
          omega
        · cases he
        · cases he
        · have := toPs_inj d _ _ (by injection he) hf
          omega
theorem T.getP_e {α : Type} : ∀ p : Ps, T.getP p (.e : T α) = none
  | .x => rfl
  | .h => rfl
  | .o _ => rfl
  | .i _ => rfl
theorem T.get_setP {α : Type} {x : Option α} : ∀ (p q : Ps) (t : T α) (v : α), T.getP q (T.setP x p t) = some v → (q = p ∧ p.fit ∧ x = some v) ∨ (q ≠ p ∧ T.getP q t = some v)
  | .x, q, t, v, h => by
    have h : T.getP q t = some v := h
    refine .inr ⟨fun he => ?_, h⟩
    subst he
    cases h
  | .h, q, t, v, h => by
    cases t <;> cases q <;> simp [T.getP, T.setP] at h ⊢ <;> first | exact ⟨trivial, h⟩ | exact h | exact absurd h (by rw [← T.getP, T.getP_e]; simp)
  | .o p, q, t, v, h => by
    cases t with
    | e => cases q with
      | x => cases h
      | h => cases h
      | o q =>
        have h : T.getP q (T.setP x p .e) = some v := h
        rcases T.get_setP p q .e v h with ⟨rfl, h2, h3⟩ | ⟨h1, h2⟩
        · exact .inl ⟨rfl, h2, h3⟩
        · rw [T.getP_e] at h2; cases h2
      | i q =>
        have h : T.getP q (.e : T α) = some v := h
        rw [T.getP_e] at h; cases h
    | n l u r => cases q with
      | x => cases h
      | h => exact .inr ⟨(by intro he; cases he), h⟩
      | o q =>
        have h : T.getP q (T.setP x p r) = some v := h
        rcases T.get_setP p q r v h with ⟨rfl, h2, h3⟩ | ⟨h1, h2⟩
        · exact .inl ⟨rfl, h2, h3⟩
        · exact .inr ⟨(by intro he; injection he with he; exact h1 he), h2⟩
      | i q => exact .inr ⟨(by intro he; cases he), h⟩
  | .i p, q, t, v, h => by
    cases t with
    | e => cases q with
      | x => cases h
      | h => cases h
      | i q =>
        have h : T.getP q (T.setP x p .e) = some v := h
        rcases T.get_setP p q .e v h with ⟨rfl, h2, h3⟩ | ⟨h1, h2⟩
        · exact .inl ⟨rfl, h2, h3⟩
        · rw [T.getP_e] at h2; cases h2
      | o q =>
        have h : T.getP q (.e : T α) = some v := h
        rw [T.getP_e] at h; cases h
    | n l u r => cases q with
      | x => cases h
      | h => exact .inr ⟨(by intro he; cases he), h⟩
      | i q =>
        have h : T.getP q (T.setP x p l) = some v := h
        rcases T.get_setP p q l v h with ⟨rfl, h2, h3⟩ | ⟨h1, h2⟩
        · exact .inl ⟨rfl, h2, h3⟩
        · exact .inr ⟨(by intro he; injection he with he; exact h1 he), h2⟩
      | o q => exact .inr ⟨(by intro he; cases he), h⟩
theorem T.get_put {α : Type} {t : T α} {k : Nat} {x : Option α} {j : Nat} {v : α} (h : (t.put k x).get j = some v) : (j = k ∧ x = some v) ∨ (j ≠ k ∧ t.get j = some v) := by
  rcases T.get_setP _ _ t v h with ⟨h1, h2, h3⟩ | ⟨h1, h2⟩
  · exact .inl ⟨(toPs_inj 20 k j h1.symm h2).symm, h3⟩
  · exact .inr ⟨fun he => h1 (by rw [he]), h2⟩

/-- which number is the j-th field of the e-th record of the i-th list; its length -/
def lc (i e j : Nat) : Nat := 4096 + ((e * 64 + j) * 64 + i)
def ln (i : Nat) : Nat := 2048 + i
mutual
def SE.ev (σ : Nat → Int) : SE → Int
  | .var i => σ i
  | .lit n => n
  | .bin .add a b => IntKind.i64.wrap (a.ev σ + b.ev σ)
  | .bin .sub a b => IntKind.i64.wrap (a.ev σ - b.ev σ)
  | .bin .mul a b => IntKind.i64.wrap (a.ev σ * b.ev σ)
  | .bin .quo a b => IntKind.i64.wrap ((a.ev σ).tdiv (b.ev σ))
  | .bin .rem a b => (a.ev σ).tmod (b.ev σ)
  | .ubin .add a b => IntKind.u64.wrap (a.ev σ + b.ev σ)
  | .ubin .sub a b => IntKind.u64.wrap (a.ev σ - b.ev σ)
  | .ubin .mul a b => IntKind.u64.wrap (a.ev σ * b.ev σ)
  | .ubin .quo a b => IntKind.u64.wrap ((a.ev σ).tdiv (b.ev σ))
  | .ubin .rem a b => (a.ev σ).tmod (b.ev σ)
  | .cv k a => k.wrap (a.ev σ)
  | .at l e j => l.evA σ (e.ev σ).toNat j
  | .len l => (l.evN σ : Int)
  | .lvar _ => 0
  | .lset _ _ _ _ => 0
  | .lsnoc _ _ => 0
  | .rnil => 0
  | .rep _ => 0
  | .rcons _ _ => 0
/-- a list's records -/
def SE.evA (σ : Nat → Int) : SE → Nat → Nat → Int
  | .lvar i => fun e j => σ (lc i e j)
  | .lset l x k v => fun e j => if e = (x.ev σ).toNat ∧ j = k then v.ev σ else l.evA σ e j
  | .lsnoc l r => fun e j => if e = l.evN σ then r.evA σ 0 j else l.evA σ e j
  | .rcons v r => fun _ j => match j with
    | 0 => v.ev σ
    | j + 1 => r.evA σ 0 j
  | .rnil => fun _ _ => 0
  | .rep _ => fun _ _ => 0
  | .at _ _ _ => fun _ _ => 0
  | .len _ => fun _ _ => 0
  | .var _ => fun _ _ => 0
  | .lit _ => fun _ _ => 0
  | .bin _ _ _ => fun _ _ => 0
  | .ubin _ _ _ => fun _ _ => 0
  | .cv _ _ => fun _ _ => 0
/-- .. how many -/
def SE.evN (σ : Nat → Int) : SE → Nat
  | .lvar i => (σ (ln i)).toNat
  | .lset l _ _ _ => l.evN σ
  | .lsnoc l _ => l.evN σ + 1
  | .rcons _ _ => 0
  | .rnil => 0
  | .rep n => (n.ev σ).toNat
  | .at _ _ _ => 0
  | .len _ => 0
  | .var _ => 0
  | .lit _ => 0
  | .bin _ _ _ => 0
  | .ubin _ _ _ => 0
  | .cv _ _ => 0
end
def CK.val : CK → Int → Value
  | .int k, n => .int k n
  | .bool, n => .bool (!(n == 0))
theorem lenE_ev (σ : Nat → Int) : ∀ l : SE, (lenE l).ev σ = (l.evN σ : Int)
  | .lset l _ _ _ => by
    have := lenE_ev σ l
    simp only [lenE, SE.evN]
    exact this
  | .lvar _ | .lsnoc _ _ | .rcons _ _ | .rnil | .rep _ | .at _ _ _ | .len _ | .var _ | .lit _ | .bin _ _ _ | .ubin _ _ _ | .cv _ _ => by simp only [lenE, SE.ev]
def Cnd.ev (σ : Nat → Int) : Cnd → Bool
  | .lt a b => decide (a.ev σ < b.ev σ)
  | .eq a b => a.ev σ == b.ev σ
/-- what the numbers are -/
class Nums extends Fc where
  σ : Nat → Int
  /-- blocks of which nothing else is known -/
  ω : Nat → Nat → Nat → Obj := fun _ _ _ => .map #[] 0
  /-- .., what they may be -/
  Ω : Nat → Nat → Nat → Obj → Prop := fun _ _ _ _ => True
  /-- slices of numbers that nobody changes: where, how many, how many more -/
  ro : Nat → Option (Option Addr × Nat × Nat) := fun _ => none
  ok : ∀ f ∈ facts, f.1.ev σ = f.2
def RoomR (off c sz s : Nat) : Room → Prop
  | .whole => off = 0 ∧ c * sz = s
  | .any => True
  | .ex c0 => c = c0
section
variable [Nums]
mutual
def VR (ρ : Ren) : AV → Value → Prop
  | .bool b, v => v = .bool b
  | .int k n, v => v = .int k n
  | .sym k e, v => v = .int k (e.ev Nums.σ)
  | .bsym c p, v => v = .bool (c.ev Nums.σ == p)
  | .eptr n e s j, v => ∃ b z, ρ n = some (b, z) ∧ v = .pointer (some ⟨b, (e.ev Nums.σ).toNat * s + j, none⟩)
  | .dsl n e s, v => ∃ b z len c : Nat, ρ n = some (b, z) ∧ v = .slice (some ⟨b, 0, none⟩) len c ∧ len ≤ c ∧ c ≤ maxLen ∧ c * s = z ∧ e.ev Nums.σ = len
  | .ssl n e len s, v => ∃ b z c, ρ n = some (b, z) ∧ v = .slice (some ⟨b, (e.ev Nums.σ).toNat * s, none⟩) len c ∧ len ≤ c ∧ c ≤ maxLen ∧ 0 ≤ e.ev Nums.σ ∧ e.ev Nums.σ + len ≤ 4000000000
  | .rsl i, v => ∃ A len c, Nums.ro i = some (A, len, c) ∧ v = .slice A len c ∧ len ≤ c ∧ c ≤ maxLen ∧ (Nums.σ (ln i)).toNat = len ∧ (A = none → len = 0)
  | .rptr i e, v => ∃ A len c, Nums.ro i = some (some A, len, c) ∧ v = .pointer (some (A.add (e.ev Nums.σ).toNat)) ∧ (e.ev Nums.σ).toNat < len
  | .str s, v => v = .string s
  | .nilp, v => v = .pointer none
  | .ptr n off, v => ∃ b s, ρ n = some (b, s) ∧ v = .pointer (some ⟨b, off, none⟩)
  | .gptr g off, v => v = .pointer (some ⟨g, off, none⟩)
  | .nilsl, v => v = .slice none 0 0
  | .sl n off len sz r, v => ∃ b s c, ρ n = some (b, s) ∧ v = .slice (some ⟨b, off, none⟩) len c ∧ len ≤ c ∧ c ≤ maxLen ∧ RoomR off c sz s r
  | .esl n, v => ∃ a c, v = .slice (some a) 0 c
  | .zsl, v => ∃ A c, v = .slice A 0 c ∧ c ≤ maxLen
  | .osl e, v => ∃ A len c, v = .slice A len c ∧ len ≤ c ∧ c ≤ maxLen ∧ e.ev Nums.σ = len
  | .nilmap, v => v = .map none
  | .map n, v => ∃ b s, ρ n = some (b, s) ∧ v = .map (some b)
  | .fn f x y, v => ∃ a c : Array Value, v = .func f a c ∧ VRs ρ x a.toList ∧ VRs ρ y c.toList
  | .nilfn, v => v = .nilFunc
  | .nilif, v => v = .nilIface
  | .ifc t x, v => ∃ y, v = .iface t y ∧ VR ρ x y
  | .agg l, v => ∃ a : Array Value, v = .agg a ∧ VRs ρ l a.toList
  | .tup l, v => ∃ a : Array Value, v = .tuple a ∧ VRs ρ l a.toList
def VRs (ρ : Ren) : List AV → List Value → Prop
  | [], l => l = []
  | x :: xs, l => ∃ y ys, l = y :: ys ∧ VR ρ x y ∧ VRs ρ xs ys
end
variable {ρ ρ' : Ren}
theorem VRs.nil : VRs ρ [] [] := by simp [VRs]
theorem VRs.cons {x : AV} {y : Value} {xs : List AV} {ys : List Value} (h : VR ρ x y) (t : VRs ρ xs ys) : VRs ρ (x :: xs) (y :: ys) := by
  unfold VRs; exact ⟨y, ys, rfl, h, t⟩
theorem VRs.uncons {x : AV} {xs : List AV} {l : List Value} (h : VRs ρ (x :: xs) l) : ∃ y ys, l = y :: ys ∧ VR ρ x y ∧ VRs ρ xs ys := by
  unfold VRs at h; exact h
theorem VRs.one {x : AV} {l : List Value} (h : VRs ρ [x] l) : ∃ y, l = [y] ∧ VR ρ x y := by
  obtain ⟨y, ys, rfl, h1, h2⟩ := h.uncons
  unfold VRs at h2; subst h2; exact ⟨y, rfl, h1⟩
theorem VRs.two {x x' : AV} {l : List Value} (h : VRs ρ [x, x'] l) : ∃ y y', l = [y, y'] ∧ VR ρ x y ∧ VR ρ x' y' := by
  obtain ⟨y, ys, rfl, h1, h2⟩ := h.uncons
  obtain ⟨y', rfl, h3⟩ := h2.one; exact ⟨y, y', rfl, h1, h3⟩
theorem VRs.three {x x' x'' : AV} {l : List Value} (h : VRs ρ [x, x', x''] l) : ∃ y y' y'', l = [y, y', y''] ∧ VR ρ x y ∧ VR ρ x' y' ∧ VR ρ x'' y'' := by
  obtain ⟨y, ys, rfl, h1, h2⟩ := h.uncons
  obtain ⟨y', y'', rfl, h3, h4⟩ := h2.two; exact ⟨y, y', y'', rfl, h1, h3, h4⟩
theorem VRs.four {x x' x'' x3 : AV} {l : List Value} (h : VRs ρ [x, x', x'', x3] l) : ∃ y y' y'' y3, l = [y, y', y'', y3] ∧ VR ρ x y ∧ VR ρ x' y' ∧ VR ρ x'' y'' ∧ VR ρ x3 y3 := by
  obtain ⟨y, ys, rfl, h1, h2⟩ := h.uncons
  obtain ⟨y', y'', y3, rfl, h3, h4⟩ := h2.three; exact ⟨y, y', y'', y3, rfl, h1, h3, h4⟩
theorem VRs.len : ∀ {l : List AV} {m : List Value}, VRs ρ l m → l.length = m.length
  | [], m, h => by unfold VRs at h; subst h; rfl
  | x :: xs, m, h => by
    obtain ⟨y, ys, rfl, _, h2⟩ := h.uncons
    simp [VRs.len h2]
theorem VRs.get : ∀ {l : List AV} {m : List Value} {i : Nat} {v : AV}, VRs ρ l m → l[i]? = some v → ∃ x, m[i]? = some x ∧ VR ρ v x
  | [], m, i, v, _, h => by simp at h
  | x :: xs, m, i, v, h, hi => by
    obtain ⟨y, ys, rfl, h1, h2⟩ := h.uncons
    cases i with
    | zero => simp at hi; subst hi; exact ⟨y, rfl, h1⟩
    | succ i => exact VRs.get (i := i) h2 (by simpa using hi)
theorem VRs.append : ∀ {l l' : List AV} {m m' : List Value}, VRs ρ l m → VRs ρ l' m' → VRs ρ (l ++ l') (m ++ m')
  | [], _, m, _, h, h' => by unfold VRs at h; subst h; exact h'
  | x :: xs, _, m, _, h, h' => by
    obtain ⟨y, ys, rfl, h1, h2⟩ := h.uncons
    exact VRs.cons h1 (VRs.append h2 h')
theorem VRs.take : ∀ {l : List AV} {m : List Value} (n : Nat), VRs ρ l m → VRs ρ (l.take n) (m.take n)
  | _, _, 0, _ => by simp [VRs]
  | [], m, n + 1, h => by unfold VRs at h; subst h; simp [VRs]
  | x :: xs, m, n + 1, h => by
    obtain ⟨y, ys, rfl, h1, h2⟩ := h.uncons
    exact VRs.cons h1 (VRs.take n h2)
theorem VRs.drop : ∀ {l : List AV} {m : List Value} (n : Nat), VRs ρ l m → VRs ρ (l.drop n) (m.drop n)
  | _, _, 0, h => by simpa using h
  | [], m, n + 1, h => by unfold VRs at h; subst h; simp [VRs]
  | x :: xs, m, n + 1, h => by
    obtain ⟨y, ys, rfl, h1, h2⟩ := h.uncons
    simpa using VRs.drop n h2
theorem VRs.rep {z : List AV} {y : List Value} (h : VRs ρ z y) : ∀ n, VRs ρ (Ex.rep n z) (List.replicate n y).flatten
  | 0 => by simp [Ex.rep, VRs]
  | n + 1 => by
    rw [List.replicate_succ, List.flatten_cons]
    exact VRs.append h (VRs.rep h n)
mutual
theorem VR.mono (hρ : ∀ n p, ρ n = some p → ρ' n = some p) : ∀ {v : AV} {x : Value}, VR ρ v x → VR ρ' v x
  | .bool _, _, h => by unfold VR at h ⊢; exact h
  | .int _ _, _, h => by unfold VR at h ⊢; exact h
  | .sym _ _, _, h => by unfold VR at h ⊢; exact h
  | .bsym _ _, _, h => by unfold VR at h ⊢; exact h
  | .eptr .., _, h => by
    unfold VR at h ⊢
    obtain ⟨b, s, h1, h2⟩ := h
    exact ⟨b, s, hρ _ _ h1, h2⟩
  | .dsl .., _, h => by
    unfold VR at h ⊢
    obtain ⟨b, s, l, c, h1, h2⟩ := h
    exact ⟨b, s, l, c, hρ _ _ h1, h2⟩
  | .ssl .., _, h => by
    unfold VR at h ⊢
    obtain ⟨b, s, c, h1, h2⟩ := h
    exact ⟨b, s, c, hρ _ _ h1, h2⟩
  | .rsl _, _, h => by unfold VR at h ⊢; exact h
  | .rptr _ _, _, h => by unfold VR at h ⊢; exact h
  | .str _, _, h => by unfold VR at h ⊢; exact h
  | .nilp, _, h => by unfold VR at h ⊢; exact h
  | .ptr _ _, _, h => by
    unfold VR at h ⊢
    obtain ⟨b, s, h1, h2⟩ := h
    exact ⟨b, s, hρ _ _ h1, h2⟩
  | .gptr _ _, _, h => by unfold VR at h ⊢; exact h
  | .nilsl, _, h => by unfold VR at h ⊢; exact h
  | .sl .., _, h => by
    unfold VR at h ⊢
    obtain ⟨b, s, c, h1, h2⟩ := h
    exact ⟨b, s, c, hρ _ _ h1, h2⟩
  | .esl _, _, h => by unfold VR at h ⊢; exact h
  | .zsl, _, h => by unfold VR at h ⊢; exact h
  | .osl _, _, h => by unfold VR at h ⊢; exact h
  | .nilmap, _, h => by unfold VR at h ⊢; exact h
  | .map _, _, h => by
    unfold VR at h ⊢
    obtain ⟨b, s, h1, h2⟩ := h
    exact ⟨b, s, hρ _ _ h1, h2⟩
  | .fn _ _ _, _, h => by
    unfold VR at h ⊢
    obtain ⟨a, c, h1, h2, h3⟩ := h
    exact ⟨a, c, h1, VRs.mono hρ h2, VRs.mono hρ h3⟩
  | .nilfn, _, h => by unfold VR at h ⊢; exact h
  | .nilif, _, h => by unfold VR at h ⊢; exact h
  | .ifc _ _, _, h => by
    unfold VR at h ⊢
    obtain ⟨y, h1, h2⟩ := h
    exact ⟨y, h1, VR.mono hρ h2⟩
  | .agg _, _, h => by
    unfold VR at h ⊢
    obtain ⟨a, h1, h2⟩ := h
    exact ⟨a, h1, VRs.mono hρ h2⟩
  | .tup _, _, h => by
    unfold VR at h ⊢
    obtain ⟨a, h1, h2⟩ := h
    exact ⟨a, h1, VRs.mono hρ h2⟩
theorem VRs.mono (hρ : ∀ n p, ρ n = some p → ρ' n = some p) : ∀ {l : List AV} {m : List Value}, VRs ρ l m → VRs ρ' l m
  | [], _, h => by unfold VRs at h ⊢; exact h
  | x :: xs, _, h => by
    unfold VRs at h ⊢
    obtain ⟨y, ys, h1, h2, h3⟩ := h
    exact ⟨y, ys, h1, VR.mono hρ h2, VRs.mono hρ h3⟩
end
mutual
theorem ofV_sound (ρ : Ren) : ∀ {v : Value} {x : AV}, ofV v = some x → VR ρ x v
  | .bool _, _, h => by simp [ofV] at h; subst h; simp [VR]
  | .int _ _, _, h => by simp [ofV] at h; subst h; simp [VR]
  | .string _, _, h => by simp [ofV] at h; subst h; simp [VR]
  | .pointer none, _, h => by simp [ofV] at h; subst h; simp [VR]
  | .pointer (some _), _, h => by simp [ofV] at h
  | .slice none 0 0, _, h => by simp [ofV] at h; subst h; simp [VR]
  | .slice none 0 (_ + 1), _, h => by simp [ofV] at h
  | .slice none (_ + 1) _, _, h => by simp [ofV] at h
  | .slice (some _) _ _, _, h => by simp [ofV] at h
  | .map none, _, h => by simp [ofV] at h; subst h; simp [VR]
  | .map (some _), _, h => by simp [ofV] at h
  | .nilFunc, _, h => by simp [ofV] at h; subst h; simp [VR]
  | .nilIface, _, h => by simp [ofV] at h; subst h; simp [VR]
  | .agg cs, _, h => by
    simp only [ofV, Option.map_eq_some_iff] at h
    obtain ⟨l, h1, rfl⟩ := h
    unfold VR
    exact ⟨cs, rfl, ofA_sound ρ h1⟩
  | .tuple cs, _, h => by
    simp only [ofV, Option.map_eq_some_iff] at h
    obtain ⟨l, h1, rfl⟩ := h
    unfold VR
    exact ⟨cs, rfl, ofA_sound ρ h1⟩
  | .float _ _, _, h => by simp [ofV] at h
  | .complex _ _ _, _, h => by simp [ofV] at h
  | .chan _, _, h => by simp [ofV] at h
  | .func _ _ _, _, h => by simp [ofV] at h
  | .iface _ _, _, h => by simp [ofV] at h
theorem ofA_sound (ρ : Ren) : ∀ {a : Array Value} {l : List AV}, ofA a = some l → VRs ρ l a.toList
  | ⟨m⟩, _, h => ofL_sound ρ (by simpa [ofA] using h)
theorem ofL_sound (ρ : Ren) : ∀ {m : List Value} {l : List AV}, ofL m = some l → VRs ρ l m
  | [], _, h => by simp [ofL] at h; subst h; simp [VRs]
  | v :: m, _, h => by
    unfold ofL at h
    split at h
    · rename_i x hx
      split at h
      · rename_i xs hxs
        simp at h
        subst h
        exact VRs.cons (ofV_sound ρ hx) (ofL_sound ρ hxs)
      · cases h
    · cases h
end
theorem VR.oneCell {v : AV} {x : Value} (h : VR ρ v x) (h1 : v.one = true) : x.oneCell' = true := by
  cases v <;> simp only [VR] at h <;> first
    | (cases h1; done)
    | (subst h; rfl)
    | (obtain ⟨_, _, _, rfl⟩ := h; rfl)
    | (obtain ⟨_, _, _, _, rfl, _⟩ := h; rfl)
    | (obtain ⟨_, _, _, _, _, rfl, _⟩ := h; rfl)
    | (obtain ⟨_, _, _, rfl, _⟩ := h; rfl)
    | (obtain ⟨_, _, rfl⟩ := h; rfl)
    | (obtain ⟨_, _, rfl, _⟩ := h; rfl)
    | (obtain ⟨_, rfl, _⟩ := h; rfl)
theorem VR.cells {v : AV} {x : Value} (h : VR ρ v x) : VRs ρ v.cells x.cells.toList := by
  have key : ∀ (u : AV) (y : Value), VR ρ u y → u.cells = [u] → y.cells = #[y] → VRs ρ u.cells y.cells.toList := by
    intro u y hu h1 h2
    rw [h1, h2]
    exact VRs.cons hu VRs.nil
  cases v with
  | agg l =>
    unfold VR at h
    obtain ⟨a, rfl, h⟩ := h
    exact h
  | _ =>
    refine key _ _ h rfl ?_
    simp only [VR] at h
    first
    | (subst h; rfl)
    | (obtain ⟨_, _, _, rfl⟩ := h; rfl)
    | (obtain ⟨_, _, _, _, rfl, _⟩ := h; rfl)
    | (obtain ⟨_, _, _, _, _, rfl, _⟩ := h; rfl)
    | (obtain ⟨_, _, _, rfl, _⟩ := h; rfl)
    | (obtain ⟨_, _, rfl⟩ := h; rfl)
    | (obtain ⟨_, _, rfl, _⟩ := h; rfl)
    | (obtain ⟨_, rfl, _⟩ := h; rfl)
omit [Nums] in
theorem allOne_mem : ∀ {l : List AV}, allOne l = true → ∀ v ∈ l, v.one = true
  | [], _, _, h => by cases h
  | v :: l, h, u, hu => by
    unfold allOne at h
    split at h
    · rename_i h1
      rcases List.mem_cons.1 hu with rfl | hu
      · exact h1
      · exact allOne_mem h u hu
    · cases h
theorem VRs.ones {l : List AV} {m : List Value} (h : VRs ρ l m) (h1 : allOne l = true) : ∀ x ∈ m, x.oneCell' = true := by
  intro x hx
  obtain ⟨i, hi, rfl⟩ := List.getElem_of_mem hx
  have hl : i < l.length := by rw [h.len]; exact hi
  obtain ⟨y, hy, hv⟩ := h.get (List.getElem?_eq_getElem hl)
  rw [List.getElem?_eq_getElem hi] at hy
  cases hy
  exact hv.oneCell (allOne_mem h1 _ (List.getElem_mem hl))
end
end Go.Proofs.YthjjpmoifgcepaaGreat.Ex

/-
  The runner: memory over names against the model's worlds; how a step changes both. No condition.
-/
namespace Go.Proofs.YthjjpmoifgcepaaGreat.Ex
open Go
variable [Nums]

def MR (ρ : Ren) : List (AV × AV) → List MapEntry → Prop
  | [], l => l = []
  | p :: ps, l => ∃ e es, l = e :: es ∧ VR ρ p.1 e.key ∧ VR ρ p.2 e.val ∧ MR ρ ps es
def OR (ρ : Ren) (o : AO) (s : Nat) (x : Option Obj) : Prop := match o with
  | .cells cs k e => ∃ cur : Array Value, x = some (.cells cur e (0, 0)) ∧ cur.size = s ∧ k ≤ s ∧ ∀ i v, cs.get i = some v → v.one = true ∧ ∃ y, cur[i]? = some y ∧ VR ρ v y
  | .map es bs ck => ∃ xs : Array MapEntry, x = some (.map xs ck) ∧ MR ρ es xs.toList ∧ xs.toList.map (·.born) = bs
  | .mit none _ _ _ => x = some (.mapIter none 0 #[] 0)
  | .mit (some m) since seen last => ∃ b s, ρ m = some (b, s) ∧ x = some (.mapIter (some b) since seen.toArray last)
  | .opq i => ∃ b0 z0 b1 z1, ρ 0 = some (b0, z0) ∧ ρ 1 = some (b1, z1) ∧ x = some (Nums.ω i b0 b1)
  | .opb i n m => ∃ b0 z0 b1 z1 o, ρ n = some (b0, z0) ∧ ρ m = some (b1, z1) ∧ x = some o ∧ Nums.Ω i b0 b1 o
  | .recs l ks e => ∃ cur : Array Value, x = some (.cells cur e (0, 0)) ∧ cur.size = s ∧ l.evN Nums.σ * ks.length ≤ s ∧ ∀ r j k, r < l.evN Nums.σ → ks[j]? = some k → cur[r * ks.length + j]? = some (k.val (l.evA Nums.σ r j))
/-- tables of numbers, as memory holds them -/
def Tabs (gs : List (Nat × List Int)) (w : World) : Prop := ∀ g l, findG g gs = some l → ∃ e q, w.heap[g]? = some (.cells (l.map (Value.int .i64)).toArray e q)
/-- slices of numbers that nobody changes, as memory holds them -/
def Ros (w : World) : Prop := ∀ i k A len c, findK i Fc.rks = some k → Nums.ro i = some (A, len, c) → (Nums.σ (ln i)).toNat = len ∧ ∀ a, A = some a → 0 < len → a.block < w.heap.size ∧ ∀ e, e < len → w.cell? (a.add e) = some (k.val (Nums.σ (lc i e 0)))
/-- a block that nobody may change -/
def isRo (b : Nat) : Prop := ∃ i k a len c, findK i Fc.rks = some k ∧ Nums.ro i = some (some a, len, c) ∧ 0 < len ∧ a.block = b
/-- what is known of memory: blocks by names -/
structure HR (ρ : Ren) (g : Nat → Option AO) (nx : Nat) (w : World) : Prop where
  fresh : ∀ n, nx ≤ n → ρ n = none
  obj : ∀ n o, g n = some o → ∃ b s, ρ n = some (b, s) ∧ OR ρ o s w.heap[b]?
  inj : ∀ n m b s s', (g n).isSome = true → (g m).isSome = true → ρ n = some (b, s) → ρ m = some (b, s') → n = m
  gl : Tabs Fc.globs w
  gn : ∀ b l, findG b Fc.globs = some l → ∀ n s, (g n).isSome = true → ρ n ≠ some (b, s)
  rl : Ros w
  rn : ∀ b, isRo b → ∀ n s, (g n).isSome = true → ρ n ≠ some (b, s)
structure Stp (ρ : Ren) (g : Nat → Option AO) (nx : Nat) (w : World) (ρ' : Ren) (g' : Nat → Option AO) (nx' : Nat) (w' : World) : Prop where
  hr : HR ρ' g' nx' w'
  ext : ∀ n, n < nx → ρ' n = ρ n
  gr : nx ≤ nx'
  os : w'.os = w.os
  tape : w'.tape = w.tape
  output : w'.output = w.output
  size : w.heap.size ≤ w'.heap.size
  block : ∀ b, b < w.heap.size → (∀ n s, (g n).isSome = true → ρ n ≠ some (b, s)) → w'.heap[b]? = w.heap[b]?
  live : ∀ n b s, (g' n).isSome = true → ρ' n = some (b, s) → w.heap.size ≤ b ∨ ∃ m s', (g m).isSome = true ∧ ρ m = some (b, s')
  dom : ∀ n, n < nx → (g' n).isSome = true → (g n).isSome = true
section
variable {ρ ρ' ρ1 : Ren} {g g' g1 : Nat → Option AO} {nx nx' n1 : Nat} {w w' w1 : World}
theorem MR.mono (hρ : ∀ n p, ρ n = some p → ρ' n = some p) : ∀ {ps : List (AV × AV)} {l : List MapEntry}, MR ρ ps l → MR ρ' ps l
  | [], _, h => h
  | _ :: _, _, h => by
    obtain ⟨e, es, h1, h2, h3, h4⟩ := h
    exact ⟨e, es, h1, h2.mono hρ, h3.mono hρ, MR.mono hρ h4⟩
theorem OR.mono (hρ : ∀ n p, ρ n = some p → ρ' n = some p) {o : AO} {s : Nat} {x : Option Obj} (h : OR ρ o s x) : OR ρ' o s x := by
  cases o with
  | cells cs k e =>
    obtain ⟨cur, h1, h2, h3, h4⟩ := h
    exact ⟨cur, h1, h2, h3, fun i v hv => by
      obtain ⟨ho, y, hy, hr⟩ := h4 i v hv
      exact ⟨ho, y, hy, hr.mono hρ⟩⟩
  | map es bs ck =>
    obtain ⟨xs, h1, h2, h3⟩ := h
    exact ⟨xs, h1, h2.mono hρ, h3⟩
  | mit m since seen last =>
    cases m with
    | none => exact h
    | some m =>
      obtain ⟨b, z, h1, h2⟩ := h
      exact ⟨b, z, hρ _ _ h1, h2⟩
  | opq i =>
    obtain ⟨b0, z0, b1, z1, h0, h1, h2⟩ := h
    exact ⟨b0, z0, b1, z1, hρ _ _ h0, hρ _ _ h1, h2⟩
  | opb i n m =>
    obtain ⟨b0, z0, b1, z1, o, h0, h1, h2⟩ := h
    exact ⟨b0, z0, b1, z1, o, hρ _ _ h0, hρ _ _ h1, h2⟩
  | recs l ks e => exact h
theorem HR.lt (h : HR ρ g nx w) {n : Nat} {p : Nat × Nat} (hp : ρ n = some p) : n < nx := by
  rcases Nat.lt_or_ge n nx with hlt | hge
  · exact hlt
  · rw [h.fresh n hge] at hp; cases hp
theorem HR.sub (h : HR ρ g nx w) (hs : ∀ n o, g' n = some o → g n = some o) : HR ρ g' nx w := by
  have hi : ∀ n, (g' n).isSome = true → (g n).isSome = true := fun n hn => by
    cases hg : g' n with
    | none => rw [hg] at hn; cases hn
    | some o => rw [hs n o hg]; rfl
  exact ⟨h.fresh, fun n o ho => h.obj n o (hs n o ho), fun n m b s s' hn hm => h.inj n m b s s' (hi n hn) (hi m hm), h.gl, fun b l hl n s hn => h.gn b l hl n s (hi n hn), h.rl, fun b hb n s hn => h.rn b hb n s (hi n hn)⟩
/-- tables stay where named blocks alone change -/
theorem HR.tables (h : HR ρ g nx w) (hb : ∀ b, b < w.heap.size → (∀ n s, (g n).isSome = true → ρ n ≠ some (b, s)) → w'.heap[b]? = w.heap[b]?)
    (hl : ∀ n b s, (g' n).isSome = true → ρ' n = some (b, s) → w.heap.size ≤ b ∨ ∃ m s', (g m).isSome = true ∧ ρ m = some (b, s')) :
    Tabs Fc.globs w' ∧ (∀ b l, findG b Fc.globs = some l → ∀ n s, (g' n).isSome = true → ρ' n ≠ some (b, s)) ∧ Ros w' ∧ ∀ b, isRo b → ∀ n s, (g' n).isSome = true → ρ' n ≠ some (b, s) := by
  have hlt : ∀ b l, findG b Fc.globs = some l → b < w.heap.size := fun b l hf => by
    obtain ⟨e, q, he⟩ := h.gl b l hf
    exact (Array.getElem?_eq_some_iff.1 he).1
  have rlt : ∀ b, isRo b → b < w.heap.size := fun b ⟨i, k, a, len, c, h1, h2, h0, h3⟩ => h3 ▸ ((h.rl i k (some a) len c h1 h2).2 a rfl h0).1
  refine ⟨fun b l hf => ?_, fun b l hf n s hn hp => ?_, fun i k A len c h1 h2 => ?_, fun b hb' n s hn hp => ?_⟩
  · rw [hb b (hlt b l hf) (h.gn b l hf)]
    exact h.gl b l hf
  · rcases hl n b s hn hp with h1 | ⟨m, s', h1, h2⟩
    · have := hlt b l hf
      omega
    · exact h.gn b l hf m s' h1 h2
  · obtain ⟨h3, h4⟩ := h.rl i k A len c h1 h2
    refine ⟨h3, fun a ha h0 => ?_⟩
    subst ha
    obtain ⟨h5, h6⟩ := h4 a rfl h0
    have hbk := hb a.block h5 (h.rn a.block ⟨i, k, a, len, c, h1, h2, h0, rfl⟩)
    refine ⟨?_, fun e he => ?_⟩
    · rcases Nat.lt_or_ge a.block w'.heap.size with h7 | h7
      · exact h7
      · rw [Array.getElem?_eq_none h7, Array.getElem?_eq_getElem h5] at hbk
        cases hbk
    · rw [← h6 e he]
      have hab : (a.add e).block = a.block := by unfold Addr.add; split <;> rfl
      simp only [World.cell?, hab, hbk]
  · rcases hl n b s hn hp with h1 | ⟨m, s', h1, h2⟩
    · have := rlt b hb'
      omega
    · exact h.rn b hb' m s' h1 h2
theorem HR.drew (h : HR ρ g nx w) (n : Nat) : HR ρ g nx { w with drawn := n } := ⟨h.fresh, h.obj, h.inj, h.gl, h.gn, h.rl, h.rn⟩
theorem HR.up (h : HR ρ g nx w) {nx' : Nat} (hn : nx ≤ nx') : HR ρ g nx' w := ⟨fun n hn' => h.fresh n (by omega), h.obj, h.inj, h.gl, h.gn, h.rl, h.rn⟩
theorem Stp.refl (h : HR ρ g nx w) : Stp ρ g nx w ρ g nx w :=
  ⟨h, fun _ _ => rfl, Nat.le_refl _, rfl, rfl, rfl, Nat.le_refl _, fun _ _ _ => rfl, fun n b s hn hp => .inr ⟨n, s, hn, hp⟩, fun _ _ h => h⟩
theorem Stp.mono (h0 : HR ρ g nx w) (h : Stp ρ g nx w ρ' g' nx' w') : ∀ n p, ρ n = some p → ρ' n = some p :=
  fun n p hp => (h.ext n (h0.lt hp)).trans hp
theorem Stp.trans {ρ2 : Ren} {g2 : Nat → Option AO} {n2 : Nat} {w2 : World} (h : Stp ρ g nx w ρ1 g1 n1 w1) (k : Stp ρ1 g1 n1 w1 ρ2 g2 n2 w2) : Stp ρ g nx w ρ2 g2 n2 w2 := by
  refine ⟨k.hr, fun n hn => (k.ext n (Nat.lt_of_lt_of_le hn h.gr)).trans (h.ext n hn), Nat.le_trans h.gr k.gr, k.os.trans h.os, k.tape.trans h.tape, k.output.trans h.output, Nat.le_trans h.size k.size, ?_, ?_, fun n hn h2 => h.dom n hn (k.dom n (Nat.lt_of_lt_of_le hn h.gr) h2)⟩
  · intro b hb hl
    refine (k.block b (Nat.lt_of_lt_of_le hb h.size) fun n s hn hp => ?_).trans (h.block b hb hl)
    rcases h.live n b s hn hp with h1 | ⟨m, s', h1, h2⟩
    · omega
    · exact hl m s' h1 h2
  · intro n b s hn hp
    rcases k.live n b s hn hp with h1 | ⟨m, s', h1, h2⟩
    · exact .inl (Nat.le_trans h.size h1)
    · exact h.live m b s' h1 h2
theorem Stp.sub (h : Stp ρ g nx w ρ' g' nx' w') (hs : ∀ n o, g1 n = some o → g' n = some o) : Stp ρ g nx w ρ' g1 nx' w' := by
  have hI : ∀ n, (g1 n).isSome = true → (g' n).isSome = true := fun n hn => by
    cases hg : g1 n with
    | none => rw [hg] at hn; cases hn
    | some o => rw [hs n o hg]; rfl
  exact ⟨h.hr.sub hs, h.ext, h.gr, h.os, h.tape, h.output, h.size, h.block, fun n b s hn => h.live n b s (hI n hn), fun n hn h1 => h.dom n hn (hI n h1)⟩
theorem Stp.drew (h : Stp ρ g nx { w with drawn := w.drawn + 1 } ρ' g' nx' w') : Stp ρ g nx w ρ' g' nx' w' :=
  ⟨h.hr, h.ext, h.gr, h.os, h.tape, h.output, h.size, h.block, h.live, h.dom⟩
/-- from fewer blocks known: the others stay -/
theorem Stp.frame {B : Nat → Option AO} (h0 : HR ρ B nx w) (hs : ∀ n o, g n = some o → B n = some o) (h : Stp ρ g nx w ρ' g' nx' w') (F : Nat → Option AO)
    (hF : ∀ n o, F n = some o → (B n = some o ∧ g n = none) ∨ g' n = some o) : Stp ρ B nx w ρ' F nx' w' := by
  have hm := h.mono (h0.sub hs)
  have hgB : ∀ n, (g n).isSome = true → (B n).isSome = true := fun n hn => by
    cases hg : g n with
    | none => rw [hg] at hn; cases hn
    | some o => rw [hs n o hg]; rfl
  have hkeep : ∀ n o b s, B n = some o → g n = none → ρ n = some (b, s) → w'.heap[b]? = w.heap[b]? ∧ b < w.heap.size := by
    intro n o b s hB hg hp
    obtain ⟨b', s', hp', hO⟩ := h0.obj n o hB
    rw [hp] at hp'
    cases hp'
    have hlt : b < w.heap.size := by
      rcases Nat.lt_or_ge b w.heap.size with hlt | hge
      · exact hlt
      · rw [Array.getElem?_eq_none hge] at hO
        cases o with
        | cells cs k e => obtain ⟨_, h1, _⟩ := hO; cases h1
        | map es bs ck => obtain ⟨_, h1, _⟩ := hO; cases h1
        | mit m since seen last => cases m with
          | none => cases hO
          | some m => obtain ⟨_, _, _, h1⟩ := hO; cases h1
        | opq i => obtain ⟨_, _, _, _, _, _, h1⟩ := hO; cases h1
        | opb i n m => obtain ⟨_, _, _, _, _, _, _, h1, _⟩ := hO; cases h1
        | recs l ks e => obtain ⟨_, h1, _⟩ := hO; cases h1
    refine ⟨h.block b hlt fun m s' hm' hp' => ?_, hlt⟩
    have := h0.inj n m b s s' (by rw [hB]; rfl) (hgB m hm') hp hp'
    subst this
    rw [hg] at hm'
    cases hm'
  refine ⟨⟨h.hr.fresh, ?_, ?_, h.hr.gl, fun b l hf n s hn hp => by
    obtain ⟨o, ho⟩ := Option.isSome_iff_exists.1 hn
    rcases hF n o ho with ⟨h1, h2⟩ | h1
    · obtain ⟨b1, s1, hp1, _⟩ := h0.obj n o h1
      have e1 := hm _ _ hp1
      rw [hp] at e1
      cases e1
      exact h0.gn b l hf n s (by rw [h1]; rfl) hp1
    · exact h.hr.gn b l hf n s (by rw [h1]; rfl) hp, h.hr.rl, fun b hb n s hn hp => by
    obtain ⟨o, ho⟩ := Option.isSome_iff_exists.1 hn
    rcases hF n o ho with ⟨h1, h2⟩ | h1
    · obtain ⟨b1, s1, hp1, _⟩ := h0.obj n o h1
      have e1 := hm _ _ hp1
      rw [hp] at e1
      cases e1
      exact h0.rn b hb n s (by rw [h1]; rfl) hp1
    · exact h.hr.rn b hb n s (by rw [h1]; rfl) hp⟩, h.ext, h.gr, h.os, h.tape, h.output, h.size, ?_, ?_, fun n hn hF1 => by
    obtain ⟨o, ho⟩ := Option.isSome_iff_exists.1 hF1
    rcases hF n o ho with ⟨h1, _⟩ | h1
    · rw [h1]; rfl
    · exact hgB n (h.dom n hn (by rw [h1]; rfl))⟩
  · intro n o hn
    rcases hF n o hn with ⟨h1, h2⟩ | h1
    · obtain ⟨b, s, hp, hO⟩ := h0.obj n o h1
      refine ⟨b, s, hm _ _ hp, ?_⟩
      rw [(hkeep n o b s h1 h2 hp).1]
      exact hO.mono hm
    · exact h.hr.obj n o h1
  · intro n m b s s' hn hm' hp hp'
    obtain ⟨o, ho⟩ := Option.isSome_iff_exists.1 hn
    obtain ⟨o', ho'⟩ := Option.isSome_iff_exists.1 hm'
    have cross : ∀ (n m : Nat) (o o' : AO) (s s' : Nat), B n = some o → g n = none → g' m = some o' → ρ' n = some (b, s) → ρ' m = some (b, s') → n = m := by
      intro n m o o' s s' h1 h2 h3 h4 h5
      obtain ⟨b1, s1, hp1, _⟩ := h0.obj n o h1
      have h6 := hm _ _ hp1
      rw [h4] at h6
      cases h6
      have hlt := (hkeep n o b s h1 h2 hp1).2
      rcases h.live m b s' (by rw [h3]; rfl) h5 with h7 | ⟨q, s2, h7, h8⟩
      · omega
      · have := h0.inj n q b s s2 (by rw [h1]; rfl) (hgB q h7) hp1 h8
        subst this
        rw [h2] at h7
        cases h7
    rcases hF n o ho with ⟨h1, h2⟩ | h1 <;> rcases hF m o' ho' with ⟨h3, h4⟩ | h3
    · obtain ⟨b1, s1, hp1, _⟩ := h0.obj n o h1
      obtain ⟨b2, s2, hp2, _⟩ := h0.obj m o' h3
      have e1 := hm _ _ hp1
      have e2 := hm _ _ hp2
      rw [hp] at e1
      rw [hp'] at e2
      cases e1
      cases e2
      exact h0.inj n m b s s' (by rw [h1]; rfl) (by rw [h3]; rfl) hp1 hp2
    · exact cross n m o o' s s' h1 h2 h3 hp hp'
    · exact (cross m n o' o s' s h3 h4 h1 hp' hp).symm
    · exact h.hr.inj n m b s s' (by rw [h1]; rfl) (by rw [h3]; rfl) hp hp'
  · intro b hb hl
    exact h.block b hb fun n s hn hp => hl n s (hgB n hn) hp
  · intro n b s hn hp
    obtain ⟨o, ho⟩ := Option.isSome_iff_exists.1 hn
    rcases hF n o ho with ⟨h1, h2⟩ | h1
    · obtain ⟨b1, s1, hp1, _⟩ := h0.obj n o h1
      have e1 := hm _ _ hp1
      rw [hp] at e1
      cases e1
      exact .inr ⟨n, s, by rw [h1]; rfl, hp1⟩
    · rcases h.live n b s (by rw [h1]; rfl) hp with h7 | ⟨q, s2, h7, h8⟩
      · exact .inl h7
      · exact .inr ⟨q, s2, hgB q h7, h8⟩

/-- a name is given -/
def upd (ρ : Ren) (n : Nat) (p : Nat × Nat) : Ren := fun m => if m = n then some p else ρ m
/-- a block is made, or a name's block is found anew: the old one, or a new one -/
theorem Stp.name (h : HR ρ g nx w) (n : Nat) (hn : ρ n = none) (nx' : Nat) (hnx : nx ≤ nx') (hlt : n < nx') (hb0 : nx ≤ n ∨ True) {b s : Nat} {o : AO} (hO : OR ρ o s w'.heap[b]?)
    (os : w'.os = w.os) (tape : w'.tape = w.tape) (output : w'.output = w.output) (size : w.heap.size ≤ w'.heap.size)
    (hk : ∀ c, c < w.heap.size → c ≠ b → w'.heap[c]? = w.heap[c]?)
    (hfree : ∀ m s', (g1 m).isSome = true → ρ m ≠ some (b, s')) (hown : w.heap.size ≤ b ∨ ∃ m s', (g m).isSome = true ∧ ρ m = some (b, s'))
    (hg1 : ∀ m o, g1 m = some o → g m = some o) (hg' : ∀ m o', g' m = some o' → (m = n ∧ o' = o) ∨ (m ≠ n ∧ g1 m = some o')) :
    HR (upd ρ n (b, s)) g' nx' w' ∧ (∀ m p, ρ m = some p → upd ρ n (b, s) m = some p) ∧ (nx ≤ n → Stp ρ g nx w (upd ρ n (b, s)) g' nx' w') := by
  have hm : ∀ m p, ρ m = some p → upd ρ n (b, s) m = some p := fun m p hp => by
    unfold upd
    rw [if_neg (fun he => by rw [he, hn] at hp; cases hp)]
    exact hp
  have hI : ∀ m, (g1 m).isSome = true → (g m).isSome = true := fun m hm' => by
    obtain ⟨o, ho⟩ := Option.isSome_iff_exists.1 hm'
    rw [hg1 m o ho]; rfl
  have hblk : ∀ m o' c s', g1 m = some o' → ρ m = some (c, s') → w'.heap[c]? = w.heap[c]? := by
    intro m o' c s' hgm hp
    obtain ⟨c1, s1, hp1, hO1⟩ := h.obj m o' (hg1 m o' hgm)
    rw [hp] at hp1
    cases hp1
    have hlt' : c < w.heap.size := by
      rcases Nat.lt_or_ge c w.heap.size with hlt | hge
      · exact hlt
      · rw [Array.getElem?_eq_none hge] at hO1
        cases o' with
        | cells cs k e => obtain ⟨_, h1, _⟩ := hO1; cases h1
        | map es bs ck => obtain ⟨_, h1, _⟩ := hO1; cases h1
        | mit m since seen last => cases m with
          | none => cases hO1
          | some m => obtain ⟨_, _, _, h1⟩ := hO1; cases h1
        | opq i => obtain ⟨_, _, _, _, _, _, h1⟩ := hO1; cases h1
        | opb i n m => obtain ⟨_, _, _, _, _, _, _, h1, _⟩ := hO1; cases h1
        | recs l ks e => obtain ⟨_, h1, _⟩ := hO1; cases h1
    exact hk c hlt' fun he => hfree m s' (by rw [hgm]; rfl) (by rw [hp, he])
  have hT := h.tables (w' := w') (g' := g') (ρ' := upd ρ n (b, s)) (fun c hc hl => hk c hc fun he => by
      rcases hown with h1 | ⟨m, s', h1, h2⟩
      · omega
      · exact hl m s' h1 (by rw [h2, he])) (fun m c s1 hs hp => by
    obtain ⟨o1, ho1⟩ := Option.isSome_iff_exists.1 hs
    rcases hg' m o1 ho1 with ⟨rfl, rfl⟩ | ⟨hne, h3⟩
    · simp only [upd, if_true] at hp
      cases hp
      exact hown
    · simp only [upd, if_neg hne] at hp
      exact .inr ⟨m, s1, hI m (by rw [h3]; rfl), hp⟩)
  have hr : HR (upd ρ n (b, s)) g' nx' w' := by
    refine ⟨?_, ?_, ?_, hT.1, hT.2.1, hT.2.2.1, hT.2.2.2⟩
    · intro m hm'
      unfold upd
      rw [if_neg (by omega)]
      exact h.fresh m (by omega)
    · intro m o' ho'
      rcases hg' m o' ho' with ⟨rfl, rfl⟩ | ⟨hne, h1⟩
      · exact ⟨b, s, by simp [upd], hO.mono hm⟩
      · obtain ⟨c, s', hp, hO1⟩ := h.obj m o' (hg1 m o' h1)
        refine ⟨c, s', hm _ _ hp, ?_⟩
        rw [hblk m o' c s' h1 hp]
        exact hO1.mono hm
    · intro m q c s1 s2 h1 h2 hp hq
      obtain ⟨o1, ho1⟩ := Option.isSome_iff_exists.1 h1
      obtain ⟨o2, ho2⟩ := Option.isSome_iff_exists.1 h2
      rcases hg' m o1 ho1 with ⟨rfl, rfl⟩ | ⟨hne, h3⟩ <;> rcases hg' q o2 ho2 with ⟨rfl, rfl⟩ | ⟨hne', h4⟩
      · rfl
      · simp only [upd, if_true] at hp
        cases hp
        simp only [upd, if_neg hne'] at hq
        exact absurd hq (hfree q s2 (by rw [h4]; rfl))
      · simp only [upd, if_true] at hq
        cases hq
        simp only [upd, if_neg hne] at hp
        exact absurd hp (hfree m s1 (by rw [h3]; rfl))
      · simp only [upd, if_neg hne] at hp
        simp only [upd, if_neg hne'] at hq
        exact h.inj m q c s1 s2 (hI m (by rw [h3]; rfl)) (hI q (by rw [h4]; rfl)) hp hq
  refine ⟨hr, hm, fun hge => ⟨hr, fun m hm' => ?_, hnx, os, tape, output, size, ?_, ?_, fun m hm' h1 => by
    obtain ⟨o', ho'⟩ := Option.isSome_iff_exists.1 h1
    rcases hg' m o' ho' with ⟨rfl, _⟩ | ⟨_, h3⟩
    · omega
    · exact hI m (by rw [h3]; rfl)⟩⟩
  · unfold upd
    rw [if_neg (by omega)]
  · intro c hc hl
    refine hk c hc fun he => ?_
    rcases hown with h1 | ⟨m, s', h1, h2⟩
    · omega
    · exact hl m s' h1 (by rw [h2, he])
  · intro m c s1 hs hp
    obtain ⟨o1, ho1⟩ := Option.isSome_iff_exists.1 hs
    rcases hg' m o1 ho1 with ⟨rfl, rfl⟩ | ⟨hne, h3⟩
    · simp only [upd, if_true] at hp
      cases hp
      exact hown
    · simp only [upd, if_neg hne] at hp
      exact .inr ⟨m, s1, hI m (by rw [h3]; rfl), hp⟩
/-- a block is made, under a name that was kept for it -/
theorem Stp.kept {ρ0 : Ren} {g0 : Nat → Option AO} {n0 : Nat} {w0 : World} (h : Stp ρ0 g0 n0 w0 ρ g nx w) (n : Nat) (hn : ρ n = none) (hge : n0 ≤ n) (hlt : n < nx) {s : Nat} {o : AO} {obj : Obj} (hO : OR ρ o s (some obj))
    (hw : w'.heap = w.heap.push obj) (os : w'.os = w.os) (tape : w'.tape = w.tape) (output : w'.output = w.output)
    (hg' : ∀ m o', g' m = some o' → (m = n ∧ o' = o) ∨ (m ≠ n ∧ g m = some o')) :
    Stp ρ0 g0 n0 w0 (upd ρ n (w.heap.size, s)) g' nx w' ∧ (∀ m p, ρ m = some p → upd ρ n (w.heap.size, s) m = some p) := by
  have hfree : ∀ m s', (g m).isSome = true → ρ m ≠ some (w.heap.size, s') := by
    intro m s' hm hp
    obtain ⟨o', ho'⟩ := Option.isSome_iff_exists.1 hm
    obtain ⟨b, s1, hb, hO1⟩ := h.hr.obj m o' ho'
    rw [hp] at hb
    cases hb
    rw [Array.getElem?_eq_none (Nat.le_refl _)] at hO1
    cases o' with
    | cells cs k e => obtain ⟨_, h1, _⟩ := hO1; cases h1
    | map es bs ck => obtain ⟨_, h1, _⟩ := hO1; cases h1
    | mit m since seen last => cases m with
      | none => cases hO1
      | some m => obtain ⟨_, _, _, h1⟩ := hO1; cases h1
    | opq i => obtain ⟨_, _, _, _, _, _, h1⟩ := hO1; cases h1
    | opb i n m => obtain ⟨_, _, _, _, _, _, _, h1, _⟩ := hO1; cases h1
    | recs l ks e => obtain ⟨_, h1, _⟩ := hO1; cases h1
  have hold : ∀ c, c < w.heap.size → w'.heap[c]? = w.heap[c]? := fun c hc => by rw [hw, Array.getElem?_push_lt hc, Array.getElem?_eq_getElem hc]
  obtain ⟨hr, hm, _⟩ := Stp.name (g1 := g) (g' := g') (o := o) (w' := w') h.hr n hn nx (Nat.le_refl _) hlt (.inr trivial) (b := w.heap.size) (s := s) (by rw [hw]; simpa using hO) os tape output (by rw [hw]; simp)
    (fun c hc _ => hold c hc) hfree (.inl (Nat.le_refl _)) (fun _ _ h => h) hg'
  refine ⟨⟨hr, fun m hm' => ?_, h.gr, os.trans h.os, tape.trans h.tape, output.trans h.output, by rw [hw]; simp; exact Nat.le_succ_of_le h.size, ?_, ?_, ?_⟩, hm⟩
  · unfold upd
    rw [if_neg (by omega)]
    exact h.ext m hm'
  · intro b hb hl
    rw [hold b (Nat.lt_of_lt_of_le hb h.size)]
    exact h.block b hb hl
  · intro m c s1 hs hp
    obtain ⟨o1, ho1⟩ := Option.isSome_iff_exists.1 hs
    rcases hg' m o1 ho1 with ⟨rfl, rfl⟩ | ⟨hne, h3⟩
    · simp only [upd, if_true] at hp
      cases hp
      exact .inl h.size
    · simp only [upd, if_neg hne] at hp
      exact h.live m c s1 (by rw [h3]; rfl) hp
  · intro m hm' h1
    obtain ⟨o1, ho1⟩ := Option.isSome_iff_exists.1 h1
    rcases hg' m o1 ho1 with ⟨rfl, _⟩ | ⟨_, h3⟩
    · omega
    · exact h.dom m hm' (by rw [h3]; rfl)
/-- a block is changed -/
theorem Stp.change (h : HR ρ g nx w) {n b s : Nat} (hn : (g n).isSome = true) (hp : ρ n = some (b, s)) {o : AO} (hO : OR ρ o s w'.heap[b]?)
    (os : w'.os = w.os) (tape : w'.tape = w.tape) (output : w'.output = w.output) (size : w.heap.size ≤ w'.heap.size)
    (hk : ∀ c, c < w.heap.size → c ≠ b → w'.heap[c]? = w.heap[c]?)
    (hg' : ∀ m o', g' m = some o' → (m = n ∧ o' = o) ∨ (m ≠ n ∧ g m = some o')) : Stp ρ g nx w ρ g' nx w' := by
  have hI : ∀ m, (g' m).isSome = true → (g m).isSome = true := fun m hm => by
    obtain ⟨o', ho'⟩ := Option.isSome_iff_exists.1 hm
    rcases hg' m o' ho' with ⟨rfl, rfl⟩ | ⟨_, h1⟩
    · exact hn
    · rw [h1]; rfl
  have hT := h.tables (w' := w') (g' := g') (ρ' := ρ) (fun c hc hl => hk c hc fun he => hl n s hn (by rw [hp, he])) (fun m c s1 hm hq => .inr ⟨m, s1, hI m hm, hq⟩)
  refine ⟨⟨h.fresh, ?_, fun m q c s1 s2 h1 h2 => h.inj m q c s1 s2 (hI m h1) (hI q h2), hT.1, hT.2.1, hT.2.2.1, hT.2.2.2⟩, fun _ _ => rfl, Nat.le_refl _, os, tape, output, size, ?_, fun m c s1 hm hq => .inr ⟨m, s1, hI m hm, hq⟩, fun m _ h1 => hI m h1⟩
  · intro m o' ho'
    rcases hg' m o' ho' with ⟨rfl, rfl⟩ | ⟨hne, h1⟩
    · exact ⟨b, s, hp, hO⟩
    · obtain ⟨c, s', hq, hO1⟩ := h.obj m o' h1
      refine ⟨c, s', hq, ?_⟩
      have hlt' : c < w.heap.size := by
        rcases Nat.lt_or_ge c w.heap.size with hlt | hge
        · exact hlt
        · rw [Array.getElem?_eq_none hge] at hO1
          cases o' with
          | cells cs k e => obtain ⟨_, h1, _⟩ := hO1; cases h1
          | map es bs ck => obtain ⟨_, h1, _⟩ := hO1; cases h1
          | mit m since seen last => cases m with
            | none => cases hO1
            | some m => obtain ⟨_, _, _, h1⟩ := hO1; cases h1
          | opq i => obtain ⟨_, _, _, _, _, _, h1⟩ := hO1; cases h1
          | opb i n m => obtain ⟨_, _, _, _, _, _, _, h1, _⟩ := hO1; cases h1
          | recs l ks e => obtain ⟨_, h1, _⟩ := hO1; cases h1
      rw [hk c hlt' fun he => hne (h.inj m n c s' s (by rw [h1]; rfl) hn hq (by rw [hp, he]))]
      exact hO1
  · intro c hc hl
    exact hk c hc fun he => hl n s hn (by rw [hp, he])
end
end Go.Proofs.YthjjpmoifgcepaaGreat.Ex

/-
  The runner: an operation that looks at no memory gives what the model gives. No condition.
-/
namespace Go.Proofs.YthjjpmoifgcepaaGreat.Ex
open Go
variable [Nums]
section
variable {P : Program} {ρ : Ren}
omit [Nums] in
theorem aggT_run {t : TypeId} {b : Bool} (h : aggT P t = some b) (w : World) : (isAgg t).run P w = .ok b w := by
  unfold aggT at h
  unfold isAgg
  split at h
  · rename_i hu; rw [Sem.run_bind, run_underlying hu w]; cases h; rfl
  · rename_i hu; rw [Sem.run_bind, run_underlying hu w]; cases h; rfl
  · rename_i d h1 h2 hu
    rw [Sem.run_bind, run_underlying hu w]
    cases h
    cases d <;> first | rfl | (exact absurd rfl (h1 _)) | (exact absurd rfl (h2 _ _))
  · cases h
omit [Nums] in
theorem sizeT_run {t : TypeId} {s : Nat} (h : sizeT P t = some s) (w : World) : (sizeOf t).run P w = .ok s w := by
  unfold sizeT at h
  split at h
  · rename_i i hi
    cases h
    simp [sizeOf, typeInfo, hi]
  · cases h
omit [Nums] in
theorem sizeT_info {t : TypeId} {s : Nat} (h : sizeT P t = some s) : (P.info? t).map (·.size) = some s := by
  unfold sizeT at h
  split at h
  · rename_i i hi
    cases h
    simp [hi]
  · cases h
omit [Nums] in
theorem zeroT_run {t : TypeId} {z : AV} (h : zeroT P t = some z) : ∃ i v, P.info? t = some i ∧ i.zero = some v ∧ ofV v = some z ∧ ∀ w, (zeroValue t).run P w = .ok v w := by
  unfold zeroT at h
  split at h
  · rename_i i hi
    split at h
    · rename_i v hv
      exact ⟨i, v, hi, hv, h, fun w => by simp [zeroValue, typeInfo, hi, hv]⟩
    · cases h
  · cases h
omit [Nums] in
theorem extract_list (a : Array Value) (i j : Nat) : (a.extract i j).toList = (a.toList.drop i).take (j - i) := by
  simp [List.extract_eq_take_drop]
theorem part_sound {t : TypeId} {cs : List AV} {off : Nat} {v : AV} {a : Array Value} (h : part P t cs off = some v) (hv : VRs ρ cs a.toList) :
    ∃ x, VR ρ v x ∧ ∀ w, (Go.part t a off).run P w = .ok x w := by
  unfold part at h
  split at h
  · rename_i hagg
    split at h
    · rename_i s hs
      simp only [Option.some.injEq] at h
      subst h
      refine ⟨.agg (a.extract off (off + s)), ?_, fun w => ?_⟩
      · unfold VR
        refine ⟨_, rfl, ?_⟩
        rw [extract_list, show off + s - off = s from by omega]
        exact (hv.drop off).take s
      · simp [Go.part, aggT_run hagg w, sizeT_run hs w]
    · cases h
  · rename_i hagg
    obtain ⟨x, hx, hr⟩ := hv.get h
    refine ⟨x, hr, fun w => ?_⟩
    rw [Array.getElem?_toList] at hx
    simp [Go.part, aggT_run hagg w, hx]
  · cases h
theorem abin_run {op : BinOp} {k : IntKind} {x y : Int} {v : AV} (h : abin op k x y = some v) (hs : op ≠ .shl) (hs' : op ≠ .shr) (t : TypeId) : ∃ u, VR ρ v u ∧ ∀ w, (binOp op t (.int k x) (.int k y)).run P w = .ok u w := by
  cases op <;> simp only [abin] at h <;> first
    | (exact absurd rfl hs)
    | (exact absurd rfl hs')
    | (simp only [Option.some.injEq] at h; subst h
       refine ⟨_, by unfold VR; rfl, fun w => ?_⟩
       simp [binOp, Op.intArith, Op.intBits, Op.intCmp])
    | (split at h
       · cases h
       · rename_i hd
         simp only [Option.some.injEq] at h; subst h
         have hy : ¬ y = 0 := by simpa using hd
         refine ⟨_, by unfold VR; rfl, fun w => ?_⟩
         simp [binOp, Op.intDiv, hy])
    | (cases h)
theorem ashift_run {op : BinOp} {k k' : IntKind} {x y : Int} {v : AV} (h : ashift op k x y = some v) (t : TypeId) : ∃ u, VR ρ v u ∧ ∀ w, (binOp op t (.int k x) (.int k' y)).run P w = .ok u w := by
  unfold ashift at h
  split at h
  · cases h
  · rename_i hd
    have hy : ¬ y < 0 := by simpa using hd
    split at h
    · simp only [Option.some.injEq] at h; subst h
      refine ⟨_, by unfold VR; rfl, fun w => ?_⟩
      simp only [binOp, Op.shift, hy, if_false]
      rfl
    · simp only [Option.some.injEq] at h; subst h
      refine ⟨_, by unfold VR; rfl, fun w => ?_⟩
      simp only [binOp, Op.shift, hy, if_false]
      rfl
    · cases h
/-! numbers that are not known -/
omit [Nums] in
theorem SO.beq_eq : ∀ {a b : SO}, SO.beq a b = true → a = b := by
  intro a b h
  cases a <;> cases b <;> first | rfl | cases h
omit [Nums] in
theorem SE.beq_eq : ∀ {a b : SE}, SE.beq a b = true → a = b
  | .var i, b, h => by cases b <;> simp [SE.beq] at h; rw [h]
  | .lit n, b, h => by cases b <;> simp [SE.beq] at h; rw [h]
  | .bin o x y, b, h => by
    cases b <;> simp [SE.beq] at h
    rw [SO.beq_eq h.1, SE.beq_eq h.2.1, SE.beq_eq h.2.2]
  | .ubin o x y, b, h => by
    cases b <;> simp [SE.beq] at h
    rw [SO.beq_eq h.1, SE.beq_eq h.2.1, SE.beq_eq h.2.2]
  | .cv k x, b, h => by
    cases b <;> simp [SE.beq] at h
    rw [h.1, SE.beq_eq h.2]
  | .lvar i, b, h => by cases b <;> simp [SE.beq] at h; rw [h]
  | .lset l e j v, b, h => by
    cases b <;> simp [SE.beq] at h
    rw [SE.beq_eq h.1.1, SE.beq_eq h.1.2, h.2.1, SE.beq_eq h.2.2]
  | .lsnoc l r, b, h => by
    cases b <;> simp [SE.beq] at h
    rw [SE.beq_eq h.1, SE.beq_eq h.2]
  | .rnil, b, h => by cases b <;> simp [SE.beq] at h; rfl
  | .rep a, b, h => by
    cases b <;> simp [SE.beq] at h
    rw [SE.beq_eq h]
  | .rcons v r, b, h => by
    cases b <;> simp [SE.beq] at h
    rw [SE.beq_eq h.1, SE.beq_eq h.2]
  | .at l e j, b, h => by
    cases b <;> simp [SE.beq] at h
    rw [SE.beq_eq h.1, SE.beq_eq h.2.1, h.2.2]
  | .len l, b, h => by
    cases b <;> simp [SE.beq] at h
    rw [SE.beq_eq h]
omit [Nums] in
theorem Cnd.beq_eq : ∀ {a b : Cnd}, Cnd.beq a b = true → a = b
  | .lt a b, c, h => by
    cases c <;> simp [Cnd.beq] at h
    rw [SE.beq_eq h.1, SE.beq_eq h.2]
  | .eq a b, c, h => by
    cases c <;> simp [Cnd.beq] at h
    rw [SE.beq_eq h.1, SE.beq_eq h.2]
omit [Nums] in
theorem findLt_ok {σ : Nat → Int} {a b : SE} : ∀ {l : List (Cnd × Bool)} {r : Bool}, (∀ f ∈ l, f.1.ev σ = f.2) → findLt a b l = some r → decide (a.ev σ < b.ev σ) = r
  | [], r, _, h => by simp [findLt] at h
  | (.lt x y, q) :: l, r, hl, h => by
    unfold findLt at h
    split at h
    · rename_i hb
      rw [Bool.and_eq_true] at hb
      have e1 := SE.beq_eq hb.1
      have e2 := SE.beq_eq hb.2
      subst e1; subst e2
      cases h
      exact hl _ List.mem_cons_self
    · exact findLt_ok (fun f hf => hl f (List.mem_cons_of_mem _ hf)) h
  | (.eq x y, q) :: l, r, hl, h => by
    unfold findLt at h
    exact findLt_ok (fun f hf => hl f (List.mem_cons_of_mem _ hf)) h
omit [Nums] in
theorem findEq_ok {σ : Nat → Int} {a b : SE} : ∀ {l : List (Cnd × Bool)} {r : Bool}, (∀ f ∈ l, f.1.ev σ = f.2) → findEq a b l = some r → (a.ev σ == b.ev σ) = r
  | [], r, _, h => by simp [findEq] at h
  | (.eq x y, q) :: l, r, hl, h => by
    unfold findEq at h
    split at h
    · rename_i hb
      rw [Bool.and_eq_true] at hb
      have e1 := SE.beq_eq hb.1
      have e2 := SE.beq_eq hb.2
      subst e1; subst e2
      cases h
      exact hl _ List.mem_cons_self
    · exact findEq_ok (fun f hf => hl f (List.mem_cons_of_mem _ hf)) h
  | (.lt x y, q) :: l, r, hl, h => by
    unfold findEq at h
    exact findEq_ok (fun f hf => hl f (List.mem_cons_of_mem _ hf)) h
omit [Nums] in
theorem lowOf_ok {σ : Nat → Int} {a : SE} : ∀ (l : List (Cnd × Bool)) (m : Int), (∀ f ∈ l, f.1.ev σ = f.2) → lowOf a l = some m → m ≤ a.ev σ := by
  intro l
  induction l with
  | nil => intro m _ h; simp [lowOf] at h
  | cons f l ih =>
    intro m hl h
    have hl' : ∀ f ∈ l, f.1.ev σ = f.2 := fun f hf => hl f (List.mem_cons_of_mem _ hf)
    have h0 := hl f List.mem_cons_self
    unfold lowOf at h
    split at h
    · cases h
    · rename_i x n l' he
      cases he
      split at h
      · rename_i hb
        have e1 := SE.beq_eq hb
        subst e1
        have h1 : ¬ x.ev σ < n := of_decide_eq_false (show decide (x.ev σ < n) = false from h0)
        split at h
        · cases h; omega
        · rename_i q hq
          have h2 := ih _ hl' hq
          cases h
          split <;> omega
      · exact ih _ hl' h
    · rename_i n x l' he
      cases he
      split at h
      · rename_i hb
        have e1 := SE.beq_eq hb
        subst e1
        have h1 : n < x.ev σ := of_decide_eq_true (show decide (n < x.ev σ) = true from h0)
        split at h
        · cases h; omega
        · rename_i q hq
          have h2 := ih _ hl' hq
          cases h
          split <;> omega
      · exact ih _ hl' h
    · rename_i x n l' he
      cases he
      split at h
      · rename_i hb
        have e1 := SE.beq_eq hb
        subst e1
        have h1 : x.ev σ = n := eq_of_beq (show (x.ev σ == n) = true from h0)
        cases h
        omega
      · exact ih _ hl' h
    · rename_i q l' _ _ _ he
      cases he
      exact ih _ hl' h
omit [Nums] in
theorem highOf_ok {σ : Nat → Int} {a : SE} : ∀ (l : List (Cnd × Bool)) (m : Int), (∀ f ∈ l, f.1.ev σ = f.2) → highOf a l = some m → a.ev σ ≤ m := by
  intro l
  induction l with
  | nil => intro m _ h; simp [highOf] at h
  | cons f l ih =>
    intro m hl h
    have hl' : ∀ f ∈ l, f.1.ev σ = f.2 := fun f hf => hl f (List.mem_cons_of_mem _ hf)
    have h0 := hl f List.mem_cons_self
    unfold highOf at h
    split at h
    · cases h
    · rename_i x n l' he
      cases he
      split at h
      · rename_i hb
        have e1 := SE.beq_eq hb
        subst e1
        have h1 : x.ev σ < n := of_decide_eq_true (show decide (x.ev σ < n) = true from h0)
        split at h
        · cases h; omega
        · rename_i q hq
          have h2 := ih _ hl' hq
          cases h
          split <;> omega
      · exact ih _ hl' h
    · rename_i n x l' he
      cases he
      split at h
      · rename_i hb
        have e1 := SE.beq_eq hb
        subst e1
        have h1 : ¬ n < x.ev σ := of_decide_eq_false (show decide (n < x.ev σ) = false from h0)
        split at h
        · cases h; omega
        · rename_i q hq
          have h2 := ih _ hl' hq
          cases h
          split <;> omega
      · exact ih _ hl' h
    · rename_i x n l' he
      cases he
      split at h
      · rename_i hb
        have e1 := SE.beq_eq hb
        subst e1
        have h1 : x.ev σ = n := eq_of_beq (show (x.ev σ == n) = true from h0)
        cases h
        omega
      · exact ih _ hl' h
    · rename_i q l' _ _ _ he
      cases he
      exact ih _ hl' h
omit [Nums] in
theorem inI64_ok {lo hi a b x : Int} (h : inI64 lo hi = some (a, b)) (h1 : lo ≤ x) (h2 : x ≤ hi) : a ≤ IntKind.i64.wrap x ∧ IntKind.i64.wrap x ≤ b := by
  unfold inI64 at h
  split at h <;> first | (cases h; done) | skip
  rename_i hc
  rw [Bool.and_eq_true] at hc
  have c1 := of_decide_eq_true hc.1
  have c2 := of_decide_eq_true hc.2
  cases h
  rw [IntKind.wrap_i64]
  omega
omit [Nums] in
theorem ivAt_ok {σ : Nat → Int} {l : List (Cnd × Bool)} (hl : ∀ f ∈ l, f.1.ev σ = f.2) {e : SE} {lo hi : Int} (h : ivAt l e = some (lo, hi)) : lo ≤ e.ev σ ∧ e.ev σ ≤ hi := by
  unfold ivAt at h
  split at h <;> first | (cases h; done) | skip
  rename_i m hm
  split at h <;> first | (cases h; done) | skip
  rename_i q hq
  cases h
  exact ⟨lowOf_ok l _ hl hm, highOf_ok l _ hl hq⟩
omit [Nums] in
theorem ivOf_ok {σ : Nat → Int} {l : List (Cnd × Bool)} (hl : ∀ f ∈ l, f.1.ev σ = f.2) : ∀ {e : SE} {lo hi : Int}, ivOf l e = some (lo, hi) → lo ≤ e.ev σ ∧ e.ev σ ≤ hi
  | .lit n, lo, hi, h => by
    simp only [ivOf, Option.some.injEq, Prod.mk.injEq] at h
    obtain ⟨rfl, rfl⟩ := h
    exact ⟨Int.le_refl _, Int.le_refl _⟩
  | .var i, lo, hi, h => by
    unfold ivOf at h
    exact ivAt_ok hl h
  | .at _ _ _, lo, hi, h => by
    unfold ivOf at h
    exact ivAt_ok hl h
  | .len _, lo, hi, h => by
    unfold ivOf at h
    exact ivAt_ok hl h
  | .cv k a, lo, hi, h => by
    unfold ivOf at h
    split at h
    · split at h <;> first | (cases h; done) | skip
      rename_i la ha hia
      split at h <;> first | (cases h; done) | skip
      rename_i hc
      have hc := of_decide_eq_true hc
      obtain ⟨k1, k2⟩ := ivOf_ok hl hia
      obtain ⟨r1, r2⟩ := inI64_ok h k1 k2
      have e1 : IntKind.i64.wrap (a.ev σ) = a.ev σ ∧ 0 ≤ a.ev σ ∧ a.ev σ ≤ 9223372036854775807 := by
        unfold inI64 at h
        split at h <;> first | (cases h; done) | skip
        rename_i hd
        rw [Bool.and_eq_true] at hd
        have c1 := of_decide_eq_true hd.1
        have c2 := of_decide_eq_true hd.2
        rw [IntKind.wrap_i64]
        omega
      have e2 : IntKind.u64.wrap (a.ev σ) = a.ev σ := by
        simp only [IntKind.wrap, IntKind.signed, IntKind.bits, Bool.false_and, Bool.false_eq_true, if_false]
        omega
      simp only [SE.ev]
      rw [e2]
      rw [e1.1] at r1 r2
      exact ⟨r1, r2⟩
    · split at h <;> first | (cases h; done) | skip
      rename_i la ha hia
      obtain ⟨k1, k2⟩ := ivOf_ok hl hia
      simp only [SE.ev]
      exact inI64_ok h k1 k2
    · cases h
  | .bin o a b, lo, hi, h => by
    unfold ivOf at h
    split at h <;> first | (cases h; done) | skip
    rename_i la ha hia
    split at h <;> first | (cases h; done) | skip
    rename_i lb hb hib
    have k1 := ivOf_ok hl hia
    have k2 := ivOf_ok hl hib
    cases o with
    | add => exact inI64_ok h (by omega) (by omega)
    | sub => exact inI64_ok h (by omega) (by omega)
    | mul =>
      dsimp only at h
      split at h <;> first | (cases h; done) | skip
      rename_i hc
      rw [Bool.and_eq_true] at hc
      have c1 := of_decide_eq_true hc.1
      have c2 := of_decide_eq_true hc.2
      refine inI64_ok h ?_ ?_
      · exact Int.mul_le_mul k1.1 k2.1 c2 (by omega)
      · exact Int.mul_le_mul k1.2 k2.2 (by omega) (by omega)
    | quo =>
      dsimp only at h
      split at h <;> first | (cases h; done) | skip
      rename_i hc
      rw [Bool.and_eq_true] at hc
      have c1 := of_decide_eq_true hc.1
      have c2 := of_decide_eq_true hc.2
      simp only [SE.ev]
      refine inI64_ok h ?_ ?_
      · exact Int.tdiv_nonneg (by omega) (by omega)
      · refine Int.le_trans ?_ k1.2
        rw [Int.tdiv_eq_ediv_of_nonneg (by omega)]
        exact Int.ediv_le_self _ (by omega)
    | rem =>
      dsimp only at h
      split at h <;> first | (cases h; done) | skip
      rename_i hc
      rw [Bool.and_eq_true] at hc
      have c1 := of_decide_eq_true hc.1
      have c2 := of_decide_eq_true hc.2
      simp only [SE.ev]
      unfold inI64 at h
      split at h <;> first | (cases h; done) | skip
      cases h
      rw [Int.tmod_eq_emod_of_nonneg (by omega)]
      have h1 := Int.emod_nonneg (a.ev σ) (show b.ev σ ≠ 0 by omega)
      have h2 := Int.emod_lt_of_pos (a.ev σ) (show 0 < b.ev σ by omega)
      exact ⟨h1, by omega⟩
  | .ubin _ _ _, lo, hi, h => by simp [ivOf] at h
  | .lvar _, lo, hi, h => by simp [ivOf] at h
  | .lset _ _ _ _, lo, hi, h => by simp [ivOf] at h
  | .lsnoc _ _, lo, hi, h => by simp [ivOf] at h
  | .rnil, lo, hi, h => by simp [ivOf] at h
  | .rep _, lo, hi, h => by simp [ivOf] at h
  | .rcons _ _, lo, hi, h => by simp [ivOf] at h
theorem askLt_ok {a b : SE} {r : Bool} (h : askLt a b = some r) : decide (a.ev Nums.σ < b.ev Nums.σ) = r := by
  unfold askLt at h
  split at h
  · rename_i hb
    have e1 := SE.beq_eq hb
    subst e1
    cases h
    simp
  · split at h
    · rename_i q hq
      cases h
      exact findLt_ok Nums.ok hq
    · split at h <;> first | (cases h; done) | skip
      rename_i la ha hia
      split at h <;> first | (cases h; done) | skip
      rename_i lb hb hib
      have k1 := ivOf_ok Nums.ok hia
      have k2 := ivOf_ok Nums.ok hib
      split at h
      · rename_i hc
        have := of_decide_eq_true hc
        cases h
        exact decide_eq_true (by omega)
      · split at h <;> first | (cases h; done) | skip
        rename_i hc
        have := of_decide_eq_true hc
        cases h
        exact decide_eq_false (by omega)
theorem askEq_ok {a b : SE} {r : Bool} (h : askEq a b = some r) : (a.ev Nums.σ == b.ev Nums.σ) = r := by
  unfold askEq at h
  split at h
  · rename_i hb
    have e1 := SE.beq_eq hb
    subst e1
    cases h
    simp
  · split at h
    · rename_i q hq
      cases h
      exact findEq_ok Nums.ok hq
    · split at h <;> first | (cases h; done) | skip
      rename_i la ha hia
      split at h <;> first | (cases h; done) | skip
      rename_i lb hb hib
      have k1 := ivOf_ok Nums.ok hia
      have k2 := ivOf_ok Nums.ok hib
      split at h <;> first | (cases h; done) | skip
      rename_i hc
      cases h
      rw [beq_eq_false_iff_ne]
      rw [Bool.or_eq_true] at hc
      rcases hc with hc | hc
      · have := of_decide_eq_true hc; omega
      · have := of_decide_eq_true hc; omega
theorem askC_ok {c : Cnd} {r : Bool} (h : askC c = some r) : c.ev Nums.σ = r := by
  cases c with
  | lt a b => exact askLt_ok h
  | eq a b => exact askEq_ok h
theorem within_ok {e n : SE} (h : within e n = true) : 0 ≤ e.ev Nums.σ ∧ e.ev Nums.σ < n.ev Nums.σ := by
  unfold within at h
  split at h <;> first | (cases h; done) | skip
  rename_i h0
  split at h <;> first | (cases h; done) | skip
  rename_i h1
  have h0 := of_decide_eq_false (askLt_ok h0)
  have h1 := of_decide_eq_true (askLt_ok h1)
  simp only [SE.ev] at h0
  exact ⟨by omega, h1⟩
theorem litOf_ok {e : SE} {i : Int} (h : litOf e = some i) : e.ev Nums.σ = i := by
  unfold litOf at h
  split at h <;> first | (cases h; done) | skip
  rename_i lo hi hv
  split at h <;> first | (cases h; done) | skip
  rename_i hb
  have hb := eq_of_beq hb
  cases h
  have := ivOf_ok Nums.ok hv
  omega
theorem toSE_ok {x : AV} {k : IntKind} {a : SE} {u : Value} (h : toSE x = some (k, a)) (hx : VR ρ x u) : u = .int k (a.ev Nums.σ) := by
  unfold toSE at h
  split at h
  · cases h
    unfold VR at hx
    exact hx
  · cases h
    unfold VR at hx
    exact hx
  · cases h
omit [Nums] in
theorem le_not (x y : Int) : decide (x ≤ y) = !decide (y < x) := by
  by_cases h : y < x <;> simp [h] <;> omega
theorem symOp_run {op : BinOp} {x y v : AV} {u1 u2 : Value} (h : symOp op x y = some v) (hx : VR ρ x u1) (hy : VR ρ y u2) (t : TypeId) : ∃ u, VR ρ v u ∧ (∃ k a b, u1 = .int k a ∧ u2 = .int k b) ∧ ∀ w, (binOp op t u1 u2).run P w = .ok u w := by
  unfold symOp at h
  split at h <;> first | (cases h; done) | skip
  rename_i k a h1
  split at h <;> first | (cases h; done) | skip
  rename_i k' b h2
  have e1 := toSE_ok h1 hx
  have e2 := toSE_ok h2 hy
  subst e1; subst e2
  split at h <;> first | (cases h; done) | skip
  rename_i hk
  have hk := of_decide_eq_true hk
  subst hk
  split at h
  · split at h
    · rename_i hk
      have hk := of_decide_eq_true hk
      subst hk
      cases h
      exact ⟨_, by unfold VR; rfl, ⟨_, _, _, rfl, rfl⟩, fun w => by simp [binOp, Op.intArith, SE.ev]⟩
    · split at h <;> first | (cases h; done) | skip
      rename_i hk
      have hk := of_decide_eq_true hk
      subst hk
      cases h
      exact ⟨_, by unfold VR; rfl, ⟨_, _, _, rfl, rfl⟩, fun w => by simp [binOp, Op.intArith, SE.ev]⟩
  · split at h
    · rename_i hk
      have hk := of_decide_eq_true hk
      subst hk
      cases h
      exact ⟨_, by unfold VR; rfl, ⟨_, _, _, rfl, rfl⟩, fun w => by simp [binOp, Op.intArith, SE.ev]⟩
    · split at h <;> first | (cases h; done) | skip
      rename_i hk
      have hk := of_decide_eq_true hk
      subst hk
      cases h
      exact ⟨_, by unfold VR; rfl, ⟨_, _, _, rfl, rfl⟩, fun w => by simp [binOp, Op.intArith, SE.ev]⟩
  · split at h
    · rename_i hk
      have hk := of_decide_eq_true hk
      subst hk
      cases h
      exact ⟨_, by unfold VR; rfl, ⟨_, _, _, rfl, rfl⟩, fun w => by simp [binOp, Op.intArith, SE.ev]⟩
    · split at h <;> first | (cases h; done) | skip
      rename_i hk
      have hk := of_decide_eq_true hk
      subst hk
      cases h
      exact ⟨_, by unfold VR; rfl, ⟨_, _, _, rfl, rfl⟩, fun w => by simp [binOp, Op.intArith, SE.ev]⟩
  · split at h <;> first | (cases h; done) | skip
    rename_i hk
    have hk := of_decide_eq_true hk
    subst hk
    split at h <;> first | (cases h; done) | skip
    rename_i hr
    have hn : b.ev Nums.σ ≠ 0 := fun h0 => by
      have := askEq_ok hr
      rw [h0] at this
      simp [SE.ev] at this
    cases h
    exact ⟨_, by unfold VR; rfl, ⟨_, _, _, rfl, rfl⟩, fun w => by simp [binOp, Op.intDiv, SE.ev, hn]⟩
  · split at h <;> first | (cases h; done) | skip
    rename_i hk
    have hk := of_decide_eq_true hk
    subst hk
    split at h <;> first | (cases h; done) | skip
    rename_i hr
    have hn : b.ev Nums.σ ≠ 0 := fun h0 => by
      have := askEq_ok hr
      rw [h0] at this
      simp [SE.ev] at this
    cases h
    exact ⟨_, by unfold VR; rfl, ⟨_, _, _, rfl, rfl⟩, fun w => by simp [binOp, Op.intDiv, SE.ev, hn]⟩
  · split at h <;> first | (cases h; done) | skip
    rename_i r hr
    cases h
    have := askEq_ok hr
    exact ⟨_, by unfold VR; rfl, ⟨_, _, _, rfl, rfl⟩, fun w => by simp [binOp, Op.intCmp, ← this]⟩
  · split at h <;> first | (cases h; done) | skip
    rename_i r hr
    cases h
    have := askEq_ok hr
    exact ⟨_, by unfold VR; rfl, ⟨_, _, _, rfl, rfl⟩, fun w => by simp [binOp, Op.intCmp, ← this, bne]⟩
  · split at h <;> first | (cases h; done) | skip
    rename_i r hr
    cases h
    have := askLt_ok hr
    exact ⟨_, by unfold VR; rfl, ⟨_, _, _, rfl, rfl⟩, fun w => by simp [binOp, Op.intCmp, ← this]⟩
  · split at h <;> first | (cases h; done) | skip
    rename_i r hr
    cases h
    have := askLt_ok hr
    exact ⟨_, by unfold VR; rfl, ⟨_, _, _, rfl, rfl⟩, fun w => by simp [binOp, Op.intCmp, ← this, le_not]⟩
  · split at h <;> first | (cases h; done) | skip
    rename_i r hr
    cases h
    have := askLt_ok hr
    exact ⟨_, by unfold VR; rfl, ⟨_, _, _, rfl, rfl⟩, fun w => by simp [binOp, Op.intCmp, ← this]⟩
  · split at h <;> first | (cases h; done) | skip
    rename_i r hr
    cases h
    have := askLt_ok hr
    exact ⟨_, by unfold VR; rfl, ⟨_, _, _, rfl, rfl⟩, fun w => by simp [binOp, Op.intCmp, ← this, le_not]⟩
  · cases h
theorem aun_run {op : UnOp} {x v : AV} {y : Value} (h : aun op x = some v) (hx : VR ρ x y) : ∃ u, VR ρ v u ∧ ∀ w, (Op.unary op y).run P w = .ok u w := by
  unfold aun at h
  split at h
  · unfold VR at hx; subst hx
    simp only [Option.some.injEq] at h; subst h
    refine ⟨_, by unfold VR; rfl, fun w => ?_⟩
    simp [Op.unary, Op.intArith]
  · unfold VR at hx; subst hx
    simp only [Option.some.injEq] at h; subst h
    refine ⟨_, by unfold VR; rfl, fun w => ?_⟩
    simp [Op.unary, Op.intBits]
  · unfold VR at hx; subst hx
    simp only [Option.some.injEq] at h; subst h
    exact ⟨_, by unfold VR; rfl, fun w => rfl⟩
  · unfold VR at hx; subst hx
    simp only [Option.some.injEq] at h; subst h
    rename_i c p
    refine ⟨.bool (!(c.ev Nums.σ == p)), ?_, fun w => rfl⟩
    unfold VR
    congr 1
    cases c.ev Nums.σ <;> cases p <;> rfl
  · cases h
omit [Nums] in
theorem fields_of {t : TypeId} {fs : Array Field} (h : P.underlying t = some (.struct fs)) : P.fieldsOf t = fs := by simp [Program.fieldsOf, h]
/-- == -/
def EqR (P : Program) (ρ : Ren) (d : Nat) (rec : TypeId → AV → AV → Option Bool) : Prop :=
  ∀ t x y b u v, rec t x y = some b → VR ρ x u → VR ρ y v → ∀ w, (Op.equalIn d t u v).run P w = .ok b w
theorem aeqF_sound {d : Nat} {rec : TypeId → AV → AV → Option Bool} (hrec : EqR P ρ d rec) {xs ys : List AV} {a b : Array Value} (ha : VRs ρ xs a.toList) (hb : VRs ρ ys b.toList) :
    ∀ (fs : List Field) (r : Bool), aeqF P rec xs ys fs = some r → ∀ w, (Op.eqFields d a b fs).run P w = .ok r w
  | [], r, h, w => by simp [aeqF] at h; subst h; simp [Op.eqFields]
  | f :: fs, r, h, w => by
    unfold aeqF at h
    split at h
    · cases h
    · rename_i hn
      have hn : f.name ≠ "_" := by simpa using hn
      split at h
      · cases h
      · rename_i u hu
        split at h
        · cases h
        · rename_i v hv
          obtain ⟨x, hx, hxr⟩ := part_sound hu ha
          obtain ⟨y, hy, hyr⟩ := part_sound hv hb
          split at h
          · cases h
          · rename_i he
            simp only [Option.some.injEq] at h; subst h
            have := hrec _ _ _ _ _ _ he hx hy w
            simp [Op.eqFields, hn, hxr w, hyr w, this]
          · rename_i he
            have := hrec _ _ _ _ _ _ he hx hy w
            have ih := aeqF_sound hrec ha hb fs r h w
            simp [Op.eqFields, hn, hxr w, hyr w, this, ih]
theorem boolOf_ok {x : AV} {b : Bool} {u : Value} (h : boolOf x = some b) (hx : VR ρ x u) : u = .bool b := by
  unfold boolOf at h
  split at h <;> first | (cases h; done) | skip
  · cases h
    unfold VR at hx
    exact hx
  · split at h <;> first | (cases h; done) | skip
    rename_i q hq
    cases h
    unfold VR at hx
    rw [hx, askC_ok hq]
theorem aeq_sound : ∀ (d e : Nat), EqR P ρ (d + e) (aeq P d)
  | 0, _, t, x, y, b, u, v, h, _, _, _ => by simp [aeq] at h
  | d + 1, e, t, x, y, b, u, v, h, hx, hy, w => by
    rw [show d + 1 + e = (d + e) + 1 from by omega]
    unfold aeq at h
    split at h
    · rename_i hu
      split at h
      · unfold VR at hx hy; subst hx; subst hy; cases h
        exact run_equalIn_bool w _ t _ _ hu
      · split at h <;> first | (cases h; done) | skip
        rename_i a h1
        split at h <;> first | (cases h; done) | skip
        rename_i b' h2
        have e1 := boolOf_ok h1 hx
        have e2 := boolOf_ok h2 hy
        subst e1; subst e2; cases h
        exact run_equalIn_bool w _ t _ _ hu
    · rename_i k0 hu
      split at h
      · unfold VR at hx hy; subst hx; subst hy
        split at h
        · rename_i hk
          have hk := of_decide_eq_true hk
          subst hk; cases h
          exact run_equalIn_int w _ t _ _ _ _ hu
        · cases h
      · split at h <;> first | (cases h; done) | skip
        rename_i k a k' b h1 h2
        have e1 := toSE_ok h1 hx
        have e2 := toSE_ok h2 hy
        subst e1; subst e2
        split at h <;> first | (cases h; done) | skip
        rename_i hk
        have hk := of_decide_eq_true hk
        subst hk
        rw [← askEq_ok h]
        exact run_equalIn_int w _ t _ _ _ _ hu
    · rename_i e0 hu
      split at h
      · unfold VR at hx hy; subst hx; subst hy; cases h
        simp [Op.equalIn, run_underlying hu]
      · unfold VR at hx hy; subst hx; obtain ⟨_, _, _, rfl⟩ := hy; cases h
        simp [Op.equalIn, run_underlying hu]
      · unfold VR at hx hy; subst hy; obtain ⟨_, _, _, rfl⟩ := hx; cases h
        simp [Op.equalIn, run_underlying hu]
      · unfold VR at hx hy; subst hy; obtain ⟨_, _, _, rfl⟩ := hx; cases h
        simp [Op.equalIn, run_underlying hu]
      · cases h
    · rename_i e0 hu
      split at h
      · unfold VR at hx hy; subst hx; subst hy; cases h
        simp [Op.equalIn, run_underlying hu]
      · unfold VR at hx hy; subst hx; obtain ⟨_, _, _, _, rfl, _⟩ := hy; cases h
        simp [Op.equalIn, run_underlying hu]
      · unfold VR at hx hy; subst hy; obtain ⟨_, _, _, _, rfl, _⟩ := hx; cases h
        simp [Op.equalIn, run_underlying hu]
      · unfold VR at hx hy; subst hx; obtain ⟨_, _, rfl⟩ := hy; cases h
        simp [Op.equalIn, run_underlying hu]
      · unfold VR at hx hy; subst hy; obtain ⟨_, _, rfl⟩ := hx; cases h
        simp [Op.equalIn, run_underlying hu]
      · unfold VR at hx hy; subst hy; obtain ⟨_, _, _, _, _, rfl, _⟩ := hx; cases h
        simp [Op.equalIn, run_underlying hu]
      · unfold VR at hx hy; subst hy; obtain ⟨_, _, _, _, rfl, _⟩ := hx; cases h
        simp [Op.equalIn, run_underlying hu]
      · cases h
    · rename_i e0 e1 hu
      split at h
      · unfold VR at hx hy; subst hx; subst hy; cases h
        simp [Op.equalIn, run_underlying hu]
      · unfold VR at hx hy; subst hx; obtain ⟨_, _, _, rfl⟩ := hy; cases h
        simp [Op.equalIn, run_underlying hu]
      · unfold VR at hx hy; subst hy; obtain ⟨_, _, _, rfl⟩ := hx; cases h
        simp [Op.equalIn, run_underlying hu]
      · cases h
    · rename_i e0 e1 e2 hu
      split at h
      · unfold VR at hx hy; subst hx; subst hy; cases h
        simp [Op.equalIn, run_underlying hu]
      · unfold VR at hx hy; subst hx; obtain ⟨_, _, rfl, _⟩ := hy; cases h
        simp [Op.equalIn, run_underlying hu]
      · unfold VR at hx hy; subst hy; obtain ⟨_, _, rfl, _⟩ := hx; cases h
        simp [Op.equalIn, run_underlying hu]
      · cases h
    · rename_i fs hu
      split at h
      · rename_i xs ys
        unfold VR at hx hy
        obtain ⟨a, rfl, ha⟩ := hx
        obtain ⟨b', rfl, hb⟩ := hy
        split at h
        · cases h
        · rename_i hst
          have hf := fields_of hu
          rw [run_equalIn_struct w _ t a b' (by rw [hf]; exact hu) hst, hf]
          exact aeqF_sound (aeq_sound d e) ha hb _ _ h w
      · cases h
    · cases h
theorem guard_run {op : BinOp} {t : TypeId} {x y : AV} {u v : Value} (h : guardOk P t x y = true) (hx : VR ρ x u) (hy : VR ρ y v) (ox oy : Operand) (w : World) : (eqGuard op t ox oy u v).run P w = .ok () w := by
  have key : ∀ (u v : Value), (∀ a b, u = .agg a → v = .agg b → False) → (u = .nilIface → v = .nilIface → False) → (eqGuard op t ox oy u v).run P w = .ok () w := by
    intro u v h1 h2
    unfold eqGuard
    cases op <;> first
      | rfl
      | (cases u <;> cases v <;> first
          | rfl
          | (exact (h1 _ _ rfl rfl).elim)
          | (exact (h2 rfl rfl).elim))
  have hagg : ∀ {z : AV} {q : Value} {c : Array Value}, VR ρ z q → q = .agg c → ∃ l, z = .agg l := by
    intro z q c hz hq
    subst hq
    cases z <;> simp [VR] at hz <;> exact ⟨_, rfl⟩
  have hnil : ∀ {z : AV} {q : Value}, VR ρ z q → q = .nilIface → z = .nilif := by
    intro z q hz hq
    subst hq
    cases z <;> simp [VR] at hz <;> rfl
  unfold guardOk at h
  split at h
  · rename_i l m
    split at h
    · cases h
    · rename_i hm
      unfold VR at hx hy
      obtain ⟨a, rfl, _⟩ := hx
      obtain ⟨b, rfl, _⟩ := hy
      exact run_eqGuard_agg w op t ox oy a b hm
  · cases h
  · rename_i h1 h2
    refine key u v ?_ ?_
    · intro a b ha hb
      obtain ⟨l, rfl⟩ := hagg hx ha
      obtain ⟨m, rfl⟩ := hagg hy hb
      exact h1 l m rfl rfl
    · intro ha hb
      exact h2 (hnil hx ha) (hnil hy hb)
end
end Go.Proofs.YthjjpmoifgcepaaGreat.Ex
