/-
  Texts of this claim, joined. No condition.
-/
import Derived.Test.YtfcpdlbkmkhhcaaGreatDoorCh1
import Derived.Maps.AppendAt
import Derived.Laws.CopyRow
import Derived.Deep.MidRow
import Derived.Laws.StructEq
import Derived.Laws.Tables
import Derived.Scope
import Derived.LoopN
namespace Go.Proofs.YtfcpdlbkmkhhcaaGreatDoor
set_option maxRecDepth 100000
set_option maxHeartbeats 40000000
namespace Ex
open Go
noncomputable section
mutual
def AV.shut:AV→Bool
 | .bool _ | .int _ _ | .sym _ _ | .jD _ _ | .str _ | .iL | .bR | .bX | .fo | .fG=>true
 | .agg l=>AV.shuts l
 | .gV l=>AV.shuts l
 |_=>false
def AV.shuts:List AV→Bool
 |[]=>true
 |v::l=>match v.shut with
  |true=>AV.shuts l
  |false=>false
end
inductive AX where
 |normal
 |exit (id:Nat)
 |ret
def dB.beq:dB→dB→Bool
 | .lt a b,.lt c d=>SE.beq a c&&SE.beq b d
 | .eq a b,.eq c d=>SE.beq a c&&SE.beq b d
 |_,_=>false
mutual
def AV.beq:AV→AV→Bool
 | .bool a,.bool b=>a==b
 | .int k a,.int k' b=>decide (k=k')&&a==b
 | .sym k e,.sym k' e'=>decide (k=k')&&SE.beq e e'
 | .jD c p,.jD c' p'=>dB.beq c c'&&p==p'
 | .iE n e s j,.iE n' e' s' j'=>(Nat.beq n n'&&SE.beq e e')&&(Nat.beq s s'&&Nat.beq j j')
 | .lC n e s,.lC n' e' s'=>Nat.beq n n'&&(SE.beq e e'&&Nat.beq s s')
 | .qB n e l s,.qB n' e' l' s'=>(Nat.beq n n'&&SE.beq e e')&&(Nat.beq l l'&&Nat.beq s s')
 | .vz i,.vz j=>Nat.beq i j
 | .kH i e,.kH j e'=>Nat.beq i j&&SE.beq e e'
 | .iL,.iL=>true
 | .ptr n o,.ptr n' o'=>Nat.beq n n'&&Nat.beq o o'
 | .je n o,.je n' o'=>Nat.beq n n'&&Nat.beq o o'
 | .bR,.bR=>true
 | .sl n o l s r,.sl n' o' l' s' r'=>Nat.beq n n'&&(Nat.beq o o'&&(Nat.beq l l'&&(Nat.beq s s'&&(match r,r' with
   | .whole,.whole=>true
   | .any,.any=>true
   | .ex c,.ex c'=>Nat.beq c c'
   |_,_=>false))))
 | .mo n,.mo n'=>Nat.beq n n'
 | .tY,.tY=>true
 | .tT e,.tT e'=>SE.beq e e'
 | .bX,.bX=>true
 | .map n,.map n'=>Nat.beq n n'
 | .fn (.func f) a b,.fn (.func f') a' b'=>Nat.beq f f'&&(AV.qH a a'&&AV.qH b b')
 | .fo,.fo=>true
 | .fG,.fG=>true
 | .agg a,.agg b=>AV.qH a b
 | .gV a,.gV b=>AV.qH a b
 |_,_=>false
def AV.qH:List AV→List AV→Bool
 |[],[]=>true
 |a::l,b::m=>AV.beq a b&&AV.qH l m
 |_,_=>false
end
def Ju [Fc](ops:Array Oper)(o:Oper)(env:T AV):Option Bool:=match o.guard with
 |none=>some true
 |some (j,want)=>match ops[j]? with
  |none=>some false
  |some g=>match g.dst with
   |none=>some false
   |some d=>match env.get d with
    |none=>none
    |some (.bool b)=>some (b==want)
    |some (.jD c p)=>match zM c with
     |some q=>some ((q==p)==want)
     |none=>none
    |some _=>some false
def Fb (nt:Nat)(env:T AV)(dst:Option Tmp)(v:AV):Option (T AV):=match dst with
 |none=>some env
 |some d=>match Nat.blt d nt with
  |true=>some (env.put d (some v))
  |false=>none
section
variable [Fc](P:Program)(call:FuncId→List AV→AH→Option (AV×AH))(nt:Nat)
def Ef (op:Op)(vs:List AV)(h:AH):Option (AV×AH):=match kd op with
 | .pure=>match mJ P op vs with
   |some v=>some (v,h)
   |none=>none
 | .read=>match yA P op vs h with
   |some v=>some (v,h)
   |none=>none
 | .alloc=>match BH P op vs with
   |some (o,k)=>match fresh h o with
    |some h'=>some (k.at h.next,h')
    |none=>none
   |none=>none
 | .loud=>match aloud P op vs h with
   |some (.val v h')=>some (v,h')
   |some (.call f args)=>call f args h
   |none=>none
def GX (ops:Array Oper):List Oper→T AV→AH→Option (T AV×AH)
 |[],env,h=>some (env,h)
 |o::rest,env,h=>match Ju ops o env with
  |none=>none
  |some false=>match Fb nt env o.dst und with
   |some aG=>GX ops rest aG h
   |none=>none
  |some true=>match evs env o.op.operands.toList with
   |none=>none
   |some vs=>match Ef P call o.op vs h with
    |none=>none
    |some (v,h')=>match Fb nt env o.dst v with
     |some aG=>GX ops rest aG h'
     |none=>none
def JL (t:T Nat):List Edge→Nat
 |[]=>0
 |e::l=>match Region.binds .any e with
  |true=>(2 ^ e.on ||| (match t.get e.on with|some b=>b|none=>0)) ||| JL t l
  |false=>JL t l
def Q8:Nat→List Oper→T Nat→T Nat
 |_,[],t=>t
 |i,o::l,t=>Q8 (i+1) l (t.put i (some (JL t o.after.toList)))
def bf (ops:Array Oper):T Nat:=Q8 0 ops.toList .e
def Gx (b:T Nat)(i:Nat):Nat:=match b.get i with
 |some x=>x
 |none=>0
def ahead (b:T Nat)(i j:Nat):Bool:=(Gx b j).testBit i
inductive Rk where
 |skip
 |val (v:AV)
 |alloc (o:AO) (v:AV)
 |loud (v:AV) (h:AH)
def Rk.res:Rk→AV
 | .skip=>und
 | .val v=>v
 | .alloc _ v=>v
 | .loud v _=>v
def overlay (base:Nat)(see:Nat→Bool):List (Nat×AO)→AH→AH
 |[],h=>h
 |(i,o)::l,h=>match see i with
  |true=>(overlay base see l h).put (Nat.add base i) (some o)
  |false=>overlay base see l h
def GV (ops:Array Oper)(b:T Nat)(base:Nat):Nat→List Oper→T AV→AH→Nat→List (Nat×AO)→List Rk→Option (List Rk×T AV×AH×Nat×List (Nat×AO))
 |_,[],env,h,cons,al,rs=>some (rs.reverse,env,h,cons,al)
 |i,o::rest,env,h,cons,al,rs=>match Ju ops o env with
  |none=>none
  |some false=>match Fb nt env o.dst und with
   |some aG=>GV ops b base (Nat.add i 1) rest aG h cons al (.skip::rs)
   |none=>none
  |some true=>match evs env o.op.operands.toList with
   |none=>none
   |some vs=>match (match kd o.op with
     | .pure=>match mJ P o.op vs with
       |some v=>some (Rk.val v,h,cons,al)
       |none=>none
     | .read=>match yA P o.op vs (overlay base (fun a=>ahead b a i && !(cons.testBit a)) al h) with
       |some v=>some (Rk.val v,h,cons,al)
       |none=>none
     | .alloc=>match BH P o.op vs with
       |some (ao,k)=>some (Rk.alloc ao (k.at (Nat.add base i)),h,cons,(i,ao)::al)
       |none=>none
     | .loud=>match Ef P call o.op vs (overlay base (fun a=>ahead b a i && !(cons.testBit a)) al h) with
       |some (v,h')=>some (Rk.loud v h',h',cons ||| Gx b i,al)
       |none=>none) with
    |none=>none
    |some (r,h',cons',al')=>match Fb nt env o.dst r.res with
     |some aG=>GV ops b base (Nat.add i 1) rest aG h' cons' al' (r::rs)
     |none=>none
def BK (o:Oper):Bool:=match kd o.op with
 | .loud=>true
 |_=>false
def looks (ops:Array Oper)(o:Oper):List Tmp:=o.dst.toList++o.looksAt ops
def QQ (t:Nat):List Nat→Bool
 |[]=>false
 |x::l=>match Nat.beq x t with
  |true=>true
  |false=>QQ t l
def touch (ops:Array Oper)(o q:Oper):Bool:=(match q.dst with
 |some d=>QQ d (looks ops o)
 |none=>false)||(BK o&&BK q)
def Dy (ops:Array Oper)(b:T Nat)(o:Oper)(i:Nat):Nat→List Oper→Bool
 |_,[]=>true
 |j,q::l=>match Nat.beq i j with
  |true=>Dy ops b o i (Nat.add j 1) l
  |false=>match touch ops o q with
   |false=>Dy ops b o i (Nat.add j 1) l
   |true=>match (match Nat.blt j i with
     |true=>ahead b j i
     |false=>ahead b i j) with
    |true=>Dy ops b o i (Nat.add j 1) l
    |false=>false
def QP (ops:Array Oper)(b:T Nat):Nat→List Oper→Bool
 |_,[]=>true
 |i,o::l=>match Dy ops b o i 0 ops.toList with
  |true=>QP ops b (Nat.add i 1) l
  |false=>false
def PX:Nat→List Oper→Bool
 |_,[]=>true
 |i,o::l=>match o.after.toList.all (fun e => !(Region.binds .any e)||Nat.blt e.on i) with
  |true=>PX (Nat.add i 1) l
  |false=>false
def kL (ops:Array Oper):Bool:=QP ops (bf ops) 0 ops.toList&&PX 0 ops.toList
def BS (b:T Nat)(i j:Nat):Nat→List Rk→Bool
 |_,[]=>true
 |l,.loud _ _::rs=>match Nat.blt l j with
  |true=>match ahead b i l with
   |true=>false
   |false=>BS b i j (Nat.add l 1) rs
  |false=>match ahead b l i with
   |true=>false
   |false=>BS b i j (Nat.add l 1) rs
 |l,_::rs=>BS b i j (Nat.add l 1) rs
def QR (b:T Nat)(base:Nat)(all:List Rk)(al:List (Nat×AO))(op:Op)(vs:List AV)(v:AV)(i j:Nat)(h:AH)(cons:Nat):Bool:=match BS b i j 0 all with
 |false=>true
 |true=>match yA P op vs (overlay base (fun a=>ahead b a i && !(cons.testBit a)) al h) with
  |some u=>AV.beq v u
  |none=>false
def Jh (b:T Nat)(base:Nat)(all:List Rk)(al:List (Nat×AO))(op:Op)(vs:List AV)(v:AV)(i:Nat):Nat→AH→Nat→List Rk→Bool
 |_,_,_,[]=>true
 |j,h,cons,r::rs=>match r with
  | .loud _ h'=>match QR P b base all al op vs v i (Nat.add j 1) h' (cons ||| Gx b j) with
    |false=>false
    |true=>Jh b base all al op vs v i (Nat.add j 1) h' (cons ||| Gx b j) rs
  |_=>Jh b base all al op vs v i (Nat.add j 1) h cons rs
def sameAll (b:T Nat)(base:Nat)(all:List Rk)(al:List (Nat×AO))(op:Op)(vs:List AV)(v:AV)(i:Nat)(h:AH):Bool:=match QR P b base all al op vs v i 0 h 0 with
 |false=>false
 |true=>Jh P b base all al op vs v i 0 h 0 all
def reads (ops:Array Oper)(b:T Nat)(base:Nat)(h0:AH)(all:List Rk)(al:List (Nat×AO)):Nat→List Oper→List Rk→T AV→Bool
 |i,o::l,r::rs,env=>match (match r,kd o.op with
   | .val v,.read=>match evs env o.op.operands.toList with
     |some vs=>sameAll P b base all al o.op vs v i h0
     |none=>false
   |_,_=>true) with
  |false=>false
  |true=>match Fb nt env o.dst r.res with
   |some aG=>reads ops b base h0 all al (Nat.add i 1) l rs aG
   |none=>false
 |_,[],[],_=>true
 |_,_,_,_=>false
def QG (ops:Array Oper)(env:T AV)(h:AH):Option (T AV×AH):=match kL ops with
 |false=>none
 |true=>match Nat.blt (Nat.add h.next ops.size) 1000000 with
  |false=>none
  |true=>match GV P call nt ops (bf ops) h.next 0 ops.toList env (h.skip ops.size) 0 [] [] with
   |none=>none
   |some (rs,aG,h',cons,al)=>match reads P nt ops (bf ops) h.next (h.skip ops.size) rs al 0 ops.toList rs env with
    |false=>none
    |true=>some (aG,overlay h.next (fun a => !(cons.testBit a)) al h')
def iter (body:T AV→AH→Option (AX×T AV×AH)):Nat→T AV→AH→Option (AX×T AV×AH)
 |0,_,_=>none
 |n+1,env,h=>match body env h with
  |some (.normal,aG,h')=>iter body n aG h'
  |r=>r
def exec:Code→T AV→AH→Option (AX×T AV×AH)
 | .skip,env,h=>some (.normal,env,h)
 | .label _,env,h=>some (.normal,env,h)
 | .region _ ops false,env,h=>match GX P call nt ops ops.toList env h with
   |some (aG,h')=>some (.normal,aG,h')
   |none=>none
 | .region _ ops true,env,h=>match QG P call nt ops env h with
   |some (aG,h')=>some (.normal,aG,h')
   |none=>none
 | .seq x y,env,h=>match exec x env h with
   |some (.normal,aG,h')=>exec y aG h'
   |r=>r
 | .cond c x y,env,h=>match ev env c with
   |some (.bool true)=>exec x env h
   |some (.bool false)=>exec y env h
   |some (.jD q p)=>match zM q with
    |some r=>match r==p with
     |true=>exec x env h
     |false=>exec y env h
    |none=>none
   |_=>none
 | .block id c,env,h=>match exec c env h with
   |some (.exit j,aG,h')=>match Nat.beq j id with
    |true=>some (.normal,aG,h')
    |false=>some (.exit j,aG,h')
   |r=>r
 | .loop c,env,h=>iter (exec c) 100000 env h
 | .scope c,env,h=>exec c env h
 | .exit id,env,h=>some (.exit id,env,h)
 | .ret,env,h=>some (.ret,env,h)
 |_,_,_=>none
end
def Dp:Nat→List AV→T AV→T AV
 |_,[],t=>t
 |i,v::l,t=>Dp (Nat.add i 1) l (t.put i (some v))
def Cg [Fc](P:Program)(h:AH)(env:T AV):List ResultVar→Option (List AV)
 |[]=>some []
 | .tmp t::l=>match env.get t with
   |none=>none
   |some v=>match Cg P h env l with
    |some vs=>some (v::vs)
    |none=>none
 | .cell a t::l=>match env.get a with
   |none=>none
   |some p=>match yA P (.load t (.tmp a)) [p] h with
    |none=>none
    |some v=>match Cg P h env l with
     |some vs=>some (v::vs)
     |none=>none
def JG:List AV→AV
 |[v]=>v
 |vs=>.gV vs
structure Kn where
 f:Nat
 args:List AV
 conds:List (dB×Bool):=[]
 res:AV
 DK:List (Nat×Nat×Nat):=[]
abbrev Ov:=List (Nat×List AV×AV)
def Gq [Fc]:List (dB×Bool)→Bool
 |[]=>true
 |(.lt a b,r)::l=>match qD a b with
  |some q=>match q==r with
   |true=>Gq l
   |false=>false
  |none=>false
 |(.eq a b,r)::l=>match yB a b with
  |some q=>match q==r with
   |true=>Gq l
   |false=>false
  |none=>false
def Md (h:AH):List (Nat×Nat×Nat)→Option AH
 |[]=>some h
 |(n,i,j)::l=>match h.get n with
  |some (.opq q)=>match Nat.beq q i with
   |true=>Md (h.put n (some (.opq j))) l
   |false=>none
  |_=>none
def E9 [Fc](f:FuncId)(args:List AV)(h:AH):List Kn→Option (AV×AH)
 |[]=>none
 |k::l=>match Nat.beq k.f f with
  |false=>E9 f args h l
  |true=>match AV.qH args k.args with
   |false=>E9 f args h l
   |true=>match Gq k.conds with
    |false=>E9 f args h l
    |true=>match Md h k.DK with
     |some h'=>some (k.res,h')
     |none=>E9 f args h l
def ME (f:FuncId)(args:List AV):Ov→Option AV
 |[]=>none
 |(g,xs,v)::l=>match Nat.beq g f with
  |true=>match AV.qH args xs with
   |true=>some v
   |false=>ME f args l
  |false=>ME f args l
def Mg [Fc](P:Program)(ov:Ov)(kn:List Kn):Nat→FuncId→List AV→AH→Option (AV×AH)
 |0,_,_,_=>none
 |n+1,f,args,h=>match ME f args ov with
  |some v=>some (v,h)
  |none=>match E9 f args h kn with
  |some r=>some r
  |none=>match P.funcs[f]? with
  |none=>none
  | some fn => match fn.name == "runtime.NumGoroutine" with
    |true=>none
    |false=>match fn.body with
     |none=>none
     |some c=>match Nat.ble args.length fn.ntmps&&Nat.ble fn.ntmps 1000000 with
      |false=>none
      |true=>match exec P (Mg P ov kn n) fn.ntmps c (Dp 0 args .e) h with
       |some (.exit _,_,_)=>none
       |some (_,aG,h')=>match Cg P h' aG fn.results.toList with
        |some vs=>some (JG vs,h')
        |none=>none
       |none=>none
def runs [Fc](P:Program)(ov:Ov)(n:Nat)(f:FuncId)(args:List AV)(v:AV):Bool:=match Mg P ov [] n f args (.mk .e 0) with
 |some (u,_)=>AV.beq u v
 |none=>false
def yes (P:Program)(n:Nat)(f:FuncId):Bool:=@runs ⟨[],[],[]⟩ P [] n f [] (.bool true)
inductive DT where
 |leaf
 |is (v:AV)
 |bad
 |node (c:dB) (t e:DT)
def tree (P:Program)(gs:List (Nat×List Int))(ov:Ov)(n:Nat)(f:FuncId)(args:List AV):DT→List (dB×Bool)→Bool
 | .leaf,fs=>@runs ⟨fs,gs,[]⟩ P ov n f args (.bool true)
 | .is v,fs=>match AV.shut v with
   |true=>@runs ⟨fs,gs,[]⟩ P ov n f args v
   |false=>false
 | .bad,_=>true
 | .node c t e,fs=>match tree P gs ov n f args t ((c,true)::fs) with
   |true=>tree P gs ov n f args e ((c,false)::fs)
   |false=>false
end
end Ex
namespace Ex
open Go
abbrev Ren:=Nat→Option (Nat×Nat)
def Ps.fit:Ps→Prop
 | .x=>False
 | .h=>True
 | .o p=>p.fit
 | .i p=>p.fit
theorem TH:∀ (d k j:Nat),DC d k=DC d j→(DC d k).fit→k=j
 |0,_,_,_,h=>by simp[DC,Ps.fit]at h
 |d+1,k,j,he,hf=>by
  unfold DC at he hf;have hb:∀ a b:Nat,Nat.beq a b=decide (a=b):=fun a b=>by
   cases h:Nat.beq a b with
   |true=>have:=Zxq h;subst this;simp
   |false=>have:=Nat.ne_of_beq_eq_false h;simp[this]
  simp only[hb]at he hf;by_cases hk:k=0
  ·subst hk
   by_cases hj:j=0
   ·exact hj.symm
   ·simp[hj]at he
    split at he<;>cases he
  ·by_cases hj:j=0
   ·subst hj
    simp[hk]at he;split at he<;>cases he
   ·simp only[hk,hj,decide_false]at he hf
    have e1:∀ n:Nat,Nat.mod n 2=n % 2:=fun _=>rfl;have e2:∀ n:Nat,Nat.div n 2=n / 2:=fun _=>rfl;have e3:∀ n m:Nat,Nat.sub n m=n - m:=fun _ _=>rfl;simp only[e1,e2,e3]at he hf;by_cases h1:k % 2=1<;>by_cases h2:j % 2=1<;>simp only[h1,h2,decide_true,decide_false]at he hf
    ·have:=TH d _ _ (by injection he) hf
     omega
    ·cases he
    ·cases he
    ·have:=TH d _ _ (by injection he) hf
     omega
theorem T.Gv {α:Type}:∀ p:Ps,T.wY p (.e:T α)=none
 | .x=>rfl
 | .h=>rfl
 | .o _=>rfl
 | .i _=>rfl
theorem T.Lf {α:Type}{x:Option α}:∀ (p q:Ps) (t:T α) (v:α),T.wY q (T.GY x p t)=some v→(q=p∧p.fit∧x=some v)∨(q≠p∧T.wY q t=some v)
 | .x,q,t,v,h=>by
   have h:T.wY q t=some v:=h;refine .inr ⟨fun he => ?_,h⟩;subst he;cases h
 | .h,q,t,v,h=>by
   cases t<;>cases q<;>simp[T.wY,T.GY]at h ⊢<;>first|exact⟨trivial,h⟩|exact h|exact absurd h (by rw[← T.wY,T.Gv];simp)
 | .o p,q,t,v,h=>by
   cases t with
   |e=>cases q with
    |x=>cases h
    |h=>cases h
    |o q =>
     have h:T.wY q (T.GY x p .e)=some v:=h;rcases T.Lf p q .e v h with⟨rfl,h2,h3⟩|⟨h1,h2⟩
     ·exact .inl ⟨rfl,h2,h3⟩
     ·rw[T.Gv]at h2;cases h2
    |i q =>
     have h:T.wY q (.e:T α)=some v:=h;rw[T.Gv]at h;cases h
   |n l u r=>cases q with
    |x=>cases h
    |h=>exact .inr ⟨(by intro he;cases he),h⟩
    |o q =>
     have h:T.wY q (T.GY x p r)=some v:=h;rcases T.Lf p q r v h with⟨rfl,h2,h3⟩|⟨h1,h2⟩
     ·exact .inl ⟨rfl,h2,h3⟩
     ·exact .inr ⟨(by intro he;injection he with he;exact h1 he),h2⟩
    |i q=>exact .inr ⟨(by intro he;cases he),h⟩
 | .i p,q,t,v,h=>by
   cases t with
   |e=>cases q with
    |x=>cases h
    |h=>cases h
    |i q =>
     have h:T.wY q (T.GY x p .e)=some v:=h;rcases T.Lf p q .e v h with⟨rfl,h2,h3⟩|⟨h1,h2⟩
     ·exact .inl ⟨rfl,h2,h3⟩
     ·rw[T.Gv]at h2;cases h2
    |o q =>
     have h:T.wY q (.e:T α)=some v:=h;rw[T.Gv]at h;cases h
   |n l u r=>cases q with
    |x=>cases h
    |h=>exact .inr ⟨(by intro he;cases he),h⟩
    |i q =>
     have h:T.wY q (T.GY x p l)=some v:=h;rcases T.Lf p q l v h with⟨rfl,h2,h3⟩|⟨h1,h2⟩
     ·exact .inl ⟨rfl,h2,h3⟩
     ·exact .inr ⟨(by intro he;injection he with he;exact h1 he),h2⟩
    |o q=>exact .inr ⟨(by intro he;cases he),h⟩
theorem T.get_put {α:Type}{t:T α}{k:Nat}{x:Option α}{j:Nat}{v:α}(h:(t.put k x).get j=some v):(j=k∧x=some v)∨(j≠k∧t.get j=some v):=by
 rcases T.Lf _ _ t v h with⟨h1,h2,h3⟩|⟨h1,h2⟩
 ·exact .inl ⟨(TH 20 k j h1.symm h2).symm,h3⟩
 ·exact .inr ⟨fun he=>h1 (by rw[he]),h2⟩
def lc (i e j:Nat):Nat:=4096+((e * 64+j) * 64+i)
def ln (i:Nat):Nat:=2048+i
mutual
def SE.ev (σ:Nat→Int):SE→Int
 | .var i=>σ i
 | .lit n=>n
 | .iH .add a b=>IntKind.i64.wrap (a.ev σ+b.ev σ)
 | .iH .sub a b=>IntKind.i64.wrap (a.ev σ - b.ev σ)
 | .iH .mul a b=>IntKind.i64.wrap (a.ev σ * b.ev σ)
 | .iH .quo a b=>IntKind.i64.wrap ((a.ev σ).tdiv (b.ev σ))
 | .iH .rem a b=>(a.ev σ).tmod (b.ev σ)
 | .fH .add a b=>IntKind.u64.wrap (a.ev σ+b.ev σ)
 | .fH .sub a b=>IntKind.u64.wrap (a.ev σ - b.ev σ)
 | .fH .mul a b=>IntKind.u64.wrap (a.ev σ * b.ev σ)
 | .fH .quo a b=>IntKind.u64.wrap ((a.ev σ).tdiv (b.ev σ))
 | .fH .rem a b=>(a.ev σ).tmod (b.ev σ)
 | .cv k a=>k.wrap (a.ev σ)
 | .at l e j=>l.jd σ (e.ev σ).toNat j
 | .len l=>(l.iR σ:Int)
 | .dA _=>0
 | .jY _ _ _ _=>0
 | .dW _ _=>0
 | .jf=>0
 | .kG _=>0
 | .fV _ _=>0
def SE.jd (σ:Nat→Int):SE→Nat→Nat→Int
 | .dA i=>fun e j=>σ (lc i e j)
 | .jY l x k v=>fun e j=>if e=(x.ev σ).toNat∧j=k then v.ev σ else l.jd σ e j
 | .dW l r=>fun e j=>if e=l.iR σ then r.jd σ 0 j else l.jd σ e j
 | .fV v r=>fun _ j=>match j with
   |0=>v.ev σ
   |j+1=>r.jd σ 0 j
 | .jf=>fun _ _=>0
 | .kG _=>fun _ _=>0
 | .at _ _ _=>fun _ _=>0
 | .len _=>fun _ _=>0
 | .var _=>fun _ _=>0
 | .lit _=>fun _ _=>0
 | .iH _ _ _=>fun _ _=>0
 | .fH _ _ _=>fun _ _=>0
 | .cv _ _=>fun _ _=>0
def SE.iR (σ:Nat→Int):SE→Nat
 | .dA i=>(σ (ln i)).toNat
 | .jY l _ _ _=>l.iR σ
 | .dW l _=>l.iR σ+1
 | .fV _ _=>0
 | .jf=>0
 | .kG n=>(n.ev σ).toNat
 | .at _ _ _=>0
 | .len _=>0
 | .var _=>0
 | .lit _=>0
 | .iH _ _ _=>0
 | .fH _ _ _=>0
 | .cv _ _=>0
end
def CK.val:CK→Int→Value
 | .int k,n=>.int k n
 | .bool,n=>.bool (!(n==0))
theorem Gn (σ:Nat→Int):∀ l:SE,(Fa l).ev σ=(l.iR σ:Int)
 | .jY l _ _ _=>by
   have:=Gn σ l;simp only[Fa,SE.iR];exact this
 | .dA _ | .dW _ _ | .fV _ _ | .jf | .kG _ | .at _ _ _ | .len _ | .var _ | .lit _ | .iH _ _ _ | .fH _ _ _ | .cv _ _=>by simp only[Fa,SE.ev]
def dB.ev (σ:Nat→Int):dB→Bool
 | .lt a b=>decide (a.ev σ<b.ev σ)
 | .eq a b=>a.ev σ==b.ev σ
class au extends Fc where
 σ:Nat→Int
 ω:Nat→Nat→Nat→Obj:=fun _ _ _=>.map #[] 0
 Ω:Nat→Nat→Nat→Obj→Prop:=fun _ _ _ _=>True
 ro:Nat→Option (Option Addr×Nat×Nat):=fun _=>none
 ok:∀ f∈facts,f.1.ev σ=f.2
def Ztm (off c sz s:Nat):Room→Prop
 | .whole=>off=0∧c * sz=s
 | .any=>True
 | .ex c0=>c=c0
section
variable [au]
mutual
def VR (ρ:Ren):AV→Value→Prop
 | .bool b,v=>v = .bool b
 | .int k n,v=>v = .int k n
 | .sym k e,v=>v = .int k (e.ev au.σ)
 | .jD c p,v=>v = .bool (c.ev au.σ==p)
 | .iE n e s j,v=>∃ b z,ρ n=some (b,z)∧v = .pointer (some ⟨b,(e.ev au.σ).toNat * s+j,none⟩)
 | .lC n e s,v=>∃ b z len c:Nat,ρ n=some (b,z)∧v = .slice (some ⟨b,0,none⟩) len c∧len≤c∧c≤maxLen∧c * s=z∧e.ev au.σ=len
 | .qB n e len s,v=>∃ b z c,ρ n=some (b,z)∧v = .slice (some ⟨b,(e.ev au.σ).toNat * s,none⟩) len c∧len≤c∧c≤maxLen∧0≤e.ev au.σ∧e.ev au.σ+len≤4000000000
 | .vz i,v=>∃ A len c,au.ro i=some (A,len,c)∧v = .slice A len c∧len≤c∧c≤maxLen∧(au.σ (ln i)).toNat=len∧(A=none→len=0)
 | .kH i e,v=>∃ A len c,au.ro i=some (some A,len,c)∧v = .pointer (some (A.add (e.ev au.σ).toNat))∧(e.ev au.σ).toNat<len
 | .str s,v=>v = .string s
 | .iL,v=>v = .pointer none
 | .ptr n off,v=>∃ b s,ρ n=some (b,s)∧v = .pointer (some ⟨b,off,none⟩)
 | .je g off,v=>v = .pointer (some ⟨g,off,none⟩)
 | .bR,v=>v = .slice none 0 0
 | .sl n off len sz r,v=>∃ b s c,ρ n=some (b,s)∧v = .slice (some ⟨b,off,none⟩) len c∧len≤c∧c≤maxLen∧Ztm off c sz s r
 | .mo _n,v=>∃ a c,v = .slice (some a) 0 c
 | .tY,v=>∃ A c,v = .slice A 0 c∧c≤maxLen
 | .tT e,v=>∃ A len c,v = .slice A len c∧len≤c∧c≤maxLen∧e.ev au.σ=len
 | .bX,v=>v = .map none
 | .map n,v=>∃ b s,ρ n=some (b,s)∧v = .map (some b)
 | .fn f x y,v=>∃ a c:Array Value,v = .func f a c∧aH ρ x a.toList∧aH ρ y c.toList
 | .fo,v=>v = .nilFunc
 | .fG,v=>v = .nilIface
 | .xP t x,v=>∃ y,v = .iface t y∧VR ρ x y
 | .agg l,v=>∃ a:Array Value,v = .agg a∧aH ρ l a.toList
 | .gV l,v=>∃ a:Array Value,v = .tuple a∧aH ρ l a.toList
def aH (ρ:Ren):List AV→List Value→Prop
 |[],l=>l=[]
 |x::xs,l=>∃ y ys,l=y::ys∧VR ρ x y∧aH ρ xs ys
end
variable {ρ ρ':Ren}
theorem aH.nil:aH ρ [] []:=by simp[aH]
theorem aH.cons {x:AV}{y:Value}{xs:List AV}{ys:List Value}(h:VR ρ x y)(t:aH ρ xs ys):aH ρ (x::xs) (y::ys):=by
 unfold aH;exact⟨y,ys,rfl,h,t⟩
theorem aH.nA {x:AV}{xs:List AV}{l:List Value}(h:aH ρ (x::xs) l):∃ y ys,l=y::ys∧VR ρ x y∧aH ρ xs ys:=by
 unfold aH at h;exact h
theorem aH.one {x:AV}{l:List Value}(h:aH ρ [x] l):∃ y,l=[y]∧VR ρ x y:=by
 obtain⟨y,ys,rfl,h1,h2⟩:=h.nA;unfold aH at h2;subst h2;exact⟨y,rfl,h1⟩
theorem aH.two {x x':AV}{l:List Value}(h:aH ρ [x,x'] l):∃ y y',l=[y,y']∧VR ρ x y∧VR ρ x' y':=by
 obtain⟨y,ys,rfl,h1,h2⟩:=h.nA;obtain⟨y',rfl,h3⟩:=h2.one;exact⟨y,y',rfl,h1,h3⟩
theorem aH.three {x x' x'':AV}{l:List Value}(h:aH ρ [x,x',x''] l):∃ y y' El,l=[y,y',El]∧VR ρ x y∧VR ρ x' y'∧VR ρ x'' El:=by
 obtain⟨y,ys,rfl,h1,h2⟩:=h.nA;obtain⟨y',El,rfl,h3,h4⟩:=h2.two;exact⟨y,y',El,rfl,h1,h3,h4⟩
theorem aH.four {x x' x'' x3:AV}{l:List Value}(h:aH ρ [x,x',x'',x3] l):∃ y y' El y3,l=[y,y',El,y3]∧VR ρ x y∧VR ρ x' y'∧VR ρ x'' El∧VR ρ x3 y3:=by
 obtain⟨y,ys,rfl,h1,h2⟩:=h.nA;obtain⟨y',El,y3,rfl,h3,h4⟩:=h2.three;exact⟨y,y',El,y3,rfl,h1,h3,h4⟩
theorem aH.len:∀ {l:List AV} {m:List Value},aH ρ l m→l.length=m.length
 |[],m,h=>by unfold aH at h;subst h;rfl
 |x::xs,m,h=>by
  obtain⟨y,ys,rfl,_,h2⟩:=h.nA;simp[aH.len h2]
theorem aH.get:∀ {l:List AV} {m:List Value} {i:Nat} {v:AV},aH ρ l m→l[i]?=some v→∃ x,m[i]?=some x∧VR ρ v x
 |[],m,i,v,_,h=>by simp at h
 |x::xs,m,i,v,h,hi=>by
  obtain⟨y,ys,rfl,h1,h2⟩:=h.nA;cases i with
  |zero=>simp at hi;subst hi;exact⟨y,rfl,h1⟩
  |succ i=>exact aH.get (i:=i) h2 (by simpa using hi)
theorem aH.append:∀ {l l':List AV} {m m':List Value},aH ρ l m→aH ρ l' m'→aH ρ (l++l') (m++m')
 |[],_,m,_,h,h'=>by unfold aH at h;subst h;exact h'
 |x::xs,_,m,_,h,h'=>by
  obtain⟨y,ys,rfl,h1,h2⟩:=h.nA;exact aH.cons h1 (aH.append h2 h')
theorem aH.take:∀ {l:List AV} {m:List Value} (n:Nat),aH ρ l m→aH ρ (l.take n) (m.take n)
 |_,_,0,_=>by simp[aH]
 |[],m,n+1,h=>by unfold aH at h;subst h;simp[aH]
 |x::xs,m,n+1,h=>by
  obtain⟨y,ys,rfl,h1,h2⟩:=h.nA;exact aH.cons h1 (aH.take n h2)
theorem aH.drop:∀ {l:List AV} {m:List Value} (n:Nat),aH ρ l m→aH ρ (l.drop n) (m.drop n)
 |_,_,0,h=>by simpa using h
 |[],m,n+1,h=>by unfold aH at h;subst h;simp[aH]
 |x::xs,m,n+1,h=>by
  obtain⟨y,ys,rfl,h1,h2⟩:=h.nA;simpa using aH.drop n h2
theorem aH.kG {z:List AV}{y:List Value}(h:aH ρ z y):∀ n,aH ρ (Ex.kG n z) (List.replicate n y).flatten
 |0=>by simp[Ex.kG,aH]
 |n+1=>by
  rw[List.replicate_succ,List.flatten_cons];exact aH.append h (aH.kG h n)
mutual
theorem VR.mono (hρ:∀ n p,ρ n=some p→ρ' n=some p):∀ {v:AV} {x:Value},VR ρ v x→VR ρ' v x
 | .bool _,_,h=>by unfold VR at h ⊢;exact h
 | .int _ _,_,h=>by unfold VR at h ⊢;exact h
 | .sym _ _,_,h=>by unfold VR at h ⊢;exact h
 | .jD _ _,_,h=>by unfold VR at h ⊢;exact h
 | .iE ..,_,h=>by
   unfold VR at h ⊢;obtain⟨b,s,h1,h2⟩:=h;exact⟨b,s,hρ _ _ h1,h2⟩
 | .lC ..,_,h=>by
   unfold VR at h ⊢;obtain⟨b,s,l,c,h1,h2⟩:=h;exact⟨b,s,l,c,hρ _ _ h1,h2⟩
 | .qB ..,_,h=>by
   unfold VR at h ⊢;obtain⟨b,s,c,h1,h2⟩:=h;exact⟨b,s,c,hρ _ _ h1,h2⟩
 | .vz _,_,h=>by unfold VR at h ⊢;exact h
 | .kH _ _,_,h=>by unfold VR at h ⊢;exact h
 | .str _,_,h=>by unfold VR at h ⊢;exact h
 | .iL,_,h=>by unfold VR at h ⊢;exact h
 | .ptr _ _,_,h=>by
   unfold VR at h ⊢;obtain⟨b,s,h1,h2⟩:=h;exact⟨b,s,hρ _ _ h1,h2⟩
 | .je _ _,_,h=>by unfold VR at h ⊢;exact h
 | .bR,_,h=>by unfold VR at h ⊢;exact h
 | .sl ..,_,h=>by
   unfold VR at h ⊢;obtain⟨b,s,c,h1,h2⟩:=h;exact⟨b,s,c,hρ _ _ h1,h2⟩
 | .mo _,_,h=>by unfold VR at h ⊢;exact h
 | .tY,_,h=>by unfold VR at h ⊢;exact h
 | .tT _,_,h=>by unfold VR at h ⊢;exact h
 | .bX,_,h=>by unfold VR at h ⊢;exact h
 | .map _,_,h=>by
   unfold VR at h ⊢;obtain⟨b,s,h1,h2⟩:=h;exact⟨b,s,hρ _ _ h1,h2⟩
 | .fn _ _ _,_,h=>by
   unfold VR at h ⊢;obtain⟨a,c,h1,h2,h3⟩:=h;exact⟨a,c,h1,aH.mono hρ h2,aH.mono hρ h3⟩
 | .fo,_,h=>by unfold VR at h ⊢;exact h
 | .fG,_,h=>by unfold VR at h ⊢;exact h
 | .xP _ _,_,h=>by
   unfold VR at h ⊢;obtain⟨y,h1,h2⟩:=h;exact⟨y,h1,VR.mono hρ h2⟩
 | .agg _,_,h=>by
   unfold VR at h ⊢;obtain⟨a,h1,h2⟩:=h;exact⟨a,h1,aH.mono hρ h2⟩
 | .gV _,_,h=>by
   unfold VR at h ⊢;obtain⟨a,h1,h2⟩:=h;exact⟨a,h1,aH.mono hρ h2⟩
theorem aH.mono (hρ:∀ n p,ρ n=some p→ρ' n=some p):∀ {l:List AV} {m:List Value},aH ρ l m→aH ρ' l m
 |[],_,h=>by unfold aH at h ⊢;exact h
 |x::xs,_,h=>by
  unfold aH at h ⊢;obtain⟨y,ys,h1,h2,h3⟩:=h;exact⟨y,ys,h1,VR.mono hρ h2,aH.mono hρ h3⟩
end
mutual
theorem Bu (ρ:Ren):∀ {v:Value} {x:AV},mF v=some x→VR ρ x v
 | .bool _,_,h=>by simp[mF]at h;subst h;simp[VR]
 | .int _ _,_,h=>by simp[mF]at h;subst h;simp[VR]
 | .string _,_,h=>by simp[mF]at h;subst h;simp[VR]
 | .pointer none,_,h=>by simp[mF]at h;subst h;simp[VR]
 | .pointer (some _),_,h=>by simp[mF]at h
 | .slice none 0 0,_,h=>by simp[mF]at h;subst h;simp[VR]
 | .slice none 0 (_+1),_,h=>by simp[mF]at h
 | .slice none (_+1) _,_,h=>by simp[mF]at h
 | .slice (some _) _ _,_,h=>by simp[mF]at h
 | .map none,_,h=>by simp[mF]at h;subst h;simp[VR]
 | .map (some _),_,h=>by simp[mF]at h
 | .nilFunc,_,h=>by simp[mF]at h;subst h;simp[VR]
 | .nilIface,_,h=>by simp[mF]at h;subst h;simp[VR]
 | .agg cs,_,h=>by
   simp only[mF,Option.map_eq_some_iff]at h;obtain⟨l,h1,rfl⟩:=h;unfold VR;exact⟨cs,rfl,YS ρ h1⟩
 | .tuple cs,_,h=>by
   simp only[mF,Option.map_eq_some_iff]at h;obtain⟨l,h1,rfl⟩:=h;unfold VR;exact⟨cs,rfl,YS ρ h1⟩
 | .float _ _,_,h=>by simp[mF]at h
 | .complex _ _ _,_,h=>by simp[mF]at h
 | .chan _,_,h=>by simp[mF]at h
 | .func _ _ _,_,h=>by simp[mF]at h
 | .iface _ _,_,h=>by simp[mF]at h
theorem YS (ρ:Ren):∀ {a:Array Value} {l:List AV},RD a=some l→aH ρ l a.toList
 |⟨m⟩,_,h=>YT ρ (by simpa [RD] using h)
theorem YT (ρ:Ren):∀ {m:List Value} {l:List AV},OI m=some l→aH ρ l m
 |[],_,h=>by simp[OI]at h;subst h;simp[aH]
 |v::m,_,h=>by
  unfold OI at h;split at h
  ·rename_i x hx
   split at h
   ·rename_i xs OC
    simp at h;subst h;exact aH.cons (Bu ρ hx) (YT ρ OC)
   ·cases h
  ·cases h
end
theorem VR.oneCell {v:AV}{x:Value}(h:VR ρ v x)(h1:v.one=true):x.oneCell'=true:=by
 cases v<;>simp only[VR]at h<;>first
  |(cases h1;done)
  |(subst h;rfl)
  |(obtain⟨_,_,_,rfl⟩:=h;rfl)
  |(obtain⟨_,_,_,_,rfl,_⟩:=h;rfl)
  |(obtain⟨_,_,_,_,_,rfl,_⟩:=h;rfl)
  |(obtain⟨_,_,_,rfl,_⟩:=h;rfl)
  |(obtain⟨_,_,rfl⟩:=h;rfl)
  |(obtain⟨_,_,rfl,_⟩:=h;rfl)
  |(obtain⟨_,rfl,_⟩:=h;rfl)
theorem VR.cells {v:AV}{x:Value}(h:VR ρ v x):aH ρ v.cells x.cells.toList:=by
 have key:∀ (u:AV) (y:Value),VR ρ u y→u.cells=[u]→y.cells=#[y]→aH ρ u.cells y.cells.toList:=by
  intro u y hu h1 h2;rw[h1,h2];exact aH.cons hu aH.nil
 cases v with
 |agg l =>
  unfold VR at h;obtain⟨a,rfl,h⟩:=h;exact h
 |_ =>
  refine key _ _ h rfl ?_;simp only[VR]at h;first
  |(subst h;rfl)
  |(obtain⟨_,_,_,rfl⟩:=h;rfl)
  |(obtain⟨_,_,_,_,rfl,_⟩:=h;rfl)
  |(obtain⟨_,_,_,_,_,rfl,_⟩:=h;rfl)
  |(obtain⟨_,_,_,rfl,_⟩:=h;rfl)
  |(obtain⟨_,_,rfl⟩:=h;rfl)
  |(obtain⟨_,_,rfl,_⟩:=h;rfl)
  |(obtain⟨_,rfl,_⟩:=h;rfl)
omit [au] in
theorem F9:∀ {l:List AV},kz l=true→∀ v∈l,v.one=true
 |[],_,_,h=>by cases h
 |v::l,h,u,hu=>by
  unfold kz at h;split at h
  ·rename_i h1
   rcases List.mem_cons.1 hu with rfl|hu
   ·exact h1
   ·exact F9 h u hu
  ·cases h
theorem aH.ones {l:List AV}{m:List Value}(h:aH ρ l m)(h1:kz l=true):∀ x∈m,x.oneCell'=true:=by
 intro x hx;obtain⟨i,hi,rfl⟩:=List.getElem_of_mem hx;have hl:i<l.length:=by rw[h.len];exact hi
 obtain⟨y,hy,hv⟩:=h.get (Zxp hl);rw[Zxp hi]at hy;cases hy;exact hv.oneCell (F9 h1 _ (List.getElem_mem hl))
end
end Ex
end Go.Proofs.YtfcpdlbkmkhhcaaGreatDoor
