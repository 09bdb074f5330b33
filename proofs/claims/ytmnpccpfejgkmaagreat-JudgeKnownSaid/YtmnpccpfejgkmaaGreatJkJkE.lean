import Derived.Test.YtmnpccpfejgkmaaGreatJk6
/-
  wainscotlaw30.JudgeKnown: the forms of its text. No condition.
-/
namespace Go.Proofs.YtmnpccpfejgkmaaGreat.Jk
open Go Ex
noncomputable section
def v (i : Nat) : SE := .var i
def l (n : Int) : SE := .lit n
def kcWorks : Kc := { f := 10, args := [], res := .bool true }
def kcTorn : Kc := { f := 11, args := [.int .i64 4, .int .i64 3, .int .i64 2], res := .bool true }
def kcs0 : Kg := kgs [kcWorks]
def kcs1 : Kg := kgs [kcWorks, kcTorn]
/-! the loop of thirty-four snaps -/
def T1 (kn : Nat) (i : Bool) : Tm := { env := if i then [(1, .sym .i64 (v 0))] else [], heap := [], b := ⟨1, 0, 0, kn⟩ }
def L1 : Ln := { key := 4, nx := 0, t := T1 0 true, th := { v := [(0, l 0)] }, x := .exit 0, post := T1 100000 false }
def f1 (i : Nat) : List (Cnd × Bool) := [(.eq (v 0) (l i), true)]
def D1 (i : Nat) : LT := if i < 34 then .leaf (.cont { v := [(0, .bin .add (v 0) (l 1))] }) else .leaf (.out {})
/-- one round -/
def roundK (k : Kg) (i : Nat) : Bool := treeL Tryz.prog [] [] k [] 40 (ntOf Tryz.prog 3) 0 (loopOf Tryz.prog 3 4) (T1 0 true) (.exit 0) (T1 100000 false) (D1 i) (f1 i)
abbrev round (i : Nat) : Bool := roundK kcs0 i
def okT : CT := .is (.bool true) []
end
end Go.Proofs.YtmnpccpfejgkmaaGreat.Jk
