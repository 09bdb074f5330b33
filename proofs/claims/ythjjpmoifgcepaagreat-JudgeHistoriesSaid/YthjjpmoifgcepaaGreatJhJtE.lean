import Derived.Test.YthjjpmoifgcepaaGreatJhJtK
/-
  wainscotlaw30.JudgeTorn: the forms of its text. No condition.
-/
namespace Go.Proofs.YthjjpmoifgcepaaGreat.Jt
open Go Ex
noncomputable section
def v (i : Nat) : SE := .var i
def l (n : Int) : SE := .lit n
def add (a b : SE) : SE := .bin .add a b
def rng (e : SE) (a b : Int) : List (Cnd × Bool) := [(.lt e (l a), false), (.lt e (l b), true)]
/-- how many pages -/
def nE : SE := add (l 1) (v 0)
def kcWorks : Kc := { f := 8, args := [], res := .bool true }
def fA : List (Cnd × Bool) := rng (v 0) 0 30 ++ rng (v 2) 0 30 ++ [(.lt (v 2) nE, true), (.lt (v 2) (.len (.rep nE)), true), (.lt (v 2) (add (v 2) (l 1)), true), (.lt (add (v 2) (l 1)) (add (v 2) (l 1)), false), (.lt (.bin .sub nE (l 1)) (v 2), false)]
def argA : List AV := [.sym .i64 (v 30), .sym .i64 (v 31), .sym .i64 (v 32)]
def kxW : AH → Kg := fun h args => headOf args ++ pathOf h args
def okT : CT := .is (.bool true) []
end
end Go.Proofs.YthjjpmoifgcepaaGreat.Jt
