/-
  append of numbers at a step of a region that draws its order. No condition but sizes.
-/
import Derived.Test.YtigakendeghoaaaStep
import Derived.Test.YtigakendeghoaaaInts
namespace Go.Proofs.Ytigakendeghoaaa
open Go.RowKit
section
variable {W w : World} {m bs : List (Nat × Obj)} {l l' : List Int}
theorem step_app_ints {ops : Array Oper} {o : Oper} {a : Act} {K : Act → World → Prop} {Q : Exit → Act → World → Prop} {E : Prop} (hgd : o.guard = none) (s x : Operand)
    (ho : o.op = .call { callee := .builtin .append, args := #[s, x], argTypes := #[30, 30] }) {v xv : Value} (hes : a.eval s = v) (hex : a.eval x = xv)
    (hs : IntsOwn true v l bs) (hO : Own W (bs ++ m) w) (hx : IntsSrc w xv l') (hlen : l.length + l'.length ≤ 60000)
    (h : ∀ v' w' bs', IntsOwn true v' (l ++ l') bs' → Own W (bs' ++ m) w' → K (a.put o.dst v') w') :
    if Region.wanted o (yielded ops a.tmps) = true then Oper.wp Try.prog o a w K Q else E := by
  obtain ⟨i, hi, hz, hsz, hb⟩ := info_get int_info
  refine step_app hgd s x _ ho hes hex 3 i _ 1 8 Try.underlying30 hi hz hsz hb rfl (by omega) hs hO hx (ints_one l') (by unfold maxLen; omega) (by omega) fun v' w' bs' h1 h2 => ?_
  rw [ints_append, ← List.length_append] at h1
  exact h v' w' bs' h1 h2
end
end Go.Proofs.Ytigakendeghoaaa
