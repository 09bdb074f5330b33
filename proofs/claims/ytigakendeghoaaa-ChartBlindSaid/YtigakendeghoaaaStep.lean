/-
  append at a step of a region that draws its order: for 'go_region_held3'. No condition but sizes.
-/
import Derived.Test.YtigakendeghoaaaSlice
namespace Go.Proofs.Ytigakendeghoaaa
open Go.RowKit
section
variable {W w : World} {m : List (Nat × Obj)} {e size n : Nat} {v : Value} {xs : List Value} {bs : List (Nat × Obj)} {P : Program}
/-- '((with_reducible refine step_app (by rfl) _ _ _ (by rfl) (by rfl) (by rfl) ..); intro v' w' bs' k1 k2)' -/
theorem step_app {ops : Array Oper} {o : Oper} {a : Act} {K : Act → World → Prop} {Q : Exit → Act → World → Prop} {E : Prop} (hgd : o.guard = none) (s x : Operand) (t : TypeId)
    (ho : o.op = .call { callee := .builtin .append, args := #[s, x], argTypes := #[t, t] }) {v xv : Value} (hes : a.eval s = v) (hex : a.eval x = xv)
    (e : TypeId) (i : TypeInfo) (z : Value) (size bytes : Nat) (ht : P.underlying t = some (.slice e)) (hi : P.info? e = some i) (hz : i.zero = some z)
    (hsize : i.size = size) (hby : i.bytes = bytes) (hzs : z.cells.size = size) (hsz : 0 < size)
    (hs : SlOwn e size v n xs bs) (hO : Own W (bs ++ m) w) {k : Nat} {news : List Value} (hx : Src w size xv k news) (h1 : ∀ u ∈ news, u.oneCell' = true)
    (h63 : n + k ≤ maxLen) (hbytes : (n + k) * bytes ≤ 140737488355328)
    (h : ∀ v' w' bs', SlOwn e size v' (n + k) (xs ++ news) bs' → Own W (bs' ++ m) w' → K (a.put o.dst v') w') :
    if Region.wanted o (yielded ops a.tmps) = true then Oper.wp P o a w K Q else E := by
  have hw : Region.wanted o (yielded ops a.tmps) = true := by simp [Region.wanted, hgd]
  rw [if_pos hw]
  obtain ⟨v', w', bs', hr, h2, h3, h4⟩ := run_app (P := P) t o.type e i z size bytes ht hi hz hsize hby hzs hsz hs hO hx h1 h63 hbytes
  unfold Oper.wp execOp
  simp only [ho, resolve, invoke, builtin, Sem.run_bind, Sem.run_pure, Result.andThen_ok, List.map_toArray, List.map_cons, List.map_nil, hes, hex, hr]
  exact h v' w' bs' h2 h3
end
end Go.Proofs.Ytigakendeghoaaa
