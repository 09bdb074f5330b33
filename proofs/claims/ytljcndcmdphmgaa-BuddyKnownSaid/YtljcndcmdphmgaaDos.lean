/-
  Slices of structs whose fields are numbers, as one list of numbers: append, and reading one as an argument.
-/
import Derived.Test.YtljcndcmdphmgaaSlicesInt
import Derived.Test.YtljcndcmdphmgaaArgs
namespace Go.Proofs.Ytljcndcmdphmgaa
open Go.RowKit

section
variable {P : Program} {W w : World} {m bs : List (Nat × Obj)} {v xv : Value} {l l' : List Int} {e size n k bytes : Nat}
/-- append, of structs: t the slice's type, e the element's -/
theorem wpList_app_dos {ops : Array Oper} {rest : List Oper} {o : Oper} {a : Act} {Q : Exit → Act → World → Prop} (hgd : o.guard = none) (s x : Operand) (t : TypeId)
    (ho : o.op = .call { callee := .builtin .append, args := #[s, x], argTypes := #[t, t] }) (hes : a.eval s = v) (hex : a.eval x = xv)
    (z : Value) (hinfo : (P.info? e).map (fun i => (i.zero, i.size, i.bytes)) = some (some z, size, bytes)) (ht : P.underlying t = some (.slice e)) (hzs : z.cells.size = size) (hsz : 0 < size) (hb : bytes ≤ 200)
    (hs : SlO true e size v n (ints l) bs) (hO : Own W (bs ++ m) w) (hx : Src w size xv k (ints l')) (hlen : n + k ≤ 60000)
    (h : ∀ v' w' bs', SlO true e size v' (n + k) (ints (l ++ l')) bs' → Own W (bs' ++ m) w' → wpList P ops Q rest (a.put o.dst v') w') :
    wpList P ops Q (o :: rest) a w := by
  obtain ⟨i, hi, hz, hsz', hby⟩ := info_get hinfo
  have hbb : (n + k) * bytes ≤ 60000 * 200 := Nat.mul_le_mul hlen hb
  refine wpList_app hgd s x t ho hes hex e i z size bytes ht hi hz hsz' hby hzs hsz hs hO hx (ints_one l') (by unfold maxLen; omega) (by omega) fun v' w' bs' h1 h2 h3 => ?_
  rw [ints_append] at h1
  exact h v' w' bs' h1 h2

/-- structs that the code writes down, in a block of their own -/
theorem src_lit (w : World) (e : TypeId) (size n : Nat) (l : List Int) (hl : l.length = n * size) :
    Src (w.alloc (.cells (ints l).toArray e)) size (.slice (some ⟨w.heap.size, 0, none⟩) n n) n (ints l) := by
  refine ⟨by simpa [ints] using hl, .inr ⟨_, _, rfl, fun j u hj => ?_⟩⟩
  rw [add_lit0]
  simp [hj]

/-- a slice that is owned, read as an argument -/
theorem flatAt_own {ex : Bool} (hs : SlO ex e size v n (ints l) bs) (hO : Own W (bs ++ m) w) (hwf : ∀ x ∈ l, (Lit.int .i64 x).wf = true) {A : Option Addr} {c : Nat} (hv : v = .slice A n c) :
    FlatAt w (List.replicate size (some .i64)) A n := by
  intro hn
  obtain ⟨g, cap, cur, hv', -⟩ := hs.form hn
  rw [hv] at hv'
  cases hv'
  refine ⟨g, 0, rfl, hs.lt hO hv, fun i hi j k hk => ?_⟩
  have hj : j < size := by have := (List.getElem?_eq_some_iff.1 hk).1; simpa using this
  have hk' : k = some .i64 := by
    rw [List.getElem?_replicate, if_pos hj] at hk
    exact (Option.some.inj hk).symm
  subst hk'
  rw [List.length_replicate]
  have hlen := hs.len
  have hlt : 0 + i * size + j < l.length := by
    have h1 : (i + 1) * size ≤ n * size := Nat.mul_le_mul_right _ hi
    rw [Nat.succ_mul] at h1
    simp [ints] at hlen
    omega
  exact ⟨.int .i64 l[0 + i * size + j], hs.cell hO hv (ints_get (List.getElem?_eq_getElem hlt)), _, rfl, hwf _ (List.getElem_mem hlt)⟩
end
end Go.Proofs.Ytljcndcmdphmgaa
