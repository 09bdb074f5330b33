/-
  A chart that may be, out of any. No condition.
-/
import Derived.Test.YtigakendeghoaaaApart
import Derived.Test.YtigakendeghoaaaBring
namespace Go.Proofs.Ytigakendeghoaaa.Apart
open Go Ex chartPlaces
def five (j : Nat) (n : Int) : Nat × List AV × AV := (43, [.sym .i64 (v j), .int .i64 n], .sym .i64 (v (6 + j)))
def ovB : Ov := [five 0 8, five 1 32, five 2 16, five 3 33, five 4 33]
def one (j : Nat) : AV := .sym .i64 (.bin .add (l 1) (v (6 + j)))
def tMade : DT := .is (.agg [one 0, one 1, one 2, .sym .i64 (v 9), .sym .i64 (v 10), .sym .u64 (v 5)])
theorem r_made : tree Try.prog [] ovB 30 40 [chart] tMade [] = true := by kernel_rfl
section
variable {a b c d e key : Int} {W w : World} {m : List (Nat × Obj)}
def sB (a b c d e key : Int) : Nat → Int := fun n => [a, b, c, d, e, key, a % 8, b % 32, c % 16, d % 33, e % 33].getD n 0
theorem okB (ha : (Lit.int .i64 a).wf = true) (hb : (Lit.int .i64 b).wf = true) (hc : (Lit.int .i64 c).wf = true) (hd : (Lit.int .i64 d).wf = true) (he : (Lit.int .i64 e).wf = true) : OvOk Try.prog [] (sB a b c d e key) ovB := by
  have one : ∀ (x n : Int) (hx : (Lit.int .i64 x).wf = true) (h1 : 1 ≤ n) (h2 : n ≤ 64) (w : World), Tabs [] w → Calls Try.prog 43 #[.int .i64 x, .int .i64 n] w fun r w' => r = .returned (.int .i64 (x % n)) ∧ RowKit.Below w.heap.size w w' :=
    fun x n hx h1 h2 w _ => (bring_spec x n h1 (by omega) hx w).mono fun _ _ h => ⟨h.1, h.2 ▸ RowKit.Below.refl _ _⟩
  have hf : FnOk Try.prog 43 := ⟨Try.f43, _, Try.func43, by kernel_rfl, rfl⟩
  exact ov_cons (ov_cons (ov_cons (ov_cons (ov_cons ov_nil rfl rfl hf (one e 33 he (by omega) (by omega))) rfl rfl hf (one d 33 hd (by omega) (by omega))) rfl rfl hf (one c 16 hc (by omega) (by omega))) rfl rfl hf (one b 32 hb (by omega) (by omega))) rfl rfl hf (one a 8 ha (by omega) (by omega))
theorem made_ok (ha : (Lit.int .i64 a).wf = true) (hb : (Lit.int .i64 b).wf = true) (hc : (Lit.int .i64 c).wf = true) (hd : (Lit.int .i64 d).wf = true) (he : (Lit.int .i64 e).wf = true) (hO : Own W m w) :
    Calls Try.prog 40 #[chV a b c d e key] w fun r w' => (∃ C S O d' e', Ok C S O d' e' ∧ r = .returned (chV C S O d' e' key)) ∧ Own W m w' := by
  refine (tree_ends (σ := sB a b c d e key) mixed (okB ha hb hc hd he) (args := [chart]) rfl tMade [] (by simp) r_made (no_bad rfl) w tabs_nil).mono ?_
  rintro _ _ ⟨⟨x, rfl, hx⟩, h2⟩
  refine ⟨⟨1 + a % 8, 1 + b % 32, 1 + c % 16, d % 33, e % 33, by unfold Ok; omega, ?_⟩, hO.then_below h2⟩
  rw [ends_of hx]
  have w1 : IntKind.i64.wrap (1 + a % 8) = 1 + a % 8 := wrap_id (by omega)
  have w2 : IntKind.i64.wrap (1 + b % 32) = 1 + b % 32 := wrap_id (by omega)
  have w3 : IntKind.i64.wrap (1 + c % 16) = 1 + c % 16 := wrap_id (by omega)
  have e : endOf (sB a b c d e key) tMade = chV (IntKind.i64.wrap (1 + a % 8)) (IntKind.i64.wrap (1 + b % 32)) (IntKind.i64.wrap (1 + c % 16)) (d % 33) (e % 33) key := rfl
  rw [e, w1, w2, w3]
end
end Go.Proofs.Ytigakendeghoaaa.Apart
