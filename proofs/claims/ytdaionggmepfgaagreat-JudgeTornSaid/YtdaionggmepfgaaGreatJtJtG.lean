import Derived.Test.YtdaionggmepfgaaGreatJtJtRw
import Derived.Test.YtdaionggmepfgaaGreatJtJtR0
import Derived.Test.YtdaionggmepfgaaGreatJtJtR1
import Derived.Test.YtdaionggmepfgaaGreatJtJtR2
import Derived.Test.YtdaionggmepfgaaGreatJtJtR3
import Derived.Test.YtdaionggmepfgaaGreatJtJtR4
import Derived.Test.YtdaionggmepfgaaGreatJtJtR5
import Derived.Test.YtdaionggmepfgaaGreatJt9
/-
  wainscotlaw30.JudgeTorn: the walk of its text: it answers true. No condition.
-/
namespace Go.Proofs.YtdaionggmepfgaaGreat.Jt
open Go Ex
theorem fn_bring : FnOk Tryz.prog 10 := ⟨Tryz.f10, _, Tryz.func10, by kernel_rfl, rfl⟩
theorem fn_works : FnOk Tryz.prog 9 := ⟨Tryz.f9, _, Tryz.func9, by kernel_rfl, rfl⟩
theorem mixed : Tryz.prog.follows .mixedOrders = true := by kernel_rfl
abbrev Ω0 : Nat → Nat → Nat → Obj → Prop := fun _ _ _ _ => True
abbrev ro0 : Nat → Option (Option Addr × Nat × Nat) := fun _ => none
theorem ln_none {f : FuncId} {σ : Nat → Int} : LnAll [] [] ro0 Tryz.prog f σ Ω0 [] := lnAll_nil
theorem kxW_all {σ : Nat → Int} : KxAll [] [] ro0 Tryz.prog σ Ω0 kxW := fun fs ok h args k hk => by
  letI N : Nums := nums [] [] ro0 σ Ω0 fs ok
  rcases List.mem_append.1 hk with hk | hk
  · exact kc_head k hk
  · exact kc_path k hk
theorem works_walk (w : World) : Calls Tryz.prog 9 #[] w fun e w' => e = .returned (.bool true) ∧ Own w [] w' :=
  lawK_calls (σ := fun _ => 0) mixed kxW_all ln_none (fs := []) (by simp) runW rfl w (fun g l h => by cases h) (fun i k A len c h => by cases h) (by unfold VRs; rfl)
/-- what the numbers are -/
def sF (n0 n1 n2 : Int) : Nat → Int := fun i => if i = 0 then n0 % 30 else if i = 2 then n2 % (1 + n0 % 30) else if i = 30 then n0 else if i = 31 then n1 else if i = 32 then n2 else 0
section
variable {n0 n1 n2 : Int}
theorem sF_0 : sF n0 n1 n2 0 = n0 % 30 := rfl
theorem sF_2 : sF n0 n1 n2 2 = n2 % (1 + n0 % 30) := rfl
theorem sF_30 : sF n0 n1 n2 30 = n0 := rfl
theorem sF_31 : sF n0 n1 n2 31 = n1 := rfl
theorem sF_32 : sF n0 n1 n2 32 = n2 := rfl
theorem small {x : Int} (h0 : -9223372036854775808 ≤ x) (h1 : x < 9223372036854775808) : IntKind.i64.wrap x = x := by
  rw [IntKind.wrap_i64]
  omega
theorem nE_ev : nE.ev (sF n0 n1 n2) = 1 + n0 % 30 := by
  have h1 := Int.emod_nonneg n0 (show (30 : Int) ≠ 0 by omega)
  have h2 := Int.emod_lt_of_pos n0 (show (0 : Int) < 30 by omega)
  show IntKind.i64.wrap (1 + sF n0 n1 n2 0) = _
  rw [sF_0, small] <;> omega
theorem fA_ok : ∀ f ∈ fA, f.1.ev (sF n0 n1 n2) = f.2 := by
  have h1 := Int.emod_nonneg n0 (show (30 : Int) ≠ 0 by omega)
  have h2 := Int.emod_lt_of_pos n0 (show (0 : Int) < 30 by omega)
  have h3 := Int.emod_nonneg n2 (show (1 + n0 % 30 : Int) ≠ 0 by omega)
  have h4 := Int.emod_lt_of_pos n2 (show (0 : Int) < 1 + n0 % 30 by omega)
  have e1 : (add (v 2) (l 1)).ev (sF n0 n1 n2) = n2 % (1 + n0 % 30) + 1 := by
    show IntKind.i64.wrap (sF n0 n1 n2 2 + 1) = _
    rw [sF_2, small] <;> omega
  have e2 : (SE.bin .sub nE (l 1)).ev (sF n0 n1 n2) = n0 % 30 := by
    show IntKind.i64.wrap (nE.ev (sF n0 n1 n2) - 1) = _
    rw [nE_ev, small] <;> omega
  have e3 : (SE.len (.rep nE)).ev (sF n0 n1 n2) = 1 + n0 % 30 := by
    show ((nE.ev (sF n0 n1 n2)).toNat : Int) = _
    rw [nE_ev]
    omega
  have v0 : (v 0).ev (sF n0 n1 n2) = n0 % 30 := rfl
  have v2 : (v 2).ev (sF n0 n1 n2) = n2 % (1 + n0 % 30) := rfl
  have l0 : ∀ n, (l n).ev (sF n0 n1 n2) = n := fun n => rfl
  intro f hf
  simp only [fA, rng, List.mem_append, List.mem_cons, List.not_mem_nil, or_false] at hf
  rcases hf with ((rfl | rfl) | rfl | rfl) | rfl | rfl | rfl | rfl | rfl <;> simp only [Cnd.ev, v0, v2, l0, e1, e2, e3, nE_ev] <;> first | (apply decide_eq_true; omega) | (apply decide_eq_false; omega)
theorem kxL_all (h0 : (Lit.int .i64 n0).wf = true) (h1 : (Lit.int .i64 n1).wf = true) (h2 : (Lit.int .i64 n2).wf = true) : KxAll [] [] ro0 Tryz.prog (sF n0 n1 n2) Ω0 (kxL (n1 % 6)) := fun fs ok h args k hk => by
  letI N : Nums := nums [] [] ro0 (sF n0 n1 n2) Ω0 fs ok
  have m1 := Int.emod_nonneg n0 (show (30 : Int) ≠ 0 by omega)
  have m2 := Int.emod_lt_of_pos n0 (show (0 : Int) < 30 by omega)
  rcases List.mem_append.1 hk with hk | hk
  · simp only [kcs0, List.mem_cons, List.not_mem_nil, or_false] at hk
    rcases hk with rfl | rfl | rfl | rfl
    · refine kc_pure rfl rfl rfl rfl rfl fn_works fun _ W w m hO => (works_walk w).mono ?_
      rintro e w' ⟨rfl, h'⟩
      exact ⟨rfl, hO.of_self h'⟩
    · refine kc_pure rfl rfl rfl rfl rfl fn_bring fun _ W w m hO => ?_
      have hargs : valsOf N.σ kcB30.args = [.int .i64 n0, .int .i64 30] := rfl
      rw [hargs]
      refine (bring_spec n0 30 (by omega) (by omega) h0 w).mono ?_
      rintro e w' ⟨rfl, rfl⟩
      exact ⟨rfl, hO⟩
    · refine kc_pure rfl rfl rfl rfl rfl fn_bring fun _ W w m hO => ?_
      have hargs : valsOf N.σ (kcB6 (n1 % 6)).args = [.int .i64 n1, .int .i64 6] := rfl
      rw [hargs]
      refine (bring_spec n1 6 (by omega) (by omega) h1 w).mono ?_
      rintro e w' ⟨rfl, rfl⟩
      exact ⟨rfl, hO⟩
    · refine kc_pure rfl rfl rfl rfl rfl fn_bring fun _ W w m hO => ?_
      have hargs : valsOf N.σ kcBn.args = [.int .i64 n2, .int .i64 (1 + n0 % 30)] := by
        show [Value.int .i64 (sF n0 n1 n2 32), Value.int .i64 (nE.ev (sF n0 n1 n2))] = _
        rw [nE_ev, sF_32]
      rw [hargs]
      refine (bring_spec n2 (1 + n0 % 30) (by omega) (by omega) h2 w).mono ?_
      rintro e w' ⟨rfl, rfl⟩
      exact ⟨rfl, hO⟩
  · exact kc_cf k hk
theorem six (n : Int) : n % 6 = 0 ∨ n % 6 = 1 ∨ n % 6 = 2 ∨ n % 6 = 3 ∨ n % 6 = 4 ∨ n % 6 = 5 := by omega
theorem torn_law (W : World) (h0 : (Lit.int .i64 n0).wf = true) (h1 : (Lit.int .i64 n1).wf = true) (h2 : (Lit.int .i64 n2).wf = true) : Calls Tryz.prog 4 #[.int .i64 n0, .int .i64 n1, .int .i64 n2] W fun e w' => e = .returned (.bool true) ∧ Own W [] w' := by
  have hk := kxL_all h0 h1 h2
  have ha : ∀ fs (ok : ∀ f ∈ fs, f.1.ev (sF n0 n1 n2) = f.2), @VRs (nums [] [] ro0 (sF n0 n1 n2) Ω0 fs ok) (fun _ => none) argA [.int .i64 n0, .int .i64 n1, .int .i64 n2] := fun fs ok => by
    letI N : Nums := nums [] [] ro0 (sF n0 n1 n2) Ω0 fs ok
    exact VRs.cons (by unfold VR; rfl) (VRs.cons (by unfold VR; rfl) (VRs.cons (by unfold VR; rfl) VRs.nil))
  have hrun : treeK Tryz.prog [] [] (kxL (n1 % 6)) [] 30 4 argA ⟨[], [], ⟨0, 0, 0, 0⟩⟩ okT fA = true := by
    rcases six n1 with h | h | h | h | h | h <;> rw [h]
    · exact runL0
    · exact runL1
    · exact runL2
    · exact runL3
    · exact runL4
    · exact runL5
  exact lawK_calls mixed hk ln_none fA_ok hrun rfl W (fun g l h => by cases h) (fun i k A len c h => by cases h) (ha fA fA_ok)
end
end Go.Proofs.YtdaionggmepfgaaGreat.Jt
