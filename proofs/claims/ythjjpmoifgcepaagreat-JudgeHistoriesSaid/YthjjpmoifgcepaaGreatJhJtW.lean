import Derived.Test.YthjjpmoifgcepaaGreatJhJtRw
/-
  wainscotlaw30.works: it answers true. No condition.
-/
namespace Go.Proofs.YthjjpmoifgcepaaGreat.Jt
open Go Ex
theorem fn_works : FnOk Tryz.prog 8 := ⟨Tryz.f8, _, Tryz.func8, by kernel_rfl, rfl⟩
theorem mixed : Tryz.prog.follows .mixedOrders = true := by kernel_rfl
abbrev Ω0 : Nat → Nat → Nat → Obj → Prop := fun _ _ _ _ => True
abbrev ro0 : Nat → Option (Option Addr × Nat × Nat) := fun _ => none
theorem ln_none {f : FuncId} {σ : Nat → Int} : LnAll [] [] ro0 Tryz.prog f σ Ω0 [] := lnAll_nil
theorem kxW_all {σ : Nat → Int} : KxAll [] [] ro0 Tryz.prog σ Ω0 kxW := fun fs ok h args k hk => by
  letI N : Nums := nums [] [] ro0 σ Ω0 fs ok
  rcases List.mem_append.1 hk with hk | hk
  · exact kc_head k hk
  · exact kc_path k hk
theorem works_walk (w : World) : Calls Tryz.prog 8 #[] w fun e w' => e = .returned (.bool true) ∧ Own w [] w' :=
  lawK_calls (σ := fun _ => 0) mixed kxW_all ln_none (fs := []) (by simp) runW rfl w (fun g l h => by cases h) (fun i k A len c h => by cases h) (by unfold VRs; rfl)
end Go.Proofs.YthjjpmoifgcepaaGreat.Jt
