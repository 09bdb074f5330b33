import Derived.Test.YtmnpccpfejgkmaaGreatJkJtW
import Derived.Test.YtmnpccpfejgkmaaGreatJkJkT
import Derived.Test.YtmnpccpfejgkmaaGreatJkJkC31A
import Derived.Test.YtmnpccpfejgkmaaGreatJkJkC31B
import Derived.Test.YtmnpccpfejgkmaaGreatJkJkC33A
import Derived.Test.YtmnpccpfejgkmaaGreatJkJkC33B
/-
  wainscotlaw30.JudgeKnown: its known calls. No condition.
-/
namespace Go.Proofs.YtmnpccpfejgkmaaGreat.Jk
open Go Ex
open Jt (fn_works works_walk Ω0 ro0)
theorem fn_torn : FnOk Tryz.prog 11 := ⟨Tryz.f11, _, Tryz.func11, by kernel_rfl, rfl⟩
/-- calls that are known, by the round -/
def kcsR (i : Nat) : Kg := if i = 31 then kcs31 else if i = 33 then kcs33 else kcs0
section
variable {σ : Nat → Int}
theorem kc_works (fs : List (Cnd × Bool)) (ok : ∀ f ∈ fs, f.1.ev σ = f.2) : @KcOk (nums [] [] ro0 σ Ω0 fs ok) Tryz.prog kcWorks := by
  letI N : Nums := nums [] [] ro0 σ Ω0 fs ok
  refine kc_pure rfl rfl rfl rfl rfl fn_works fun _ W w m hO => (works_walk w).mono ?_
  rintro e w' ⟨rfl, h'⟩
  exact ⟨rfl, hO.of_self h'⟩
theorem kcs0_all : KcAll [] [] ro0 Tryz.prog σ Ω0 kcs0 := kcAll_cons (fun fs ok => kc_works fs ok) kcAll_nil
theorem torn_walk (w : World) : Calls Tryz.prog 11 #[.int .i64 4, .int .i64 3, .int .i64 2] w fun e w' => e = .returned (.bool true) ∧ Own w [] w' := by
  have ha : @VRs (nums [] [] ro0 (fun _ => 0) Ω0 [] (by simp)) (fun _ => none) [.int .i64 4, .int .i64 3, .int .i64 2] [.int .i64 4, .int .i64 3, .int .i64 2] := by
    letI N : Nums := nums [] [] ro0 (fun _ => 0) Ω0 [] (by simp)
    exact VRs.cons (by unfold VR; rfl) (VRs.cons (by unfold VR; rfl) (VRs.cons (by unfold VR; rfl) VRs.nil))
  exact law_calls (σ := fun _ => 0) mixed kcs0_all lnAll_nil (fs := []) (by simp) runT rfl w (fun g l h => by cases h) (fun i k A len c h => by cases h) ha
theorem kc_torn (fs : List (Cnd × Bool)) (ok : ∀ f ∈ fs, f.1.ev σ = f.2) : @KcOk (nums [] [] ro0 σ Ω0 fs ok) Tryz.prog kcTorn := by
  letI N : Nums := nums [] [] ro0 σ Ω0 fs ok
  refine kc_pure rfl rfl rfl rfl rfl fn_torn fun _ W w m hO => (torn_walk w).mono ?_
  rintro e w' ⟨rfl, h'⟩
  exact ⟨rfl, hO.of_self h'⟩
theorem kcs1_all : KcAll [] [] ro0 Tryz.prog σ Ω0 kcs1 := kcAll_cons (fun fs ok => kc_works fs ok) (kcAll_cons (fun fs ok => kc_torn fs ok) kcAll_nil)
end
theorem fn_finds : FnOk Tryz.prog 9 := ⟨Tryz.f9, _, Tryz.func9, by kernel_rfl, rfl⟩
/-- a call out of memory that is told block by block -/
theorem kc_cut {σ : Nat → Int} {pre : List (Nat × TB)} {arg : List AV} {kn : Nat} (hsub : pre = subH {} pre) (hasub : arg = AV.subs {} arg)
    (hform : kcForm { f := 9, args := arg, pre := pre, post := pre, res := .bool true } pre ⟨0, 0, 0, kn⟩ arg = true)
    (hleaf : leafOk { f := 9, args := arg, pre := pre, post := pre, res := .bool true } pre kn {} ⟨0, 0, 0, 700000⟩ = true)
    (h : treeC Tryz.prog [] [] kcs0 [] 40 9 arg ⟨[], pre, ⟨0, 0, 0, kn⟩⟩ (({ f := 9, args := arg, pre := pre, post := pre, res := .bool true } : Kc).leaf {}) [] = true)
    (fs : List (Cnd × Bool)) (ok : ∀ f ∈ fs, f.1.ev σ = f.2) : @KcOk (nums [] [] ro0 σ Ω0 fs ok) Tryz.prog { f := 9, args := arg, pre := pre, post := pre, res := .bool true } := by
  have ag : ∀ kn', AgreeD {} ⟨0, 0, 0, kn'⟩ ro0 σ Ω0 σ Ω0 := fun kn' => ⟨fun j hj => absurd hj (by simp), fun j hj => absurd hj (by simp), fun j hj => absurd hj (by simp), fun j hj => absurd hj (by simp), fun j p hp => by cases hp⟩
  exact kc_tree (k := { f := 9, args := arg, pre := pre, post := pre, res := .bool true }) (A := arg) (pre := pre) (B0 := ⟨0, 0, 0, kn⟩) (θ0 := {}) mixed (fs1 := []) fn_finds hsub hasub rfl rfl hform kcs0_all lnAll_nil (by simp) h (ag kn) ⟨{}, ⟨0, 0, 0, 700000⟩, rfl, rfl, hleaf, ag 700000⟩ fs ok
section
variable {σ : Nat → Int}
theorem kcs31_all : KcAll [] [] ro0 Tryz.prog σ Ω0 kcs31 :=
  kcAll_cons (fun fs ok => kc_works fs ok) (kcAll_cons (fun fs ok => kc_cut (by kernel_rfl) (by kernel_rfl) (by kernel_rfl) (by kernel_rfl) runA31 fs ok) (kcAll_cons (fun fs ok => kc_cut (by kernel_rfl) (by kernel_rfl) (by kernel_rfl) (by kernel_rfl) runB31 fs ok) kcAll_nil))
theorem kcs33_all : KcAll [] [] ro0 Tryz.prog σ Ω0 kcs33 :=
  kcAll_cons (fun fs ok => kc_works fs ok) (kcAll_cons (fun fs ok => kc_cut (by kernel_rfl) (by kernel_rfl) (by kernel_rfl) (by kernel_rfl) runA33 fs ok) (kcAll_cons (fun fs ok => kc_cut (by kernel_rfl) (by kernel_rfl) (by kernel_rfl) (by kernel_rfl) runB33 fs ok) kcAll_nil))
theorem kcsR_all (i : Nat) : KcAll [] [] ro0 Tryz.prog σ Ω0 (kcsR i) := by
  unfold kcsR
  split
  · exact kcs31_all
  · split
    · exact kcs33_all
    · exact kcs0_all
end
end Go.Proofs.YtmnpccpfejgkmaaGreat.Jk
