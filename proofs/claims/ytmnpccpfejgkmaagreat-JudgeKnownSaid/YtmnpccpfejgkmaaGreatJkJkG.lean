import Derived.Test.YtmnpccpfejgkmaaGreatJkJkK
import Derived.Test.YtmnpccpfejgkmaaGreatJkJkR0
import Derived.Test.YtmnpccpfejgkmaaGreatJkJkR1
import Derived.Test.YtmnpccpfejgkmaaGreatJkJkR2
import Derived.Test.YtmnpccpfejgkmaaGreatJkJkR3
import Derived.Test.YtmnpccpfejgkmaaGreatJkJkR4
import Derived.Test.YtmnpccpfejgkmaaGreatJkJkR5
import Derived.Test.YtmnpccpfejgkmaaGreatJkJkR6
import Derived.Test.YtmnpccpfejgkmaaGreatJkJkR7
import Derived.Test.YtmnpccpfejgkmaaGreatJkJkR8
import Derived.Test.YtmnpccpfejgkmaaGreatJkJkR9
import Derived.Test.YtmnpccpfejgkmaaGreatJkJkR10
import Derived.Test.YtmnpccpfejgkmaaGreatJkJkR11
import Derived.Test.YtmnpccpfejgkmaaGreatJkJkQ31
import Derived.Test.YtmnpccpfejgkmaaGreatJkJkQ33
/-
  wainscotlaw30.JudgeKnown: it answers true. No condition.
-/
namespace Go.Proofs.YtmnpccpfejgkmaaGreat.Jk
open Go Ex
open Jt (Ω0 ro0)
theorem rounds : ∀ i, i ≤ 34 → roundK (kcsR i) i = true
  | 0, _ => r0
  | 1, _ => r1
  | 2, _ => r2
  | 3, _ => r3
  | 4, _ => r4
  | 5, _ => r5
  | 6, _ => r6
  | 7, _ => r7
  | 8, _ => r8
  | 9, _ => r9
  | 10, _ => r10
  | 11, _ => r11
  | 12, _ => r12
  | 13, _ => r13
  | 14, _ => r14
  | 15, _ => r15
  | 16, _ => r16
  | 17, _ => r17
  | 18, _ => r18
  | 19, _ => r19
  | 20, _ => r20
  | 21, _ => r21
  | 22, _ => r22
  | 23, _ => r23
  | 24, _ => r24
  | 25, _ => r25
  | 26, _ => r26
  | 27, _ => r27
  | 28, _ => r28
  | 29, _ => r29
  | 30, _ => r30
  | 31, _ => r31
  | 32, _ => r32
  | 33, _ => r33
  | 34, _ => r34
  | i + 35, h => absurd h (by omega)
/-- the number of the round -/
def sI (i : Nat) : Nat → Int := fun _ => i
theorem agree_sI {θ : Sub} {B : Bd} {σ : Nat → Int} {i : Nat} (hk : B.k = 1) (hkl : B.kl = 0) (hko : B.ko = 0) (h : (θ.vAt 0).ev σ = i) : AgreeD θ B ro0 σ Ω0 (sI i) Ω0 := by
  refine ⟨fun j hj => ?_, fun j hj => by omega, fun j hj => by omega, fun j hj => by omega, fun j p hp => by cases hp⟩
  have : j = 0 := by omega
  subst this
  exact h.symm
theorem lns_all (fs : List (Cnd × Bool)) (ok : ∀ q ∈ fs, q.1.ev (sI 34) = q.2) (c : Code) (hc : c ∈ loopsOf (bodyOf Tryz.prog 3)) (hk : loopId c = some L1.key) : @LnOk (nums [] [] ro0 (sI 34) Ω0 fs ok) Tryz.prog (ntOf Tryz.prog 3) c L1 := by
  refine ln_okS [] [] ro0 mixed (f := 3) (ι := Nat) (l := L1) (kcs := kcsR) (lns := fun _ => []) (n := 40) (dt := D1) (fs0 := f1) (σ0 := sI 34) (Ω0 := Ω0) (fun i => i ≤ 34) (fun i hi => rounds i hi) (by kernel_rfl) rfl rfl rfl
    (fun i => 34 - i) sI (fun _ => Ω0) ?_ (fun i _ => kcsR_all i) (fun _ _ => lnAll_nil) 0 (by omega) ?_ ?_ fs ok c hc hk
  · intro i _ q hq
    simp only [f1, List.mem_cons, List.not_mem_nil, or_false] at hq
    subst hq
    simp [Cnd.ev, SE.ev, v, l, sI]
  · exact agree_sI rfl rfl rfl rfl
  · intro i hi
    by_cases h : i < 34
    · rw [show D1 i = .leaf (.cont { v := [(0, .bin .add (v 0) (l 1))] }) from if_pos h]
      refine ⟨i + 1, by omega, by omega, agree_sI rfl rfl rfl ?_⟩
      show IntKind.i64.wrap ((i : Int) + 1) = ((i + 1 : Nat) : Int)
      rw [IntKind.wrap_i64]
      omega
    · have : i = 34 := by omega
      subst this
      exact agree_sI rfl rfl rfl rfl
theorem known_law (W : World) : Calls Tryz.prog 3 #[] W fun e w' => e = .returned (.bool true) ∧ Own W [] w' :=
  law_calls (σ := sI 34) mixed kcs1_all (lnAll_cons (fun fs ok c hc hk => lns_all fs ok c hc hk) lnAll_nil) (fs := []) (by simp) run0 rfl W (fun g l h => by cases h) (fun i k A len c h => by cases h) (by unfold VRs; rfl)
end Go.Proofs.YtmnpccpfejgkmaaGreat.Jk
