/-
  Texts of this claim, joined. No condition.
-/
import Derived.Test.YtigakendeghoaaaFa9
import Derived.Test.YtigakendeghoaaaFa5
import Derived.Test.YtigakendeghoaaaFa7
/-
  fast.Step, place by place: trees of questions, run by the kernel. No condition.
-/
namespace Go.Proofs.Ytigakendeghoaaa.Fast
open Go Ex Step
noncomputable section
def argsT (pc e w : AV) : List AV := [chartA, .agg (taskA pc e w)]
def runT (kn : List Kn) (pc : Int) (d : DM) : Bool := treeM Try.prog [] [] kn 60 48 (.ptr 0 0 :: argsT (nI pc) (nI 0) (nI 0)) 0 d factsC
/-! 0, 10 -/
def knTurn : List Kn := [kLen 76, kLoad 124 (add headE (l 1)) 31 csCpu, kLoadN 124]
def dTurn (pc : Int) : DM := cpuQ (onT pc [(8, sU 31), (2, nI (pc + 1))] 1) (brk pc 0)
theorem run0 : runT knTurn 0 (dTurn 0) = true := by kernel_rfl
theorem run10 : runT knTurn 10 (dTurn 10) = true := by kernel_rfl
/-! 1, 11 -/
def knHead : List Kn := [kLen 76, kLoad 124 headE 31 csCpu, kLoadN 124, kHeadOfY 80, kHeadOfN 80, kHeadOf0 80]
def dLook : DM :=
  let b := brk 1 1
  let x := fun pc => onT 1 [(7, sU 31), (5, sI 33), (6, sI 34), (2, nI pc)] 1
  cpuQ (isQ 32 (.node (.lt (v 33) (l 0)) (.node (.lt (v 33) (v 21)) (.node (.lt (v 34) (v 22)) (x 30) b) .bad) (.node (.lt (v 33) (v 21)) (.node (.lt (v 34) (v 22)) (.node (.lt (v 34) (l 0)) (x 20) (x 2)) (.node (.lt (v 34) (l 0)) b b)) (.node (.lt (v 34) (l 0)) b b))) b) (brk 1 0)
theorem run1 : runT knHead 1 dLook = true := by kernel_rfl
def dMine : DM :=
  let b := brk 11 1
  let e := fun (y n : DM) => DM.node (.eq (v 33) (v 5)) y n
  let e1 := fun (y n : DM) => DM.node (.eq (l (-1)) (v 5)) y n
  cpuQ (isQ 32 (.node (.lt (v 33) (v 21)) (.node (.lt (v 34) (v 22)) (e (onT 11 [(7, sU 31), (12, sI 34), (2, nI 12)] 1) (onT 11 [(7, sU 31), (2, nI 50)] 1)) (e b b)) (e b b)) (e1 b b)) (e1 (brk 11 0) (brk 11 0))
theorem run11 : runT knHead 11 dMine = true := by kernel_rfl
/-! 2 -/
def showXs (w : AV) : List AV := [w, .sym .u64 (keyE (v 5)), sI 6]
def knNext : List Kn := [kLen 76, kLoad 124 (linkE (v 5) (v 6)) 31 (csLink (v 5) (v 6)), kLoadN 124, kShowY 114 35 (showXs (sU 31)), kShowN 114 35 (showXs (sU 31)), kShowY 114 45 (showXs (nU 0)), kShowN 114 45 (showXs (nU 0))]
def dNext : DM :=
  let b := brk 2 0
  let again := onT 2 [(2, nI 0)] 1
  linkQ (v 5) (v 6) (isQ 35 (.node (.lt (v 36) (v 22)) (onT 2 [(12, sI 36), (2, nI 3)] 1) again) again) (isQ 45 (.node (.lt (v 46) (v 22)) b b) b)
theorem run2 : runT knNext 2 dNext = true := by kernel_rfl
/-! 3, 13 -/
def swapXs : List AV := [sU 7, sU 8, sU 38, .sym .u64 (.ubin .add (v 8) (l 1))]
def knSwap (o : Nat) : List Kn := [kLen 76, kHeadY 73 [sI 5, sI o], kHeadN 73 [sI 5, sI o], kCas2Y 129 headE swapXs csCpu, kCas2F 129 headE swapXs csCpu, kCas2N 129 swapXs]
def dSwap (pc again : Int) : DM := okQ 37 (cpuQ (isQ 41 (onT pc [(3, nI 1)] 1) (onT pc [(2, nI again)] 2)) (brk pc 0)) (brk pc 0)
theorem run3 : runT (knSwap 12) 3 (dSwap 3 0) = true := by kernel_rfl
theorem run13 : runT (knSwap 6) 13 (dSwap 13 10) = true := by kernel_rfl
/-! 12 -/
def hideXs : List AV := [sI 12, .sym .u64 (keyE (v 5)), sI 6]
def knTie : List Kn := [kLen 76, kHideY 116 hideXs, kHideN 116 hideXs, kStore 49 (linkE (v 5) (v 6)) (sU 40) (csLink (v 5) (v 6)), kStoreN 49 (sU 40)]
def dTie : DM := okQ 39 (linkQ (v 5) (v 6) (onT 12 [(2, nI 13)] 1) (brk 12 0)) (brk 12 0)
theorem run12 : runT knTie 12 dTie = true := by kernel_rfl
end
end Go.Proofs.Ytigakendeghoaaa.Fast

/-
  fast.Step in plain Lean, and that it is that. No condition.
-/
namespace Go.Proofs.Ytigakendeghoaaa.Fast
open Go Ex Mem See Step
open chartPlaces (Ok)
/-! what each place does: the task behind it, the words behind it -/
def pTurn (c : Ch) (g : List Nat) (t : TaskP) : TaskP := if cpuOk c t.cpu then { t with t := at_ g (headN t.cpu + 1), pc := t.pc + 1 } else t.brk
/-- a head, if the chart has that -/
def headC (c : Ch) (x : Nat) : Option (Int × Int) := match headOf x with
  | some (s, o) => if s < c.S ∧ o < c.O then some (s, o) else none
  | none => none
def pLook (c : Ch) (g : List Nat) (t : TaskP) : TaskP := if cpuOk c t.cpu then match headC c (at_ g (headN t.cpu)) with
    | some (s, o) => { t with h := at_ g (headN t.cpu), slab := s, obj := o, pc := if s < 0 then 30 else if o < 0 then 20 else 2 }
    | none => t.brk
  else t.brk
def pMine (c : Ch) (g : List Nat) (t : TaskP) : TaskP := if cpuOk c t.cpu then match headC c (at_ g (headN t.cpu)) with
    | some (s, o) => if s = t.slab then { t with h := at_ g (headN t.cpu), last := o, pc := 12 } else { t with h := at_ g (headN t.cpu), pc := 50 }
    | none => t.brk
  else t.brk
def pNext (c : Ch) (g : List Nat) (t : TaskP) : TaskP := if linkOk c t.slab t.obj then match showOf (at_ g (linkN c t.slab t.obj)) (keyG c.key t.slab) t.obj.toNat with
    | some n => if n < c.O then { t with last := n, pc := 3 } else { t with pc := 0 }
    | none => { t with pc := 0 }
  else t.brk
/-- head and turn as they were read? -/
def isHead (g : List Nat) (t : TaskP) : Prop := at_ g (headN t.cpu) = t.h ∧ at_ g (headN t.cpu + 1) = t.t
instance (g : List Nat) (t : TaskP) : Decidable (isHead g t) := inferInstanceAs (Decidable (_ ∧ _))
def up64 (n : Nat) : Nat := (n + 1) % 18446744073709551616
def pSwap (o : TaskP → Int) (again : Int) (c : Ch) (g : List Nat) (t : TaskP) : TaskP × List Nat := if (headR t.slab (o t)).1 = 0 ∧ cpuOk c t.cpu then
    if isHead g t then ({ t with end_ := 1 }, (g.set (headN t.cpu) (headR t.slab (o t)).2).set (headN t.cpu + 1) (up64 t.t)) else ({ t with pc := again }, g)
  else (t.brk, g)
def pTie (c : Ch) (g : List Nat) (t : TaskP) : TaskP × List Nat := if (hideR t.last (keyG c.key t.slab) t.obj).1 = 0 ∧ linkOk c t.slab t.obj then
    ({ t with pc := 13 }, g.set (linkN c t.slab t.obj) (hideR t.last (keyG c.key t.slab) t.obj).2)
  else (t.brk, g)
/-- .. of a place of the table -/
def stepP (c : Ch) (g : List Nat) (t : TaskP) : TaskP × List Nat :=
  if t.pc = 0 ∨ t.pc = 10 then (pTurn c g t, g)
  else if t.pc = 1 then (pLook c g t, g)
  else if t.pc = 2 then (pNext c g t, g)
  else if t.pc = 3 then pSwap (·.last) 0 c g t
  else if t.pc = 11 then (pMine c g t, g)
  else if t.pc = 12 then pTie c g t
  else pSwap (·.obj) 10 c g t
section
variable {W w : World} {m : List (Nat × Obj)} {b0 b1 N k : Nat} {g : List Nat} {c : Ch} {d e : Int} {t : TaskP}
/-- from a tree's run to a step -/
theorem step_run {x : Nat} {r : List Int} {g1 g2 : List Nat} {kn : List Kn} {pc : Int} {dm : DM} {t' : TaskP} {g' : List Nat} (hO : Own W (mB b0 b1 N k :: wB b1 g :: m) w) (hc : COk c d e) (hNw : N = c.words) (ht : AtPc t pc)
    (hkn : KnAll Try.prog [] (sg t c d e N x r) (ωM N k g g1 g2) kn) (hrun : runT kn pc dm = true) (hbad : ¬ BadM (sg t c d e N x r) dm)
    (hends : ∀ y s, EndsM (sg t c d e N x r) dm y s → y = .tuple #[t'.v, .int .i64 0] ∧ s ≤ 2 ∧ (s = 0 → g' = g) ∧ (s = 1 → g' = g1) ∧ (s = 2 → g' = g2)) :
    Calls Try.prog 48 #[.pointer (some ⟨b0, 0, none⟩), cV c d e, t.v] w (StepRes W m b0 b1 N k t' g') := by
  have hN0 : N ≠ 0 := by rw [hNw]; exact (words_le hc).2
  have := treeM_own mixed ov_nil hkn (xs := argsT (nI pc) (nI 0) (nI 0)) rfl dm factsC (factsC_ok hc hN0) hrun hbad hO
  have hargs : Ex.valsOf (sg t c d e N x r) (argsT (nI pc) (nI 0) (nI 0)) = [cV c d e, t.v] := by
    obtain ⟨h1, h2, h3⟩ := ht
    have h4 : ({ t with pc := pc, end_ := 0, want := 0 } : TaskP) = t := by cases t; simp_all
    rw [← h4]
    rfl
  rw [hargs] at this
  refine this.mono ?_
  rintro r w' ⟨y, s, rfl, hx, h2⟩
  obtain ⟨rfl, hs, h3, h4, h5⟩ := hends y s hx
  match s, hs with
  | 0, _ => rw [h3 rfl]; exact ⟨0, by omega, rfl, h2⟩
  | 1, _ => rw [h4 rfl]; exact ⟨1, by omega, rfl, h2⟩
  | 2, _ => rw [h5 rfl]; exact ⟨1, by omega, rfl, h2⟩
theorem turn_spec {pc : Int} (hO : Own W (mB b0 b1 N k :: wB b1 g :: m) w) (hc : COk c d e) (hN : g.length = N) (hNw : N = c.words) (hk : k ≤ 1000000000) (ht : AtPc t pc) (hp : pc = 0 ∨ pc = 10) :
    Calls Try.prog 48 #[.pointer (some ⟨b0, 0, none⟩), cV c d e, t.v] w (StepRes W m b0 b1 N k (pTurn c g t) g) := by
  have hN2 : N ≤ 4096 := by rw [hNw]; exact (words_le hc).1
  have hn := hc.nums
  refine step_run (x := at_ g (headN t.cpu + 1)) (r := []) (g1 := g) (g2 := g) (kn := knTurn) (dm := dTurn pc) hO hc hNw ht ?_ (by rcases hp with rfl | rfl; exact run0; exact run10) (bad_cpuQ (c := c) (by omega) rfl bad_onT bad_onT) fun y s hx => ?_
  · unfold knTurn
    exact KnAll.cons (kn_len rfl) (KnAll.cons (kn_load hN hN2 hk rfl fun hcs => ⟨_, _, head1_ev hc (cpu_of hcs), at_some (by have := head_lt (cpu_of hcs); omega), rfl⟩) (KnAll.cons (kn_loadN hN2 hk) knAll_nil))
  obtain ⟨job, cpu, pc', en, wa, slab, obj, h, tt, f, kk, n, last, many, dst, back, for_⟩ := t
  obtain ⟨h1, h2, h3⟩ := ht
  simp only at h1 h2 h3
  subst h1 h2 h3
  rcases ends_cpuQ (c := c) (i := cpu) rfl rfl hx with ⟨hcpu, rfl, rfl⟩ | ⟨hcpu, rfl, rfl⟩
  · rw [pTurn, if_pos hcpu]
    exact ⟨rfl, by omega, by simp, by simp, by simp⟩
  · rw [pTurn, if_neg hcpu]
    exact ⟨rfl, by omega, by simp, by simp, by simp⟩
theorem knHead_ok {r : List Int} {g1 g2 : List Nat} (hc : COk c d e) (hN : g.length = N) (hNw : N = c.words) (hw : W64 g) (hk : k ≤ 1000000000) (hg : g1 = g) (hr : r = headL (at_ g (headN t.cpu))) :
    KnAll Try.prog [] (sg t c d e N (at_ g (headN t.cpu)) r) (ωM N k g g1 g2) knHead := by
  have hN2 : N ≤ 4096 := by rw [hNw]; exact (words_le hc).1
  subst hr
  have h1 : KnAll Try.prog [] (sg t c d e N (at_ g (headN t.cpu)) (headL (at_ g (headN t.cpu)))) (ωM N k g g1 g2) [kLen _, kLoad _ headE 31 csCpu, kLoadN _] :=
    KnAll.cons (kn_len rfl) (KnAll.cons (kn_load hN hN2 hk hg fun hcs => ⟨_, _, headE_ev hc (cpu_of hcs), at_some (by have := head_lt (cpu_of hcs); omega), rfl⟩) (KnAll.cons (kn_loadN hN2 hk) knAll_nil))
  have h2 := KnAll.app h1 (kn_headOf (σ := sg t c d e N (at_ g (headN t.cpu)) (headL (at_ g (headN t.cpu)))) (ω := ωM N k g g1 g2) (at_ g (headN t.cpu)) (at_lt hw _) rfl (by
    show (headL _).getD 0 0 = _
    unfold headL
    cases headOf (at_ g (headN t.cpu)) with
    | none => rfl
    | some p => rfl) (fun s o hs => by
    show (headL _).getD 1 0 = s ∧ (headL _).getD 2 0 = o
    unfold headL
    rw [hs]
    exact ⟨rfl, rfl⟩))
  exact h2
theorem look_spec (hO : Own W (mB b0 b1 N k :: wB b1 g :: m) w) (hc : COk c d e) (hN : g.length = N) (hNw : N = c.words) (hw : W64 g) (hk : k ≤ 1000000000) (ht : AtPc t 1) :
    Calls Try.prog 48 #[.pointer (some ⟨b0, 0, none⟩), cV c d e, t.v] w (StepRes W m b0 b1 N k (pLook c g t) g) := by
  have hn := hc.nums
  refine step_run (x := at_ g (headN t.cpu)) (r := headL (at_ g (headN t.cpu))) (g1 := g) (g2 := g) (kn := knHead) (dm := dLook) hO hc hNw ht (knHead_ok hc hN hNw hw hk rfl rfl) run1 ?_ fun y s hx => ?_
  · refine bad_cpuQ (c := c) (by omega) rfl (bad_node ?_ bad_onT) bad_onT
    rintro (⟨h1, ⟨_, ⟨_, h⟩ | ⟨_, h⟩⟩ | ⟨h2, _⟩⟩ | ⟨_, ⟨_, ⟨_, ⟨_, h⟩ | ⟨_, h⟩⟩ | ⟨_, ⟨_, h⟩ | ⟨_, h⟩⟩⟩ | ⟨_, ⟨_, h⟩ | ⟨_, h⟩⟩⟩)
    all_goals first
      | exact h
      | (simp only [Cnd.ev, SE.ev, v, l, decide_eq_true_eq, decide_eq_false_iff_not] at h1 h2
         rw [show sg t c d e N (at_ g (headN t.cpu)) (headL (at_ g (headN t.cpu))) 21 = c.S from rfl] at h2
         omega)
  obtain ⟨job, cpu, pc', en, wa, slab, obj, h, tt, f, kk, n, last, many, dst, back, for_⟩ := t
  obtain ⟨h1, h2, h3⟩ := ht
  simp only at h1 h2 h3
  subst h1 h2 h3
  generalize hσ : sg _ c d e N _ _ = σ at hx
  have e1 : σ 1 = cpu := by rw [← hσ]; rfl
  have e5 : σ 5 = slab := by rw [← hσ]; rfl
  have e6 : σ 6 = obj := by rw [← hσ]; rfl
  have e20 : σ 20 = c.C := by rw [← hσ]; rfl
  have e21 : σ 21 = c.S := by rw [← hσ]; rfl
  have e22 : σ 22 = c.O := by rw [← hσ]; rfl
  rcases ends_cpuQ (c := c) e1 e20 hx with ⟨hcpu, hx⟩ | ⟨hcpu, rfl, rfl⟩
  · rw [pLook, if_pos hcpu]
    simp only
    unfold headC
    cases hh : headOf (at_ g (headN cpu)) with
    | none =>
      have e32 : σ 32 = 0 := by rw [← hσ]; show (headL _).getD 0 0 = _; simp only [headL, hh]; rfl
      rcases ends_isQ hx with ⟨his, hx⟩ | ⟨his, hx⟩
      · rw [e32] at his; cases his
      · obtain ⟨rfl, rfl⟩ := hx; simp only; exact ⟨by subst hσ; rfl, by omega, by simp, by simp, by simp⟩
    | some p =>
      obtain ⟨sl, ob⟩ := p
      have e32 : σ 32 = 1 := by rw [← hσ]; show (headL _).getD 0 0 = _; simp only [headL, hh]; rfl
      have e33 : σ 33 = sl := by rw [← hσ]; show (headL _).getD 1 0 = _; simp only [headL, hh]; rfl
      have e34 : σ 34 = ob := by rw [← hσ]; show (headL _).getD 2 0 = _; simp only [headL, hh]; rfl
      rcases ends_isQ hx with ⟨his, hx⟩ | ⟨his, hx⟩
      · simp only [EndsM, Cnd.ev, SE.ev, v, l, e33, e34, e21, e22, e5, decide_eq_true_eq, decide_eq_false_iff_not, beq_iff_eq, beq_eq_false_iff_ne] at hx
        by_cases a0 : sl < 0 <;> by_cases a1 : sl < c.S <;> by_cases a2 : ob < c.O <;> by_cases a3 : ob < 0
        all_goals simp [a0, a1, a2, a3] at hx
        all_goals first
          | (exfalso; omega)
          | (obtain ⟨rfl, rfl⟩ := hx; refine ⟨?_, by omega, by simp, by simp, by simp⟩; simp only [a0, a1, a2, a3, and_self, and_true, true_and, and_false, false_and, if_true, if_false]; subst hσ; simp only [headL, hh]; rfl)
      · exact absurd e32 his
  · rw [pLook, if_neg hcpu]
    exact ⟨by subst hσ; rfl, by omega, by simp, by simp, by simp⟩
theorem mine_spec (hO : Own W (mB b0 b1 N k :: wB b1 g :: m) w) (hc : COk c d e) (hN : g.length = N) (hNw : N = c.words) (hw : W64 g) (hk : k ≤ 1000000000) (ht : AtPc t 11) :
    Calls Try.prog 48 #[.pointer (some ⟨b0, 0, none⟩), cV c d e, t.v] w (StepRes W m b0 b1 N k (pMine c g t) g) := by
  have hn := hc.nums
  refine step_run (x := at_ g (headN t.cpu)) (r := headL (at_ g (headN t.cpu))) (g1 := g) (g2 := g) (kn := knHead) (dm := dMine) hO hc hNw ht (knHead_ok hc hN hNw hw hk rfl rfl) run11
    (bad_cpuQ (c := c) (by omega) rfl (bad_node (bad_node (bad_node (bad_node bad_onT bad_onT) (bad_node bad_onT bad_onT)) (bad_node bad_onT bad_onT)) (bad_node bad_onT bad_onT)) (bad_node bad_onT bad_onT)) fun y s hx => ?_
  obtain ⟨job, cpu, pc', en, wa, slab, obj, h, tt, f, kk, n, last, many, dst, back, for_⟩ := t
  obtain ⟨h1, h2, h3⟩ := ht
  simp only at h1 h2 h3
  subst h1 h2 h3
  generalize hσ : sg _ c d e N _ _ = σ at hx
  have e1 : σ 1 = cpu := by rw [← hσ]; rfl
  have e5 : σ 5 = slab := by rw [← hσ]; rfl
  have e6 : σ 6 = obj := by rw [← hσ]; rfl
  have e20 : σ 20 = c.C := by rw [← hσ]; rfl
  have e21 : σ 21 = c.S := by rw [← hσ]; rfl
  have e22 : σ 22 = c.O := by rw [← hσ]; rfl
  rcases ends_cpuQ (c := c) e1 e20 hx with ⟨hcpu, hx⟩ | ⟨hcpu, hx⟩
  · rw [pMine, if_pos hcpu]
    simp only
    unfold headC
    cases hh : headOf (at_ g (headN cpu)) with
    | none =>
      have e32 : σ 32 = 0 := by rw [← hσ]; show (headL _).getD 0 0 = _; simp only [headL, hh]; rfl
      rcases ends_isQ hx with ⟨his, hx⟩ | ⟨his, hx⟩
      · rw [e32] at his; cases his
      · rcases ends_eq hx with ⟨-, rfl, rfl⟩ | ⟨-, rfl, rfl⟩ <;> (simp only; exact ⟨by subst hσ; rfl, by omega, by simp, by simp, by simp⟩)
    | some p =>
      obtain ⟨sl, ob⟩ := p
      have e32 : σ 32 = 1 := by rw [← hσ]; show (headL _).getD 0 0 = _; simp only [headL, hh]; rfl
      have e33 : σ 33 = sl := by rw [← hσ]; show (headL _).getD 1 0 = _; simp only [headL, hh]; rfl
      have e34 : σ 34 = ob := by rw [← hσ]; show (headL _).getD 2 0 = _; simp only [headL, hh]; rfl
      rcases ends_isQ hx with ⟨his, hx⟩ | ⟨his, hx⟩
      · rcases ends_lt hx with ⟨q1, hx⟩ | ⟨q1, hx⟩ <;> simp only [SE.ev, v, e33, e21] at q1
        · rcases ends_lt hx with ⟨q2, hx⟩ | ⟨q2, hx⟩ <;> simp only [SE.ev, v, e34, e22] at q2
          · simp only [if_pos (And.intro q1 q2)]
            rcases ends_eq hx with ⟨q3, hx⟩ | ⟨q3, hx⟩ <;> simp only [SE.ev, v, e33, e5] at q3 <;> obtain ⟨rfl, rfl⟩ := hx
            · simp only [if_pos q3]
              exact ⟨by subst hσ; simp only [headL, hh]; rfl, by omega, by simp, by simp, by simp⟩
            · simp only [if_neg q3]
              exact ⟨by subst hσ; simp only [headL, hh]; rfl, by omega, by simp, by simp, by simp⟩
          · have hq : ¬ (sl < c.S ∧ ob < c.O) := by omega
            simp only [if_neg hq]
            rcases ends_eq hx with ⟨q3, rfl, rfl⟩ | ⟨q3, rfl, rfl⟩ <;> exact ⟨by subst hσ; simp only [headL, hh]; rfl, by omega, by simp, by simp, by simp⟩
        · have hq : ¬ (sl < c.S ∧ ob < c.O) := by omega
          simp only [if_neg hq]
          rcases ends_eq hx with ⟨q3, rfl, rfl⟩ | ⟨q3, rfl, rfl⟩ <;> exact ⟨by subst hσ; simp only [headL, hh]; rfl, by omega, by simp, by simp, by simp⟩
      · exact absurd e32 his
  · rw [pMine, if_neg hcpu]
    rcases ends_eq hx with ⟨-, rfl, rfl⟩ | ⟨-, rfl, rfl⟩ <;> exact ⟨by subst hσ; rfl, by omega, by simp, by simp, by simp⟩
theorem showG_in {x key : Nat} {n : Int} (h : 0 ≤ n ∧ n < 16) : showG x key n = showOf x key n.toNat := by unfold showG; rw [if_pos h]
theorem next_spec (hO : Own W (mB b0 b1 N k :: wB b1 g :: m) w) (hc : COk c d e) (hN : g.length = N) (hNw : N = c.words) (hw : W64 g) (hk : k ≤ 1000000000) (ht : AtPc t 2) :
    Calls Try.prog 48 #[.pointer (some ⟨b0, 0, none⟩), cV c d e, t.v] w (StepRes W m b0 b1 N k (pNext c g t) g) := by
  have hN2 : N ≤ 4096 := by rw [hNw]; exact (words_le hc).1
  have hn := hc.nums
  refine step_run (x := at_ g (linkN c t.slab t.obj)) (r := [0, 0, 0, is1 (showG (at_ g (linkN c t.slab t.obj)) (keyG c.key t.slab) t.obj), val1 (showG (at_ g (linkN c t.slab t.obj)) (keyG c.key t.slab) t.obj), 0, 0, 0, 0, 0, 0, 0, 0, is1 (showG 0 (keyG c.key t.slab) t.obj), val1 (showG 0 (keyG c.key t.slab) t.obj)])
    (g1 := g) (g2 := g) (kn := knNext) (dm := dNext) hO hc hNw ht ?_ run2 (bad_linkQ (bad_node (bad_node bad_onT bad_onT) bad_onT) (bad_node (bad_node bad_onT bad_onT) bad_onT)) fun y s hx => ?_
  · refine KnAll.cons (kn_len rfl) (KnAll.cons (kn_load hN hN2 hk rfl fun hcs => ⟨_, _, linkE_ev hc (link_of hcs), at_some (by have := link_lt (link_of hcs); omega), rfl⟩) (KnAll.cons (kn_loadN hN2 hk) ?_))
    exact KnAll.app (kn_show (wv := sU 31) (e := keyE (v 5)) (b := 6) (i := 35) rfl (at_lt hw _) (keyG_lt _ _) rfl keyE_ev rfl (fun s hs => by show val1 _ = s; exact congrArg (fun o => o.getD 0) hs))
      (kn_show (wv := nU 0) (e := keyE (v 5)) (b := 6) (i := 45) (x := 0) rfl (by decide) (keyG_lt _ _) rfl keyE_ev rfl (fun s hs => by show val1 _ = s; exact congrArg (fun o => o.getD 0) hs))
  obtain ⟨job, cpu, pc', en, wa, slab, obj, h, tt, f, kk, n, last, many, dst, back, for_⟩ := t
  obtain ⟨h1, h2, h3⟩ := ht
  simp only at h1 h2 h3
  subst h1 h2 h3
  generalize hσ : sg _ c d e N _ _ = σ at hx
  have e1 : σ 1 = cpu := by rw [← hσ]; rfl
  have e5 : σ 5 = slab := by rw [← hσ]; rfl
  have e6 : σ 6 = obj := by rw [← hσ]; rfl
  have e20 : σ 20 = c.C := by rw [← hσ]; rfl
  have e21 : σ 21 = c.S := by rw [← hσ]; rfl
  have e22 : σ 22 = c.O := by rw [← hσ]; rfl
  rcases ends_linkQ (c := c) e5 e6 e21 e22 hx with ⟨hl, hx⟩ | ⟨hl, hx⟩
  · rw [pNext, if_pos hl]
    have h16 : 0 ≤ obj ∧ obj < 16 := by unfold linkOk at hl; omega
    have e35 : σ 35 = is1 (showOf (at_ g (linkN c slab obj)) (keyG c.key slab) obj.toNat) := by rw [← hσ, ← showG_in h16]; rfl
    have e36 : σ 36 = val1 (showOf (at_ g (linkN c slab obj)) (keyG c.key slab) obj.toNat) := by rw [← hσ, ← showG_in h16]; rfl
    have e36' : sg { job := job, cpu := cpu, pc := 2, end_ := 0, want := 0, slab := slab, obj := obj, h := h, t := tt, f := f, k := kk, n := n, last := last, many := many, dst := dst, back := back, for_ := for_ } c d e N (at_ g (linkN c slab obj)) [0, 0, 0, is1 (showG (at_ g (linkN c slab obj)) (keyG c.key slab) obj), val1 (showG (at_ g (linkN c slab obj)) (keyG c.key slab) obj), 0, 0, 0, 0, 0, 0, 0, 0, is1 (showG 0 (keyG c.key slab) obj), val1 (showG 0 (keyG c.key slab) obj)] 36 = val1 (showOf (at_ g (linkN c slab obj)) (keyG c.key slab) obj.toNat) := by rw [← showG_in h16]; rfl
    simp only
    cases hs : showOf (at_ g (linkN c slab obj)) (keyG c.key slab) obj.toNat with
    | none =>
      rw [hs] at e35
      rcases ends_isQ hx with ⟨his, hx⟩ | ⟨his, rfl, rfl⟩
      · rw [e35] at his; cases his
      · exact ⟨by subst hσ; rfl, by omega, by simp, by simp, by simp⟩
    | some q =>
      rw [hs] at e35 e36 e36'
      rcases ends_isQ hx with ⟨his, hx⟩ | ⟨his, hx⟩
      · rcases ends_lt hx with ⟨q1, rfl, rfl⟩ | ⟨q1, rfl, rfl⟩ <;> simp only [SE.ev, v, e36, e22, val1, Option.getD_some] at q1
        · simp only [if_pos q1]
          refine ⟨?_, by omega, by simp, by simp, by simp⟩
          have e36'' : q = σ 36 := e36.symm
          rw [e36'']
          subst hσ
          rfl
        · simp only [if_neg (show ¬ q < (c.O : Int) by omega)]
          exact ⟨by subst hσ; rfl, by omega, by simp, by simp, by simp⟩
      · exact absurd e35 his
  · rw [pNext, if_neg hl]
    rcases ends_isQ hx with ⟨his, hx⟩ | ⟨his, rfl, rfl⟩
    · rcases ends_lt hx with ⟨q1, rfl, rfl⟩ | ⟨q1, rfl, rfl⟩ <;> exact ⟨by subst hσ; rfl, by omega, by simp, by simp, by simp⟩
    · exact ⟨by subst hσ; rfl, by omega, by simp, by simp, by simp⟩
theorem up64_ev (n : Nat) : IntKind.u64.wrap ((n : Int) + 1) = (up64 n : Nat) := by
  rw [IntKind.wrap_u64]
  unfold up64
  omega
theorem swap_spec (o : TaskP → Int) (oi : Nat) (pc again : Int) (ho : ∀ (t : TaskP) (x : Nat) (r : List Int), sg t c d e N x r oi = o t) (ho2 : ∀ t : TaskP, o { t with pc := pc, end_ := 0, want := 0 } = o t) (hrun : runT (knSwap oi) pc (dSwap pc again) = true)
    (hO : Own W (mB b0 b1 N k :: wB b1 g :: m) w) (hc : COk c d e) (hN : g.length = N) (hNw : N = c.words) (hk : k ≤ 1000000000) (ht : AtPc t pc) :
    Calls Try.prog 48 #[.pointer (some ⟨b0, 0, none⟩), cV c d e, t.v] w (StepRes W m b0 b1 N k (pSwap o again c g t).1 (pSwap o again c g t).2) := by
  have hN2 : N ≤ 4096 := by rw [hNw]; exact (words_le hc).1
  have hn := hc.nums
  have hcas : ∀ (x : Nat) (r : List Int), r.getD 6 0 = (headR t.slab (o t)).2 → r.getD 9 0 = (if isHead g t then 1 else 0) → (∀ q ∈ csCpu, q.1.ev (sg t c d e N x r) = q.2) → ∃ j x' y a' b' c' d' : Nat, headE.ev (sg t c d e N x r) = j ∧ g[j]? = some x' ∧ g[j + 1]? = some y ∧ (v 7).ev (sg t c d e N x r) = a' ∧ (v 8).ev (sg t c d e N x r) = b' ∧ (v 38).ev (sg t c d e N x r) = c' ∧ (SE.ubin .add (v 8) (l 1)).ev (sg t c d e N x r) = d' ∧ sg t c d e N x r 41 = (if x' = a' ∧ y = b' then 1 else 0) ∧ (x' = a' ∧ y = b' → (g.set (headN t.cpu) (headR t.slab (o t)).2).set (headN t.cpu + 1) (up64 t.t) = (g.set j c').set (j + 1) d') := by
    intro x r h6 h9 hcs
    have hcpu := cpu_of hcs
    have hlt := head_lt hcpu
    refine ⟨headN t.cpu, at_ g (headN t.cpu), at_ g (headN t.cpu + 1), t.h, t.t, (headR t.slab (o t)).2, up64 t.t, headE_ev hc hcpu, at_some (by omega), at_some (by omega), rfl, rfl, h6, up64_ev t.t, h9, fun _ => rfl⟩
  refine step_run (x := 0) (r := [0, 0, 0, 0, 0, (headR t.slab (o t)).1, (headR t.slab (o t)).2, 0, 0, if isHead g t then 1 else 0]) (g1 := (g.set (headN t.cpu) (headR t.slab (o t)).2).set (headN t.cpu + 1) (up64 t.t)) (g2 := g) (kn := knSwap oi) (dm := dSwap pc again) hO hc hNw ht ?_ hrun
    (bad_node (bad_cpuQ (c := c) (by omega) rfl (bad_node bad_onT bad_onT) bad_onT) bad_onT) fun y s hx => ?_
  · refine KnAll.cons (kn_len rfl) (KnAll.app (kn_head (a := 5) (b := oi) ?_ ?_) (KnAll.cons (kn_cas2Y (p := headE) (a := v 7) (b := v 8) (c := v 38) (d := .ubin .add (v 8) (l 1)) hN hN2 hk (hcas _ _ rfl rfl)) (KnAll.cons (kn_cas2F (p := headE) (a := v 7) (b := v 8) (c := v 38) (d := .ubin .add (v 8) (l 1)) hN hN2 hk rfl fun hcs => ?_) (KnAll.cons (kn_cas2N (a := v 7) (b := v 8) (c := v 38) (d := .ubin .add (v 8) (l 1)) hN2 hk ⟨t.h, t.t, (headR t.slab (o t)).2, up64 t.t, rfl, rfl, rfl, up64_ev t.t⟩) knAll_nil))))
    · rw [ho]; rfl
    · rw [ho]; rfl
    · obtain ⟨j, x', y, a', b', c', d', q1, q2, q3, q4, q5, q6, q7, q8, -⟩ := hcas 0 [0, 0, 0, 0, 0, (headR t.slab (o t)).1, (headR t.slab (o t)).2, 0, 0, if isHead g t then 1 else 0] rfl rfl hcs
      exact ⟨j, x', y, a', b', c', d', q1, q2, q3, q4, q5, q6, q7, q8⟩
  have ho3 := ho2 t
  unfold pSwap
  generalize hoo : o t = oo at *
  obtain ⟨job, cpu, pc', en, wa, slab, obj, h, tt, f, kk, n, last, many, dst, back, for_⟩ := t
  obtain ⟨h1, h2, h3⟩ := ht
  simp only at h1 h2 h3
  subst h1 h2 h3
  generalize hσ : sg _ c d e N _ _ = σ at hx
  have e1 : σ 1 = cpu := by rw [← hσ]; rfl
  have e20 : σ 20 = c.C := by rw [← hσ]; rfl
  have e37 : σ 37 = (headR slab oo).1 := by rw [← hσ]; rfl
  have e41 : σ 41 = if isHead g ⟨job, cpu, pc', 0, 0, slab, obj, h, tt, f, kk, n, last, many, dst, back, for_⟩ then 1 else 0 := by rw [← hσ]; rfl
  rcases ends_okQ hx with ⟨q0, hx⟩ | ⟨q0, rfl, rfl⟩ <;> rw [e37] at q0
  · rcases ends_cpuQ (c := c) e1 e20 hx with ⟨hcpu, hx⟩ | ⟨hcpu, rfl, rfl⟩
    · simp only [if_pos (And.intro q0 hcpu)]
      rcases ends_isQ hx with ⟨his, rfl, rfl⟩ | ⟨his, rfl, rfl⟩ <;> rw [e41] at his
      · by_cases hh : isHead g ⟨job, cpu, pc', 0, 0, slab, obj, h, tt, f, kk, n, last, many, dst, back, for_⟩
        · simp only [if_pos hh]
          exact ⟨by subst hσ; rfl, by omega, by simp, by simp, by simp⟩
        · rw [if_neg hh] at his; cases his
      · by_cases hh : isHead g ⟨job, cpu, pc', 0, 0, slab, obj, h, tt, f, kk, n, last, many, dst, back, for_⟩
        · rw [if_pos hh] at his; exact absurd rfl his
        · simp only [if_neg hh]
          exact ⟨by subst hσ; rfl, by omega, by simp, by simp, by simp⟩
    · simp only [if_neg (fun hh => hcpu (And.right hh))]
      exact ⟨by subst hσ; rfl, by omega, by simp, by simp, by simp⟩
  · simp only [if_neg (fun hh => q0 (And.left hh))]
    exact ⟨by subst hσ; rfl, by omega, by simp, by simp, by simp⟩
theorem tie_spec (hO : Own W (mB b0 b1 N k :: wB b1 g :: m) w) (hc : COk c d e) (hN : g.length = N) (hNw : N = c.words) (hk : k ≤ 1000000000) (ht : AtPc t 12) :
    Calls Try.prog 48 #[.pointer (some ⟨b0, 0, none⟩), cV c d e, t.v] w (StepRes W m b0 b1 N k (pTie c g t).1 (pTie c g t).2) := by
  have hN2 : N ≤ 4096 := by rw [hNw]; exact (words_le hc).1
  refine step_run (x := 0) (r := [0, 0, 0, 0, 0, 0, 0, (hideR t.last (keyG c.key t.slab) t.obj).1, (hideR t.last (keyG c.key t.slab) t.obj).2]) (g1 := g.set (linkN c t.slab t.obj) (hideR t.last (keyG c.key t.slab) t.obj).2) (g2 := g) (kn := knTie) (dm := dTie) hO hc hNw ht ?_ run12
    (bad_node (bad_linkQ bad_onT bad_onT) bad_onT) fun y s hx => ?_
  · exact KnAll.cons (kn_len rfl) (KnAll.app (kn_hide (e := keyE (v 5)) (a := 12) (b := 6) (keyG_lt _ _) keyE_ev rfl rfl) (KnAll.cons (kn_store (e := v 40) hN hN2 hk fun hcs => ⟨_, _, _, linkE_ev hc (link_of hcs), at_some (by have := link_lt (link_of hcs); omega), rfl, rfl⟩) (KnAll.cons (kn_storeN (e := v 40) hN2 hk ⟨_, rfl⟩) knAll_nil)))
  obtain ⟨job, cpu, pc', en, wa, slab, obj, h, tt, f, kk, n, last, many, dst, back, for_⟩ := t
  obtain ⟨h1, h2, h3⟩ := ht
  simp only at h1 h2 h3
  subst h1 h2 h3
  generalize hσ : sg _ c d e N _ _ = σ at hx
  have e1 : σ 1 = cpu := by rw [← hσ]; rfl
  have e5 : σ 5 = slab := by rw [← hσ]; rfl
  have e6 : σ 6 = obj := by rw [← hσ]; rfl
  have e20 : σ 20 = c.C := by rw [← hσ]; rfl
  have e21 : σ 21 = c.S := by rw [← hσ]; rfl
  have e22 : σ 22 = c.O := by rw [← hσ]; rfl
  have e39 : σ 39 = (hideR last (keyG c.key slab) obj).1 := by rw [← hσ]; rfl
  unfold pTie
  rcases ends_okQ hx with ⟨q0, hx⟩ | ⟨q0, rfl, rfl⟩ <;> rw [e39] at q0
  · rcases ends_linkQ (c := c) e5 e6 e21 e22 hx with ⟨hl, rfl, rfl⟩ | ⟨hl, rfl, rfl⟩
    · simp only [if_pos (And.intro q0 hl)]
      exact ⟨by subst hσ; rfl, by omega, by simp, by simp, by simp⟩
    · simp only [if_neg (fun hh => hl (And.right hh))]
      exact ⟨by subst hσ; rfl, by omega, by simp, by simp, by simp⟩
  · simp only [if_neg (fun hh => q0 (And.left hh))]
    exact ⟨by subst hσ; rfl, by omega, by simp, by simp, by simp⟩
end
end Go.Proofs.Ytigakendeghoaaa.Fast

/-
  One processor, one slab: words that have a list at the head; what a step makes of them. Plain. No condition.
-/
namespace Go.Proofs.Ytigakendeghoaaa.Fast
open See Step
/-- a list's first one, -1 if there is none -/
def fst (L : List Int) : Int := L.headD (-1)
/-- each object's word shows the next one -/
def Lk (g : List Nat) (key : Nat) : List Int → Prop
  | [] => True
  | x :: L => showOf (at_ g (12 + x.toNat)) (See.keyOf key 0) x.toNat = some (fst L) ∧ Lk g key L
/-- a core of one processor and one slab whose head has a list, and its turn -/
structure Good (O key : Nat) (g : List Nat) (L : List Int) (T : Nat) : Prop where
  len : g.length = 12 + O
  w64 : W64 g
  h0 : at_ g 0 = headW 0 (fst L)
  h1 : at_ g 1 = T
  h2 : at_ g 2 = 0
  h5 : at_ g 5 = 0
  h8 : at_ g 8 = 0
  h9 : at_ g 9 = packN O O true true
  nd : L.Nodup
  bd : ∀ x ∈ L, 0 ≤ x ∧ x < O
  lk : Lk g key L
section
variable {O key T T' : Nat} {g : List Nat} {L : List Int} {x o : Int}
abbrev ch (O key : Nat) : Ch := ⟨1, 1, O, key⟩
theorem fst_in (h : ∀ x ∈ L, 0 ≤ x ∧ x < (O : Int)) : -1 ≤ fst L ∧ fst L < O := by
  cases L with
  | nil => exact ⟨by decide, by show (-1 : Int) < O; omega⟩
  | cons x L =>
    have := h x List.mem_cons_self
    exact ⟨by show (-1 : Int) ≤ x; omega, by show x < (O : Int); omega⟩
theorem headOf_W (h0 : -1 ≤ o) (h1 : o < 16) : headOf (headW 0 o) = some (0, o) := by
  unfold headOf headW
  rw [if_neg (by omega), if_pos (by omega)]
  congr 1
  rw [Prod.mk.injEq]
  omega
theorem headW_lt (h1 : o < 16) : headW 0 o < 18446744073709551616 := by unfold headW; omega
theorem at_set_self {g : List Nat} {i w : Nat} (h : i < g.length) : at_ (g.set i w) i = w := by
  unfold at_
  rw [List.getD_eq_getElem?_getD, List.getElem?_set_self h]
  rfl
theorem at_set_ne {g : List Nat} {i j w : Nat} (h : i ≠ j) : at_ (g.set i w) j = at_ g j := by
  unfold at_
  rw [List.getD_eq_getElem?_getD, List.getD_eq_getElem?_getD, List.getElem?_set_ne h]
theorem w64_set {g : List Nat} {i w : Nat} (h : W64 g) (hw : w < 18446744073709551616) : W64 (g.set i w) := fun x hx => by
  rcases List.mem_or_eq_of_mem_set hx with hx | rfl
  · exact h x hx
  · exact hw
theorem Lk.far {g' : List Nat} (h : Lk g key L) (hd : ∀ x ∈ L, at_ g' (12 + x.toNat) = at_ g (12 + x.toNat)) : Lk g' key L := by
  induction L with
  | nil => trivial
  | cons x L ih =>
    refine ⟨?_, ih h.2 fun y hy => hd y (List.mem_cons_of_mem _ hy)⟩
    rw [hd x List.mem_cons_self]
    exact h.1
theorem Good.first (h : Good O key g L T) : -1 ≤ fst L ∧ fst L < O := fst_in h.bd
/-- another head, another turn -/
theorem Good.turn_ {L' : List Int} (h : Good O key g L T) (hO : O ≤ 16) (hT : T' < 18446744073709551616) (nd : L'.Nodup) (bd : ∀ x ∈ L', 0 ≤ x ∧ x < O) (lk : Lk g key L') :
    Good O key ((g.set 0 (headW 0 (fst L'))).set 1 T') L' T' := by
  have hl := h.len
  have hf := fst_in bd
  refine ⟨by simp [hl], w64_set (w64_set h.w64 (headW_lt (by omega))) hT, ?_, ?_, ?_, ?_, ?_, ?_, nd, bd, lk.far fun x hx => ?_⟩
  · rw [at_set_ne (by omega), at_set_self (by omega)]
  · rw [at_set_self (by rw [List.length_set]; omega)]
  · rw [at_set_ne (by omega), at_set_ne (by omega), h.h2]
  · rw [at_set_ne (by omega), at_set_ne (by omega), h.h5]
  · rw [at_set_ne (by omega), at_set_ne (by omega), h.h8]
  · rw [at_set_ne (by omega), at_set_ne (by omega), h.h9]
  · rw [at_set_ne (by omega), at_set_ne (by omega)]
/-- the word of an object that is not in the list -/
theorem Good.tie {w : Nat} (h : Good O key g L T) (ho : 0 ≤ o) (hn : o ∉ L) (hw : w < 18446744073709551616) : Good O key (g.set (12 + o.toNat) w) L T := by
  refine ⟨by simp [h.len], w64_set h.w64 hw, ?_, ?_, ?_, ?_, ?_, ?_, h.nd, h.bd, h.lk.far fun x hx => ?_⟩
  · rw [at_set_ne (by omega), h.h0]
  · rw [at_set_ne (by omega), h.h1]
  · rw [at_set_ne (by omega), h.h2]
  · rw [at_set_ne (by omega), h.h5]
  · rw [at_set_ne (by omega), h.h8]
  · rw [at_set_ne (by omega), h.h9]
  · rw [at_set_ne]
    have h1 := (h.bd x hx).1
    have : o ≠ x := fun he => hn (he ▸ hx)
    omega
theorem walk_list (hb : ∀ x ∈ L, 0 ≤ x ∧ x < (O : Int)) (hlk : Lk g key L) (hg : g.length = 12 + O) : ∀ (n : Nat) (out : List Int), (out ++ L).Nodup → L.length < n →
    See.walk (fun w o => showOf w (See.keyOf key 0) o.toNat) (See.links (ch O key) g 0) n out (fst L) = some (out ++ L) := by
  have hlinks : See.links (ch O key) g 0 = g.drop 12 := by
    unfold See.links
    simp only [Nat.zero_mul, Nat.add_zero, Nat.mul_one]
    rw [List.take_of_length_le (by rw [List.length_drop]; omega)]
  rw [hlinks]
  induction L with
  | nil =>
    intro n out _ hn
    cases n with
    | zero => simp at hn
    | succ n => simp [See.walk, fst]
  | cons x L ih =>
    intro n out hnd hn
    have hx := hb x List.mem_cons_self
    cases n with
    | zero => simp at hn
    | succ n =>
      have h1 : x ≠ -1 := by omega
      have h2 : x ∉ out := fun hm => by
        rw [List.nodup_append] at hnd
        exact hnd.2.2 x hm x List.mem_cons_self rfl
      have h3 : (g.drop 12).getD x.toNat 0 = at_ g (12 + x.toNat) := by
        unfold at_
        simp [List.getD_eq_getElem?_getD]
      have h4 := fst_in fun y hy => hb y (List.mem_cons_of_mem _ hy)
      rw [show fst (x :: L) = x from rfl]
      unfold See.walk
      rw [if_neg h1, if_neg h2, h3, hlk.1]
      simp only
      rw [if_neg (by rw [List.length_drop, hg]; unfold fst; unfold fst at h4; omega)]
      have h5 := ih (fun y hy => hb y (List.mem_cons_of_mem _ hy)) hlk.2 n (out ++ [x]) (by simpa using hnd) (by simp at hn; omega)
      rw [List.append_assoc] at h5
      exact h5
theorem counts_some : ∀ O : Nat, 1 ≤ O → O ≤ 16 → (countsOf (packN O O true true)).isSome = true := by
  intro O h1 h2
  have : ∀ i : Fin 17, 1 ≤ i.val → (countsOf (packN i.val i.val true true)).isSome = true := by decide
  exact this ⟨O, by omega⟩ h1
/-- what See says of such words -/
theorem good_see2 (h : Good O key g L T) (h1 : 1 ≤ O) (h2 : O ≤ 16) : ∃ n lk, seeP (ch O key) g = some ⟨[⟨0, L, T, []⟩], [], lk, [⟨n, []⟩]⟩ := by
  have hlen := h.len
  have hf := h.first
  have hcard : L.length < (ch O key).O + 1 := by
    have := few h.nd h.bd
    show L.length < O + 1
    omega
  have hl0 : listP (ch O key) g 0 (fst L) = some L := by
    unfold listP
    rw [if_pos (by refine ⟨by omega, by show (0 : Int) < ((1 : Nat) : Int); omega, hf.1, hf.2⟩)]
    exact walk_list h.bd h.lk hlen _ [] (by simpa using h.nd) hcard
  have hl1 : listP (ch O key) g 0 (-1) = some [] := by
    unfold listP
    rw [if_pos (by refine ⟨by omega, by show (0 : Int) < ((1 : Nat) : Int); omega, by omega, by show (-1 : Int) < ((O : Nat) : Int); omega⟩)]
    exact walk_list (L := []) (key := key) (by simp) trivial hlen _ [] (by simp) (by show 0 < O + 1; omega)
  have hslot : slotP (ch O key) g 0 = some ⟨0, L, T, []⟩ := by
    unfold slotP
    rw [show 4 * 0 = 0 from rfl, h.h0, headOf_W hf.1 (by omega)]
    simp only
    rw [if_neg (by decide), hl0]
    simp only
    rw [show partsP (ch O key) g (at_ g (0 + 2)) = some [] from by
      rw [show 0 + 2 = 2 from rfl, h.h2]
      rfl]
    simp only
    rw [show 0 + 1 = 1 from rfl, h.h1]
  have hshelf : shelfP (ch O key) g = some [] := by
    unfold shelfP
    rw [show 4 * (ch O key).C + 1 = 5 from rfl, h.h5]
    rfl
  obtain ⟨n, hn⟩ := Option.isSome_iff_exists.1 (counts_some O h1 h2)
  have hslab : slabP (ch O key) g 0 = some ⟨n, []⟩ := by
    unfold slabP
    rw [show 4 * (ch O key).C + 4 + 4 * 0 + 1 = 9 from rfl, show 4 * (ch O key).C + 4 + 4 * 0 = 8 from rfl, h.h9, hn, h.h8]
    simp only
    rw [if_neg (by omega)]
    rw [show ((0 : Nat) : Int) - 1 = -1 from rfl, show ((0 : Nat) : Int) = 0 from rfl, hl1]
  refine ⟨n, decide (at_ g (4 * (ch O key).C) ≠ 0), ?_⟩
  unfold seeP
  rw [show (ch O key).C = 0 + 1 from rfl, show (ch O key).S = 0 + 1 from rfl]
  unfold upto upto
  rw [hslot, hslab]
  simp only
  rw [hshelf]
  rfl
theorem good_see (h : Good O key g L T) (h1 : 1 ≤ O) (h2 : O ≤ 16) : ∃ K, seeP (ch O key) g = some K ∧ K.slots = [⟨0, L, T, []⟩] := by
  obtain ⟨n, lk, hs⟩ := good_see2 h h1 h2
  exact ⟨_, hs, rfl⟩
end
end Go.Proofs.Ytigakendeghoaaa.Fast

/-
  The steps at such words. Plain. No condition.
-/
namespace Go.Proofs.Ytigakendeghoaaa.Fast
open See Step
section
variable {O key T : Nat} {g : List Nat} {L : List Int} {x o : Int} {t : TaskP}
theorem key0 : keyG key 0 = See.keyOf key 0 := keyG_of 0
theorem link0 : linkN (ch O key) 0 o = 12 + o.toNat := by
  unfold linkN
  simp
theorem cpu0 (h : t.cpu = 0) : cpuOk (ch O key) t.cpu := by rw [h]; exact ⟨by omega, by show (0 : Int) < ((1 : Nat) : Int); omega⟩
theorem st_turn (h : Good O key g L T) (hc : t.cpu = 0) (hp : t.pc = 0 ∨ t.pc = 10) : stepP (ch O key) g t = ({ t with t := T, pc := t.pc + 1 }, g) := by
  unfold stepP
  rw [if_pos hp]
  unfold pTurn
  rw [if_pos (cpu0 hc), hc]
  rw [show headN 0 + 1 = 1 from rfl, h.h1]
theorem head0 (h : Good O key g L T) (hO : O ≤ 16) : headC (ch O key) (at_ g (headN 0)) = some (0, fst L) ∧ at_ g (headN 0) = headW 0 (fst L) := by
  have hf := h.first
  rw [show headN 0 = 0 from rfl, h.h0]
  refine ⟨?_, rfl⟩
  unfold headC
  rw [headOf_W hf.1 (by omega)]
  simp only
  rw [if_pos ⟨by show (0 : Int) < ((1 : Nat) : Int); omega, hf.2⟩]
theorem st_look0 (h : Good O key g [] T) (hO : O ≤ 16) (hc : t.cpu = 0) (hp : t.pc = 1) : stepP (ch O key) g t = ({ t with h := headW 0 (-1), slab := 0, obj := -1, pc := 20 }, g) := by
  unfold stepP
  rw [if_neg (by omega), if_pos hp]
  unfold pLook
  rw [if_pos (cpu0 hc), hc]
  obtain ⟨h1, h2⟩ := head0 h hO
  rw [h1, h2]
  rfl
theorem st_look1 (h : Good O key g (x :: L) T) (hO : O ≤ 16) (hc : t.cpu = 0) (hp : t.pc = 1) : stepP (ch O key) g t = ({ t with h := headW 0 x, slab := 0, obj := x, pc := 2 }, g) := by
  have hx := h.bd x List.mem_cons_self
  unfold stepP
  rw [if_neg (by omega), if_pos hp]
  unfold pLook
  rw [if_pos (cpu0 hc), hc]
  obtain ⟨h1, h2⟩ := head0 h hO
  rw [h1, h2]
  have hx0 : ¬ x < 0 := by omega
  simp only [fst, List.headD_cons, hx0, if_false]
  rfl
theorem linkOk0 (ho : 0 ≤ o ∧ o < O) : linkOk (ch O key) 0 o := ⟨⟨by omega, by show (0 : Int) < ((1 : Nat) : Int); omega⟩, ho⟩
theorem st_next {n : Int} (hs : t.slab = 0) (ho : 0 ≤ t.obj ∧ t.obj < O) (hp : t.pc = 2) (hn : n < O) (hsh : showOf (at_ g (12 + t.obj.toNat)) (See.keyOf key 0) t.obj.toNat = some n) :
    stepP (ch O key) g t = ({ t with last := n, pc := 3 }, g) := by
  unfold stepP
  rw [if_neg (by omega), if_neg (by omega), if_pos hp]
  unfold pNext
  rw [hs, if_pos (linkOk0 ho), link0, key0, hsh]
  simp only
  rw [if_pos hn]
/-- .. whatever the word shows -/
theorem st_next_any (hs : t.slab = 0) (ho : 0 ≤ t.obj ∧ t.obj < O) (hp : t.pc = 2) : stepP (ch O key) g t = ({ t with pc := 0 }, g) ∨ ∃ n, n < (O : Int) ∧ showOf (at_ g (12 + t.obj.toNat)) (See.keyOf key 0) t.obj.toNat = some n ∧ stepP (ch O key) g t = ({ t with last := n, pc := 3 }, g) := by
  cases hsh : showOf (at_ g (12 + t.obj.toNat)) (See.keyOf key 0) t.obj.toNat with
  | none =>
    refine .inl ?_
    unfold stepP
    rw [if_neg (by omega), if_neg (by omega), if_pos hp]
    unfold pNext
    rw [hs, if_pos (linkOk0 ho), link0, key0, hsh]
  | some n =>
    by_cases hn : n < (O : Int)
    · exact .inr ⟨n, hn, rfl, st_next hs ho hp hn hsh⟩
    · refine .inl ?_
      unfold stepP
      rw [if_neg (by omega), if_neg (by omega), if_pos hp]
      unfold pNext
      rw [hs, if_pos (linkOk0 ho), link0, key0, hsh]
      simp only
      rw [if_neg hn]
theorem headR0 (h0 : -1 ≤ o) (h1 : o < 16) : headR 0 o = (0, headW 0 o) := by
  unfold headR
  rw [if_pos]
  unfold headOk
  omega
theorem sw_any (op : TaskP → Int) (again : Int) (h : Good O key g L T) (hO : O ≤ 16) (hc : t.cpu = 0) (hs : t.slab = 0) (ho : -1 ≤ op t ∧ op t < O) :
    pSwap op again (ch O key) g t = if headW 0 (fst L) = t.h ∧ T = t.t then ({ t with end_ := 1 }, (g.set 0 (headW 0 (op t))).set 1 (up64 t.t)) else ({ t with pc := again }, g) := by
  unfold pSwap
  rw [hs, headR0 ho.1 (by omega), if_pos ⟨rfl, cpu0 hc⟩]
  have : isHead g t ↔ headW 0 (fst L) = t.h ∧ T = t.t := by
    unfold isHead
    rw [hc, show headN 0 = 0 from rfl, h.h0, show 0 + 1 = 1 from rfl, h.h1]
  by_cases hh : isHead g t
  · rw [if_pos hh, if_pos (this.1 hh), hc]
    rfl
  · rw [if_neg hh, if_neg fun h2 => hh (this.2 h2)]
theorem st_swap (h : Good O key g L T) (hO : O ≤ 16) (hc : t.cpu = 0) (hs : t.slab = 0) (hp : t.pc = 3) (ho : -1 ≤ t.last ∧ t.last < O) :
    stepP (ch O key) g t = if headW 0 (fst L) = t.h ∧ T = t.t then ({ t with end_ := 1 }, (g.set 0 (headW 0 t.last)).set 1 (up64 t.t)) else ({ t with pc := 0 }, g) := by
  unfold stepP
  rw [if_neg (by omega), if_neg (by omega), if_neg (by omega), if_pos hp]
  exact sw_any (·.last) 0 h hO hc hs ho
theorem st_swap13 (h : Good O key g L T) (hO : O ≤ 16) (hc : t.cpu = 0) (hs : t.slab = 0) (hp : t.pc = 13) (ho : -1 ≤ t.obj ∧ t.obj < O) :
    stepP (ch O key) g t = if headW 0 (fst L) = t.h ∧ T = t.t then ({ t with end_ := 1 }, (g.set 0 (headW 0 t.obj)).set 1 (up64 t.t)) else ({ t with pc := 10 }, g) := by
  unfold stepP
  rw [if_neg (by omega), if_neg (by omega), if_neg (by omega), if_neg (by omega), if_neg (by omega), if_neg (by omega)]
  exact sw_any (·.obj) 10 h hO hc hs ho
theorem st_mine (h : Good O key g L T) (hO : O ≤ 16) (hc : t.cpu = 0) (hs : t.slab = 0) (hp : t.pc = 11) :
    stepP (ch O key) g t = ({ t with h := headW 0 (fst L), last := fst L, pc := 12 }, g) := by
  unfold stepP
  rw [if_neg (by omega), if_neg (by omega), if_neg (by omega), if_neg (by omega), if_pos hp]
  unfold pMine
  rw [if_pos (cpu0 hc), hc]
  obtain ⟨h1, h2⟩ := head0 h hO
  rw [h1, h2]
  simp only
  rw [if_pos hs.symm]
theorem st_tie (hO : O ≤ 16) (hs : t.slab = 0) (hp : t.pc = 12) (ho : 0 ≤ t.obj ∧ t.obj < O) (hl : -1 ≤ t.last ∧ t.last < O) :
    stepP (ch O key) g t = ({ t with pc := 13 }, g.set (12 + t.obj.toNat) (hideW t.last (See.keyOf key 0) t.obj.toNat)) := by
  unfold stepP
  rw [if_neg (by omega), if_neg (by omega), if_neg (by omega), if_neg (by omega), if_neg (by omega), if_pos hp]
  unfold pTie
  rw [hs, key0, show hideR t.last (See.keyOf (ch O key).key 0) t.obj = (0, hideW t.last (See.keyOf key 0) t.obj.toNat) from if_pos (by omega), if_pos ⟨rfl, linkOk0 ho⟩, link0]
end
/-! the words that stocked lays -/
/-- the numbers from one up to below another -/
def upL (k i : Nat) : List Int := (List.range' i (k - i)).map fun (n : Nat) => (n : Int)
theorem upL_cons {k i : Nat} (h : i < k) : upL k i = (i : Int) :: upL k (i + 1) := by
  unfold upL
  rw [show k - i = (k - (i + 1)) + 1 from by omega, List.range'_succ]
  rfl
theorem upL_nil {k i : Nat} (h : k ≤ i) : upL k i = [] := by
  unfold upL
  rw [show k - i = 0 from by omega]
  rfl
theorem upL_len (k i : Nat) : (upL k i).length = k - i := by simp [upL]
theorem mem_upL {k i : Nat} {x : Int} : x ∈ upL k i ↔ (i : Int) ≤ x ∧ x < k := by
  unfold upL
  rw [List.mem_map]
  constructor
  · rintro ⟨n, hn, rfl⟩
    rw [List.mem_range'_1] at hn
    omega
  · intro h
    exact ⟨x.toNat, by rw [List.mem_range'_1]; omega, by omega⟩
theorem fst_upL {k i : Nat} : fst (upL k i) = if i < k then (i : Int) else -1 := by
  by_cases h : i < k
  · rw [upL_cons h, if_pos h]; rfl
  · rw [upL_nil (by omega), if_neg h]; rfl
theorem upL_nodup (k i : Nat) : (upL k i).Nodup := by
  unfold upL
  refine List.Pairwise.map _ (fun a b h => ?_) (List.nodup_range' (s := i) (n := k - i) (step := 1))
  intro he
  exact h (by omega)
section
variable {n objs key turn : Nat}
theorem at_pre {l : List Nat} {i : Nat} (h : i < 12) (hl : l.length = 12) (r : List Nat) : at_ (l ++ r) i = at_ l i := by
  unfold at_
  rw [List.getD_eq_getElem?_getD, List.getD_eq_getElem?_getD, List.getElem?_append_left (by omega)]
theorem stL_low {k : Nat} {i : Nat} (h : i < 12) : at_ (stL n k objs n) i = 0 := by
  unfold stL
  rw [at_pre h (by simp)]
  unfold at_
  rw [List.getD_eq_getElem?_getD, List.getElem?_replicate, if_pos h]
  rfl
theorem stL_high {k : Nat} {i : Nat} (h : i < n) (hn : n ≤ objs) : at_ (stL n k objs n) (12 + i) = if i + 1 = n then hideW (-1) k i else hideW ((i : Int) + 1) k i := by
  unfold stL at_
  rw [List.getD_eq_getElem?_getD, List.getElem?_append_right (by simp), List.length_replicate, Nat.add_sub_cancel_left, List.getElem?_map, List.getElem?_range (by omega)]
  simp only [Option.map_some, Option.getD_some]
  rw [if_pos h, show max n 1 = n from by omega]
  unfold freshL
  rw [List.getD_eq_getElem?_getD, List.getElem?_map, List.getElem?_range h]
  rfl
theorem w64_stL {k : Nat} (hn : n ≤ objs) (ho : objs ≤ 16) : W64 (stL n k objs n) := by
  intro x hx
  unfold stL at hx
  rcases List.mem_append.1 hx with hx | hx
  · rw [List.eq_of_mem_replicate hx]; omega
  · obtain ⟨j, hj, rfl⟩ := List.mem_map.1 hx
    by_cases hjn : j < n
    · rw [if_pos hjn]
      unfold freshL
      rw [List.getD_eq_getElem?_getD, List.getElem?_map]
      cases hr : (List.range (max n 1))[j]? with
      | none => show 0 < _; omega
      | some y =>
        have hy : y < max n 1 := List.mem_range.1 (List.mem_of_getElem? hr)
        simp only [Option.map_some, Option.getD_some]
        split
        · exact hide_lt (by omega)
        · exact hide_lt (by omega)
    · rw [if_neg hjn]; omega
theorem packN_lt {O : Nat} (h : O ≤ 16) : packN O O true true < 18446744073709551616 := by
  unfold packN
  simp
  omega
theorem good_lk {g : List Nat} (hn : n ≤ objs) (ho : objs ≤ 16) (hg : ∀ i, i < n → at_ g (12 + i) = if i + 1 = n then hideW (-1) (See.keyOf key 0) i else hideW ((i : Int) + 1) (See.keyOf key 0) i) :
    ∀ d i, n - i = d → Lk g key (upL n i) := by
  intro d
  induction d with
  | zero =>
    intro i hi
    rw [upL_nil (by omega)]
    trivial
  | succ d ih =>
    intro i hi
    rw [upL_cons (by omega)]
    refine ⟨?_, ih (i + 1) (by omega)⟩
    rw [show ((i : Int)).toNat = i from by omega, hg i (by omega), fst_upL]
    by_cases h1 : i + 1 = n
    · rw [if_pos h1, if_neg (by omega)]
      exact show_hide (by omega) (by omega)
    · rw [if_neg h1, if_pos (by omega)]
      exact show_hide (by omega) (by omega)
/-- stocked's words -/
theorem good_stG (hn : n ≤ objs) (h1 : 1 ≤ objs) (h2 : objs ≤ 16) (ht : turn < 18446744073709551616) : Good objs key (stG n key objs turn) (upL n 0) turn := by
  have hlen : (stG n key objs turn).length = 12 + objs := by
    unfold stG
    simp [stL_len]
  have hl := stL_len n (See.keyOf key 0) objs n
  refine ⟨hlen, ?_, ?_, ?_, ?_, ?_, ?_, ?_, upL_nodup _ _, fun x hx => ?_, good_lk hn h2 ?_ n 0 (by omega)⟩
  · refine w64_set (w64_set (w64_set (w64_stL hn h2) ?_) ht) (packN_lt h2)
    split <;> omega
  · unfold stG
    rw [at_set_ne (by omega), at_set_ne (by omega), at_set_self (by omega), fst_upL]
    by_cases h0 : n = 0
    · subst h0; rfl
    · rw [if_neg h0, if_pos (by omega)]; rfl
  · unfold stG
    rw [at_set_ne (by omega), at_set_self (by rw [List.length_set]; omega)]
  · unfold stG
    rw [at_set_ne (by omega), at_set_ne (by omega), at_set_ne (by omega), stL_low (by omega)]
  · unfold stG
    rw [at_set_ne (by omega), at_set_ne (by omega), at_set_ne (by omega), stL_low (by omega)]
  · unfold stG
    rw [at_set_ne (by omega), at_set_ne (by omega), at_set_ne (by omega), stL_low (by omega)]
  · unfold stG
    rw [at_set_self (by rw [List.length_set, List.length_set]; omega)]
  · have := mem_upL.1 hx
    omega
  · intro i hi
    unfold stG
    rw [at_set_ne (by omega), at_set_ne (by omega), at_set_ne (by omega), stL_high hi hn]
end
end Go.Proofs.Ytigakendeghoaaa.Fast

/-
  fast.Step: every place of the table in one; tasks that do not run, or stand elsewhere. No condition.
-/
namespace Go.Proofs.Ytigakendeghoaaa.Fast
open Go Ex Mem See Step
section
variable {W w : World} {m : List (Nat × Obj)} {b0 b1 N k : Nat} {g : List Nat} {c : Ch} {d e : Int} {t : TaskP}
/-- in the table -/
def inT (pc : Int) : Prop := pc = 0 ∨ pc = 1 ∨ pc = 2 ∨ pc = 3 ∨ pc = 10 ∨ pc = 11 ∨ pc = 12 ∨ pc = 13
theorem step_spec (hO : Own W (mB b0 b1 N k :: wB b1 g :: m) w) (hc : COk c d e) (hN : g.length = N) (hNw : N = c.words) (hw : W64 g) (hk : k ≤ 1000000000) (hp : inT t.pc) (he : t.end_ = 0) (hwt : t.want = 0) :
    Calls Try.prog 48 #[.pointer (some ⟨b0, 0, none⟩), cV c d e, t.v] w (StepRes W m b0 b1 N k (stepP c g t).1 (stepP c g t).2) := by
  unfold stepP
  rcases hp with h | h | h | h | h | h | h | h <;> rw [h]
  · exact turn_spec hO hc hN hNw hk ⟨h, he, hwt⟩ (.inl rfl)
  · exact look_spec hO hc hN hNw hw hk ⟨h, he, hwt⟩
  · exact next_spec hO hc hN hNw hw hk ⟨h, he, hwt⟩
  · exact swap_spec (·.last) 12 3 0 (fun _ _ _ => rfl) (fun _ => rfl) run3 hO hc hN hNw hk ⟨h, he, hwt⟩
  · exact turn_spec hO hc hN hNw hk ⟨h, he, hwt⟩ (.inr rfl)
  · exact mine_spec hO hc hN hNw hw hk ⟨h, he, hwt⟩
  · exact tie_spec hO hc hN hNw hk ⟨h, he, hwt⟩
  · exact swap_spec (·.obj) 6 13 10 (fun _ _ _ => rfl) (fun _ => rfl) run13 hO hc hN hNw hk ⟨h, he, hwt⟩
/-! no step -/
noncomputable def zeroT : AV := .agg [nI 0, nI 0, nI 0, nI 0, nI 0, nI 0, nI 0, nU 0, nU 0, nU 0, nU 0, nU 0, nI 0, nI 0, nI 0, nI 0, nI 0]
noncomputable def runN (pc e : Int) : Bool := treeM Try.prog [] [] [kLen 76] 60 48 (.ptr 0 0 :: argsT (nI pc) (nI e) (nI 0)) 0 (.is (.tup [zeroT, nI 292]) 0) factsC
theorem no20 : runN 20 0 = true := by kernel_rfl
theorem no30 : runN 30 0 = true := by kernel_rfl
theorem no50 : runN 50 0 = true := by kernel_rfl
theorem no3 : runN 3 1 = true := by kernel_rfl
theorem no13 : runN 13 1 = true := by kernel_rfl
theorem none_spec {pc e' : Int} (hrun : runN pc e' = true) (hO : Own W (mB b0 b1 N k :: wB b1 g :: m) w) (hc : COk c d e) (hNw : N = c.words) (h1 : t.pc = pc) (h2 : t.end_ = e') (h3 : t.want = 0) :
    Calls Try.prog 48 #[.pointer (some ⟨b0, 0, none⟩), cV c d e, t.v] w fun r w' => r = .returned (.tuple #[({} : TaskP).v, .int .i64 292]) ∧ Own W (mB b0 b1 N k :: wB b1 g :: m) w' := by
  have hN0 : N ≠ 0 := by rw [hNw]; exact (words_le hc).2
  have := treeM_own (σ := sg t c d e N 0 []) (ω := ωM N k g g g) mixed ov_nil (KnAll.cons (kn_len rfl) knAll_nil) (xs := argsT (nI pc) (nI e') (nI 0)) rfl _ factsC (factsC_ok hc hN0) hrun (fun h => h) hO
  have hargs : Ex.valsOf (sg t c d e N 0 []) (argsT (nI pc) (nI e') (nI 0)) = [cV c d e, t.v] := by
    have h4 : ({ t with pc := pc, end_ := e', want := 0 } : TaskP) = t := by cases t; simp_all
    rw [← h4]
    rfl
  rw [hargs] at this
  refine this.mono ?_
  rintro r w' ⟨y, s, rfl, ⟨rfl, rfl⟩, h2⟩
  exact ⟨rfl, h2⟩
end
end Go.Proofs.Ytigakendeghoaaa.Fast

/-
  Two tasks at one head. Plain. No condition.
-/
namespace Go.Proofs.Ytigakendeghoaaa.Fast
open See Step
/-- which phase of its round a task is in -/
def ph (t : TaskP) : Nat := (if 10 ≤ t.pc then t.pc - 10 else t.pc).toNat
/-- how many steps a task has at most to go: its turn, whether the other one is done -/
def phi (t : TaskP) (T : Nat) (od : Bool) : Nat := if t.end_ = 1 ∨ t.pc = 20 then 0 else (4 - ph t) + (if od = true ∧ (ph t = 0 ∨ t.t = T) then 0 else 4)
/-- a task that is not at an end -/
def live (t : TaskP) : Prop := t.end_ = 0 ∧ t.pc ≠ 20
instance (t : TaskP) : Decidable (live t) := inferInstanceAs (Decidable (_ ∧ _))
/-- a task that takes -/
structure Al (L : List Int) (T : Nat) (t : TaskP) : Prop where
  job : t.job = 1
  cpu : t.cpu = 0
  want : t.want = 0
  st : (t.end_ = 0 ∧ t.pc = 0) ∨ (t.end_ = 0 ∧ t.pc = 20) ∨ (t.end_ = 1 ∧ t.pc = 3 ∧ 0 ≤ t.obj ∧ t.obj < 10) ∨
    (t.end_ = 0 ∧ t.pc = 1 ∧ 3 ≤ t.t ∧ t.t ≤ T) ∨
    (t.end_ = 0 ∧ t.pc = 2 ∧ 3 ≤ t.t ∧ t.t ≤ T ∧ t.slab = 0 ∧ 0 ≤ t.obj ∧ t.obj < 10 ∧ (t.t = T → ∃ L', L = t.obj :: L' ∧ t.h = headW 0 t.obj)) ∨
    (t.end_ = 0 ∧ t.pc = 3 ∧ 3 ≤ t.t ∧ t.t ≤ T ∧ t.slab = 0 ∧ 0 ≤ t.obj ∧ t.obj < 10 ∧ -1 ≤ t.last ∧ t.last < 10 ∧ (t.t = T → ∃ L', L = t.obj :: L' ∧ t.h = headW 0 t.obj ∧ t.last = fst L'))
/-- a task that gives 9 back -/
structure Fr (key : Nat) (g : List Nat) (L : List Int) (T : Nat) (t : TaskP) : Prop where
  job : t.job = 2
  cpu : t.cpu = 0
  want : t.want = 0
  slab : t.slab = 0
  obj : t.obj = 9
  st : (t.end_ = 0 ∧ t.pc = 10) ∨ (t.end_ = 1 ∧ t.pc = 13) ∨
    (t.end_ = 0 ∧ t.pc = 11 ∧ 3 ≤ t.t ∧ t.t ≤ T) ∨
    (t.end_ = 0 ∧ t.pc = 12 ∧ 3 ≤ t.t ∧ t.t ≤ T ∧ -1 ≤ t.last ∧ t.last < 10 ∧ (t.t = T → t.h = headW 0 (fst L) ∧ t.last = fst L)) ∨
    (t.end_ = 0 ∧ t.pc = 13 ∧ 3 ≤ t.t ∧ t.t ≤ T ∧ (t.t = T → t.h = headW 0 (fst L) ∧ showOf (at_ g 21) (See.keyOf key 0) 9 = some (fst L)))
section
variable {key T : Nat} {g : List Nat} {L L' : List Int} {t : TaskP}
theorem Al.bump (h : Al L T t) : Al L' (T + 1) t := by
  refine ⟨h.job, h.cpu, h.want, ?_⟩
  rcases h.st with h | h | h | ⟨h1, h2, h3, h4⟩ | ⟨h1, h2, h3, h4, h5, h6, h7, -⟩ | ⟨h1, h2, h3, h4, h5, h6, h7, h8, h9, -⟩
  · exact .inl h
  · exact .inr (.inl h)
  · exact .inr (.inr (.inl h))
  · exact .inr (.inr (.inr (.inl ⟨h1, h2, h3, by omega⟩)))
  · exact .inr (.inr (.inr (.inr (.inl ⟨h1, h2, h3, by omega, h5, h6, h7, fun he => by omega⟩))))
  · exact .inr (.inr (.inr (.inr (.inr ⟨h1, h2, h3, by omega, h5, h6, h7, h8, h9, fun he => by omega⟩))))
theorem Fr.bump {g' : List Nat} (h : Fr key g L T t) : Fr key g' L' (T + 1) t := by
  refine ⟨h.job, h.cpu, h.want, h.slab, h.obj, ?_⟩
  rcases h.st with h | h | ⟨h1, h2, h3, h4⟩ | ⟨h1, h2, h3, h4, h5, h6, -⟩ | ⟨h1, h2, h3, h4, -⟩
  · exact .inl h
  · exact .inr (.inl h)
  · exact .inr (.inr (.inl ⟨h1, h2, h3, by omega⟩))
  · exact .inr (.inr (.inr (.inl ⟨h1, h2, h3, by omega, h5, h6, fun he => by omega⟩)))
  · exact .inr (.inr (.inr (.inr ⟨h1, h2, h3, by omega, fun he => by omega⟩)))
/-- a step of a task that takes: nothing is changed, and it is nearer its end; or it takes the first one -/
theorem al_step {od : Bool} (hg : Good 10 key g L T) (h : Al L T t) (hl : live t) (hT : 3 ≤ T) (hT2 : T < 100) (hod : od = false → T = 3) :
    ∃ t' g', stepP (ch 10 key) g t = (t', g') ∧ inT t.pc ∧
      ((g' = g ∧ t'.end_ = 0 ∧ Al L T t' ∧ phi t' T od + 1 ≤ phi t T od) ∨
       (∃ L', L = t'.obj :: L' ∧ t'.end_ = 1 ∧ Good 10 key g' L' (T + 1) ∧ Al L' (T + 1) t')) := by
  obtain ⟨job, cpu, pc, en, wa, slab, obj, hh, tt, f, kk, n, last, many, dst, back, for_⟩ := t
  obtain ⟨h1, h2, h3, h4⟩ := h
  obtain ⟨hl1, hl2⟩ := hl
  simp only at h1 h2 h3 h4 hl1 hl2
  subst h1 h2 h3 hl1
  rcases h4 with ⟨-, rfl⟩ | ⟨-, rfl⟩ | ⟨h, -⟩ | ⟨-, rfl, a3, a4⟩ | ⟨-, rfl, a3, a4, rfl, a6, a7, a8⟩ | ⟨-, rfl, a3, a4, rfl, a6, a7, a8, a9, a10⟩
  · refine ⟨_, _, st_turn hg rfl (.inl rfl), .inl rfl, .inl ⟨rfl, rfl, ⟨rfl, rfl, rfl, .inr (.inr (.inr (.inl ⟨rfl, rfl, hT, Nat.le_refl _⟩)))⟩, ?_⟩⟩
    cases od <;> simp [phi, ph]
  · exact absurd rfl hl2
  · exact absurd h (by decide)
  · cases L with
    | nil =>
      refine ⟨_, _, st_look0 hg (by omega) rfl rfl, .inr (.inl rfl), .inl ⟨rfl, rfl, ⟨rfl, rfl, rfl, .inr (.inl ⟨rfl, rfl⟩)⟩, ?_⟩⟩
      cases od <;> simp [phi, ph] <;> omega
    | cons x L' =>
      have hx := hg.bd x List.mem_cons_self
      refine ⟨_, _, st_look1 hg (by omega) rfl rfl, .inr (.inl rfl), .inl ⟨rfl, rfl, ⟨rfl, rfl, rfl, .inr (.inr (.inr (.inr (.inl ⟨rfl, rfl, a3, a4, rfl, hx.1, hx.2, fun _ => ⟨L', rfl, rfl⟩⟩))))⟩, ?_⟩⟩
      cases od <;> simp [phi, ph]
      by_cases ht : tt = T <;> simp [ht]
  · rcases st_next_any (O := 10) (key := key) (g := g) (t := ⟨1, 0, 2, 0, 0, 0, obj, hh, tt, f, kk, n, last, many, dst, back, for_⟩) rfl ⟨a6, a7⟩ rfl with hs | ⟨q, hq, hsh, hs⟩
    · have hne : tt ≠ T := fun he => by
        obtain ⟨L', rfl, -⟩ := a8 he
        have hf := fst_in fun y hy => hg.bd y (List.mem_cons_of_mem _ hy)
        have h5 := st_next (O := 10) (key := key) (g := g) (t := ⟨1, 0, 2, 0, 0, 0, obj, hh, tt, f, kk, n, last, many, dst, back, for_⟩) rfl ⟨a6, a7⟩ rfl hf.2 hg.lk.1
        rw [hs] at h5
        simp at h5
      have hod2 : od = true := by
        cases od with
        | true => rfl
        | false => have := hod rfl; omega
      refine ⟨_, _, hs, .inr (.inr (.inl rfl)), .inl ⟨rfl, rfl, ⟨rfl, rfl, rfl, .inl ⟨rfl, rfl⟩⟩, ?_⟩⟩
      subst hod2
      simp [phi, ph, hne]
    · have hq2 : -1 ≤ q := by
        unfold showOf at hsh
        split at hsh
        · simp only [Option.some.injEq] at hsh
          omega
        · cases hsh
      refine ⟨_, _, hs, .inr (.inr (.inl rfl)), .inl ⟨rfl, rfl, ⟨rfl, rfl, rfl, .inr (.inr (.inr (.inr (.inr ⟨rfl, rfl, a3, a4, rfl, a6, a7, hq2, hq, fun he => ?_⟩))))⟩, ?_⟩⟩
      · obtain ⟨L', rfl, a9⟩ := a8 he
        refine ⟨L', rfl, a9, ?_⟩
        have := hg.lk.1
        simp only at hsh
        rw [hsh] at this
        simpa using this
      · cases od <;> simp [phi, ph]
        by_cases ht : tt = T <;> simp [ht]
  · have hs := st_swap hg (by omega) (t := ⟨1, 0, 3, 0, 0, 0, obj, hh, tt, f, kk, n, last, many, dst, back, for_⟩) rfl rfl rfl ⟨a8, a9⟩
    by_cases he : tt = T
    · obtain ⟨L', rfl, a11, a12⟩ := a10 he
      simp only at hs a11 a12
      subst a12
      rw [if_pos ⟨a11.symm, he.symm⟩] at hs
      have hup : up64 tt = T + 1 := by unfold up64; omega
      rw [hup] at hs
      refine ⟨_, _, hs, .inr (.inr (.inr (.inl rfl))), .inr ⟨L', rfl, rfl, ?_, ⟨rfl, rfl, rfl, .inr (.inr (.inl ⟨rfl, rfl, a6, a7⟩))⟩⟩⟩
      exact hg.turn_ (by omega) (by omega) (List.nodup_cons.1 hg.nd).2 (fun y hy => hg.bd y (List.mem_cons_of_mem _ hy)) hg.lk.2
    · simp only at hs
      rw [if_neg fun hh => he hh.2.symm] at hs
      have hod2 : od = true := by
        cases od with
        | true => rfl
        | false => have := hod rfl; omega
      refine ⟨_, _, hs, .inr (.inr (.inr (.inl rfl))), .inl ⟨rfl, rfl, ⟨rfl, rfl, rfl, .inl ⟨rfl, rfl⟩⟩, ?_⟩⟩
      subst hod2
      simp [phi, ph, he]
/-- .. of a task that gives 9 back -/
theorem fr_step {od : Bool} (hg : Good 10 key g L T) (h : Fr key g L T t) (h9 : (9 : Int) ∉ L) (hl : live t) (hT : 3 ≤ T) (hT2 : T < 100) (hod : od = false → T = 3) :
    ∃ t' g', stepP (ch 10 key) g t = (t', g') ∧ inT t.pc ∧
      ((Good 10 key g' L T ∧ t'.end_ = 0 ∧ Fr key g' L T t' ∧ phi t' T od + 1 ≤ phi t T od) ∨
       (t'.end_ = 1 ∧ Good 10 key g' (9 :: L) (T + 1) ∧ Fr key g' (9 :: L) (T + 1) t')) := by
  obtain ⟨job, cpu, pc, en, wa, slab, obj, hh, tt, f, kk, n, last, many, dst, back, for_⟩ := t
  obtain ⟨h1, h2, h3, h5, h6, h4⟩ := h
  obtain ⟨hl1, hl2⟩ := hl
  simp only at h1 h2 h3 h4 h5 h6 hl1 hl2
  subst h1 h2 h3 h5 h6 hl1
  have hf := hg.first
  rcases h4 with ⟨-, rfl⟩ | ⟨h, -⟩ | ⟨-, rfl, a3, a4⟩ | ⟨-, rfl, a3, a4, a5, a6, a7⟩ | ⟨-, rfl, a3, a4, a5⟩
  · refine ⟨_, _, st_turn hg rfl (.inr rfl), .inr (.inr (.inr (.inr (.inl rfl)))), .inl ⟨hg, rfl, ⟨rfl, rfl, rfl, rfl, rfl, .inr (.inr (.inl ⟨rfl, rfl, hT, Nat.le_refl _⟩))⟩, ?_⟩⟩
    cases od <;> simp [phi, ph]
  · exact absurd h (by decide)
  · refine ⟨_, _, st_mine hg (by omega) rfl rfl rfl, .inr (.inr (.inr (.inr (.inr (.inl rfl))))), .inl ⟨hg, rfl, ⟨rfl, rfl, rfl, rfl, rfl, .inr (.inr (.inr (.inl ⟨rfl, rfl, a3, a4, hf.1, hf.2, fun _ => ⟨rfl, rfl⟩⟩)))⟩, ?_⟩⟩
    cases od <;> simp [phi, ph]
    by_cases ht : tt = T <;> simp [ht]
  · have hw : hideW last (See.keyOf key 0) 9 < 18446744073709551616 := hide_lt (by omega)
    refine ⟨_, _, st_tie (by omega) rfl rfl (by simp only; omega) ⟨a5, a6⟩, .inr (.inr (.inr (.inr (.inr (.inr (.inl rfl)))))), .inl ⟨hg.tie (o := 9) (by decide) h9 hw, rfl, ⟨rfl, rfl, rfl, rfl, rfl, .inr (.inr (.inr (.inr ⟨rfl, rfl, a3, a4, fun he => ?_⟩)))⟩, ?_⟩⟩
    · obtain ⟨b1, b2⟩ := a7 he
      refine ⟨b1, ?_⟩
      have : at_ (g.set 21 (hideW last (See.keyOf key 0) 9)) 21 = hideW last (See.keyOf key 0) 9 := at_set_self (by rw [hg.len]; omega)
      show showOf (at_ (g.set 21 (hideW last (See.keyOf key 0) 9)) 21) _ 9 = _
      rw [this, ← b2]
      exact show_hide a5 (by omega)
    · cases od <;> simp [phi, ph]
      by_cases ht : tt = T <;> simp [ht]
  · have hs := st_swap13 hg (by omega) (t := ⟨2, 0, 13, 0, 0, 0, 9, hh, tt, f, kk, n, last, many, dst, back, for_⟩) rfl rfl rfl (by simp only; omega)
    by_cases he : tt = T
    · obtain ⟨b1, b2⟩ := a5 he
      simp only at hs b1
      rw [if_pos ⟨b1.symm, he.symm⟩] at hs
      have hup : up64 tt = T + 1 := by unfold up64; omega
      rw [hup] at hs
      refine ⟨_, _, hs, .inr (.inr (.inr (.inr (.inr (.inr (.inr rfl)))))), .inr ⟨rfl, ?_, ⟨rfl, rfl, rfl, rfl, rfl, .inr (.inl ⟨rfl, rfl⟩)⟩⟩⟩
      refine hg.turn_ (L' := 9 :: L) (by omega) (by omega) (List.nodup_cons.2 ⟨h9, hg.nd⟩) (fun y hy => ?_) ⟨b2, hg.lk⟩
      rcases List.mem_cons.1 hy with rfl | hy
      · exact ⟨by decide, by decide⟩
      · exact hg.bd y hy
    · simp only at hs
      rw [if_neg fun hh => he hh.2.symm] at hs
      have hod2 : od = true := by
        cases od with
        | true => rfl
        | false => have := hod rfl; omega
      refine ⟨_, _, hs, .inr (.inr (.inr (.inr (.inr (.inr (.inr rfl)))))), .inl ⟨hg, rfl, ⟨rfl, rfl, rfl, rfl, rfl, .inl ⟨rfl, rfl⟩⟩, ?_⟩⟩
      subst hod2
      simp [phi, ph, he]
end
end Go.Proofs.Ytigakendeghoaaa.Fast

/-
  Two tasks at one head: what holds after each step. Plain. No condition.
-/
namespace Go.Proofs.Ytigakendeghoaaa.Fast
open See Step
/-- what a task was given -/
def got (t : TaskP) : List Int := if t.end_ = 1 then [t.obj] else []
/-- what it gives back, and has not given back yet -/
def pend (t : TaskP) : List Int := if t.end_ = 1 then [] else [9]
/-- the second task -/
def Snd (fr : Bool) (key : Nat) (g : List Nat) (L : List Int) (T : Nat) (t : TaskP) : Prop := if fr then Fr key g L T t else Al L T t
def dn (t : TaskP) : Nat := if t.end_ = 1 then 1 else 0
structure Duo (k : Nat) (fr : Bool) (key i : Nat) (g : List Nat) (L : List Int) (T : Nat) (ta tb : TaskP) : Prop where
  good : Good 10 key g L T
  a : Al L T ta
  b : Snd fr key g L T tb
  tn : T = 3 + dn ta + dn tb
  perm : (L ++ (got ta ++ (if fr then pend tb else got tb))).Perm (upL k 0 ++ (if fr then [9] else []))
  pa : phi ta T (decide (tb.end_ = 1)) + min 8 ((i - 27) / 2) ≤ 8
  pb : phi tb T (decide (ta.end_ = 1)) + min 8 ((i - 28) / 2) ≤ 8
/-- a step of a task, if it makes one -/
def stp (key : Nat) (g : List Nat) (t : TaskP) : TaskP × List Nat := if live t then stepP (ch 10 key) g t else (t, g)
section
variable {k key i T : Nat} {g : List Nat} {L : List Int} {ta tb t : TaskP} {fr : Bool}
theorem phi_dead (h : ¬ live t) (h2 : t.end_ = 0 ∨ t.end_ = 1) (od : Bool) : phi t T od = 0 := by
  unfold phi
  rw [if_pos]
  unfold live at h
  rcases h2 with h2 | h2
  · exact .inr (Decidable.byContradiction fun h3 => h ⟨h2, h3⟩)
  · exact .inl h2
theorem Al.end_ (h : Al L T t) : t.end_ = 0 ∨ t.end_ = 1 := by
  rcases h.st with h | h | h | h | h | h <;> omega
theorem Fr.end_ (h : Fr key g L T t) : t.end_ = 0 ∨ t.end_ = 1 := by
  rcases h.st with h | h | h | h | h <;> omega
theorem Snd.end_ (h : Snd fr key g L T t) : t.end_ = 0 ∨ t.end_ = 1 := by
  cases fr with
  | true => exact Fr.end_ (show Fr key g L T t from h)
  | false => exact Al.end_ (show Al L T t from h)
theorem Snd.bump {g' : List Nat} {L' : List Int} (h : Snd fr key g L T t) : Snd fr key g' L' (T + 1) t := by
  cases fr with
  | true => exact Fr.bump (show Fr key g L T t from h)
  | false => exact Al.bump (show Al L T t from h)
theorem phi_le8 (t : TaskP) (T : Nat) (od : Bool) : phi t T od ≤ 8 := by
  unfold phi
  split
  · omega
  · split <;> omega
theorem phi_bump (t : TaskP) (T T' : Nat) (od : Bool) (h : phi t T od = 4 - ph t + 4 ∨ t.end_ = 1 ∨ t.pc = 20) (od' : Bool) : phi t T' od' ≤ phi t T od := by
  rcases h with h | h
  · rw [h]
    unfold phi
    split
    · omega
    · split <;> omega
  · unfold phi
    rw [if_pos h]
    omega
theorem phi_false (t : TaskP) (T : Nat) : phi t T false = 4 - ph t + 4 ∨ t.end_ = 1 ∨ t.pc = 20 := by
  by_cases h : t.end_ = 1 ∨ t.pc = 20
  · exact .inr h
  · refine .inl ?_
    unfold phi
    rw [if_neg h]
    simp
theorem Duo.tb100 (h : Duo k fr key i g L T ta tb) : 3 ≤ T ∧ T < 100 := by
  have := h.tn
  unfold dn at this
  split at this <;> split at this <;> omega
/-- what phi is not harmed by -/
theorem min_step (h : phi t T true + min 8 ((i - 27) / 2) ≤ 8) : phi t T true ≤ 8 := by omega
/-- the first one's turn -/
theorem duo_a (h : Duo k fr key i g L T ta tb) (hw : i < 28 ∨ i % 2 = 0) : ∃ L' T', Duo k fr key (i + 1) (stp key g ta).2 L' T' (stp key g ta).1 tb ∧ (live ta → inT ta.pc) := by
  obtain ⟨hT, hT2⟩ := h.tb100
  have hpb : min 8 ((i + 1 - 28) / 2) = min 8 ((i - 28) / 2) := by
    rcases hw with hw | hw <;> congr 1 <;> omega
  have hpa : min 8 ((i + 1 - 27) / 2) ≤ min 8 ((i - 27) / 2) + 1 := by omega
  unfold stp
  by_cases hl : live ta
  · rw [if_pos hl]
    have ha0 : ta.end_ = 0 := hl.1
    have hna : ¬ ta.end_ = 1 := by omega
    obtain ⟨t', g', hs, hin, hr⟩ := al_step (od := decide (tb.end_ = 1)) h.good h.a hl hT hT2 (fun hd => by
      have h1 : ¬ tb.end_ = 1 := by simpa using hd
      have := h.tn
      unfold dn at this
      rw [if_neg hna, if_neg h1] at this
      exact this)
    rw [hs]
    have htn := h.tn
    have hpm := h.perm
    have hpa0 := h.pa
    have hpb0 := h.pb
    rcases hr with ⟨rfl, e0, ha', hp⟩ | ⟨L', hL, e1, hg', ha'⟩
    · have hnt : ¬ t'.end_ = 1 := by omega
      refine ⟨L, T, ⟨h.good, ha', h.b, ?_, ?_, ?_, ?_⟩, fun _ => hin⟩
      · unfold dn at htn ⊢
        rw [if_neg hna] at htn
        rw [if_neg hnt]
        exact htn
      · unfold got at hpm ⊢
        rw [if_neg hna] at hpm
        rw [if_neg hnt]
        exact hpm
      · simp only; omega
      · simp only [hna, hnt, decide_false] at hpb0 ⊢
        omega
    · refine ⟨L', T + 1, ⟨hg', ha', h.b.bump, ?_, ?_, ?_, ?_⟩, fun _ => hin⟩
      · unfold dn at htn ⊢
        rw [if_neg hna] at htn
        rw [if_pos e1]
        omega
      · unfold got at hpm ⊢
        rw [if_neg hna, hL] at hpm
        simp only
        rw [if_pos e1]
        refine List.Perm.trans ?_ hpm
        simp only [List.nil_append, List.cons_append]
        exact List.perm_middle
      · have : phi t' (T + 1) (decide (tb.end_ = 1)) = 0 := by unfold phi; rw [if_pos (.inl e1)]
        simp only
        omega
      · have h2 := phi_false tb T
        simp only [hna, decide_false] at hpb0
        have h3 := phi_bump tb T (T + 1) false h2 (decide (t'.end_ = 1))
        simp only
        omega
  · rw [if_neg hl]
    refine ⟨L, T, ⟨h.good, h.a, h.b, h.tn, h.perm, ?_, ?_⟩, fun hh => absurd hh hl⟩
    · have := phi_dead (T := T) hl h.a.end_ (decide (tb.end_ = 1))
      simp only
      omega
    · have := h.pb
      simp only
      omega
theorem perm_nodup (hk : k ≤ 9) (h : Duo k fr key i g L T ta tb) : (L ++ (got ta ++ (if fr then pend tb else got tb))).Nodup := by
  rw [h.perm.nodup_iff]
  cases fr with
  | true =>
    simp only [if_true]
    rw [List.nodup_append]
    refine ⟨upL_nodup _ _, by simp, fun a ha b hb he => ?_⟩
    have := mem_upL.1 ha
    simp at hb
    omega
  | false => simpa using upL_nodup k 0
/-- the second one's turn -/
theorem duo_b (hk : k ≤ 9) (h : Duo k fr key i g L T ta tb) (hw : i < 28 ∨ i % 2 = 1) : ∃ L' T', Duo k fr key (i + 1) (stp key g tb).2 L' T' ta (stp key g tb).1 ∧ (live tb → inT tb.pc) := by
  obtain ⟨hT, hT2⟩ := h.tb100
  have hpa : min 8 ((i + 1 - 27) / 2) = min 8 ((i - 27) / 2) := by
    rcases hw with hw | hw <;> congr 1 <;> omega
  have hpb : min 8 ((i + 1 - 28) / 2) ≤ min 8 ((i - 28) / 2) + 1 := by omega
  unfold stp
  by_cases hl : live tb
  · rw [if_pos hl]
    have hb0 : tb.end_ = 0 := hl.1
    have hnb : ¬ tb.end_ = 1 := by omega
    have hod : decide (ta.end_ = 1) = false → T = 3 := fun hd => by
      have h1 : ¬ ta.end_ = 1 := by simpa using hd
      have := h.tn
      unfold dn at this
      rw [if_neg hnb, if_neg h1] at this
      exact this
    have htn := h.tn
    have hpm := h.perm
    have hpa0 := h.pa
    have hpb0 := h.pb
    have hnd := perm_nodup hk h
    cases fr with
    | false =>
      obtain ⟨t', g', hs, hin, hr⟩ := al_step (od := decide (ta.end_ = 1)) h.good (show Al L T tb from h.b) hl hT hT2 hod
      rw [hs]
      rcases hr with ⟨rfl, e0, ha', hp⟩ | ⟨L', hL, e1, hg', ha'⟩
      · have hnt : ¬ t'.end_ = 1 := by omega
        refine ⟨L, T, ⟨h.good, h.a, ha', ?_, ?_, ?_, ?_⟩, fun _ => hin⟩
        · unfold dn at htn ⊢
          rw [if_neg hnb] at htn
          simp only
          rw [if_neg hnt]
          exact htn
        · unfold got at hpm ⊢
          rw [if_neg hnb] at hpm
          simp only
          rw [if_neg hnt]
          exact hpm
        · simp only [hnb, hnt, decide_false] at hpa0 ⊢
          omega
        · simp only; omega
      · refine ⟨L', T + 1, ⟨hg', h.a.bump, ha', ?_, ?_, ?_, ?_⟩, fun _ => hin⟩
        · unfold dn at htn ⊢
          rw [if_neg hnb] at htn
          simp only
          rw [if_pos e1]
          omega
        · unfold got at hpm ⊢
          rw [if_neg hnb, hL] at hpm
          simp only [Bool.false_eq_true, if_false] at hpm ⊢
          rw [if_pos e1]
          refine List.Perm.trans ?_ hpm
          rw [List.append_nil, ← List.append_assoc]
          exact List.perm_append_comm
        · have h2 := phi_false ta T
          simp only [hnb, decide_false] at hpa0
          have h3 := phi_bump ta T (T + 1) false h2 (decide (t'.end_ = 1))
          simp only
          omega
        · have : phi t' (T + 1) (decide (ta.end_ = 1)) = 0 := by unfold phi; rw [if_pos (.inl e1)]
          simp only
          omega
    | true =>
      have h9 : (9 : Int) ∉ L := fun hm => by
        simp only [if_true] at hnd
        unfold pend at hnd
        rw [if_neg hnb, ← List.append_assoc, List.nodup_append] at hnd
        exact hnd.2.2 9 (List.mem_append_left _ hm) 9 (by simp) rfl
      obtain ⟨t', g', hs, hin, hr⟩ := fr_step (od := decide (ta.end_ = 1)) h.good (show Fr key g L T tb from h.b) h9 hl hT hT2 hod
      rw [hs]
      rcases hr with ⟨hg', e0, ha', hp⟩ | ⟨e1, hg', ha'⟩
      · have hnt : ¬ t'.end_ = 1 := by omega
        refine ⟨L, T, ⟨hg', h.a, ha', ?_, ?_, ?_, ?_⟩, fun _ => hin⟩
        · unfold dn at htn ⊢
          rw [if_neg hnb] at htn
          simp only
          rw [if_neg hnt]
          exact htn
        · unfold pend at hpm ⊢
          rw [if_neg hnb] at hpm
          simp only
          rw [if_neg hnt]
          exact hpm
        · simp only [hnb, hnt, decide_false] at hpa0 ⊢
          omega
        · simp only; omega
      · refine ⟨9 :: L, T + 1, ⟨hg', h.a.bump, ha', ?_, ?_, ?_, ?_⟩, fun _ => hin⟩
        · unfold dn at htn ⊢
          rw [if_neg hnb] at htn
          simp only
          rw [if_pos e1]
          omega
        · unfold pend at hpm ⊢
          rw [if_neg hnb] at hpm
          simp only [if_true] at hpm ⊢
          rw [if_pos e1]
          refine List.Perm.trans ?_ hpm
          rw [List.append_nil, ← List.append_assoc]
          exact (List.perm_append_singleton 9 (L ++ got ta)).symm
        · have h2 := phi_false ta T
          simp only [hnb, decide_false] at hpa0
          have h3 := phi_bump ta T (T + 1) false h2 (decide (t'.end_ = 1))
          simp only
          omega
        · have : phi t' (T + 1) (decide (ta.end_ = 1)) = 0 := by unfold phi; rw [if_pos (.inl e1)]
          simp only
          omega
  · rw [if_neg hl]
    refine ⟨L, T, ⟨h.good, h.a, h.b, h.tn, h.perm, ?_, ?_⟩, fun hh => absurd hh hl⟩
    · have := h.pa
      simp only
      omega
    · have := phi_dead (T := T) hl h.b.end_ (decide (ta.end_ = 1))
      simp only
      omega
/-- the beginning -/
def tb0 (fr : Bool) : TaskP := if fr then { job := 2, pc := 10, obj := 9 } else { job := 1 }
theorem duo_0 (hk : k ≤ 9) (hg : Good 10 key g (upL k 0) 3) : Duo k fr key 0 g (upL k 0) 3 { job := 1 } (tb0 fr) := by
  refine ⟨hg, ⟨rfl, rfl, rfl, .inl ⟨rfl, rfl⟩⟩, ?_, ?_, ?_, ?_, ?_⟩
  · cases fr with
    | true => exact ⟨rfl, rfl, rfl, rfl, rfl, .inl ⟨rfl, rfl⟩⟩
    | false => exact ⟨rfl, rfl, rfl, .inl ⟨rfl, rfl⟩⟩
  · cases fr <;> rfl
  · cases fr <;> simp [got, pend, tb0]
  · have := phi_le8 { job := 1 } 3 (decide ((tb0 fr).end_ = 1))
    omega
  · have := phi_le8 (tb0 fr) 3 (decide (({ job := 1 } : TaskP).end_ = 1))
    omega
/-- after sixty steps both are at an end -/
theorem duo_end (h : Duo k fr key 60 g L T ta tb) : (ta.end_ = 1 ∨ (ta.end_ = 0 ∧ ta.pc = 20)) ∧ (tb.end_ = 1 ∨ (tb.end_ = 0 ∧ tb.pc = 20 ∧ fr = false)) := by
  have h1 : phi ta T (decide (tb.end_ = 1)) = 0 := by have := h.pa; omega
  have h2 : phi tb T (decide (ta.end_ = 1)) = 0 := by have := h.pb; omega
  have hz : ∀ (t : TaskP) (od : Bool), ph t < 4 → phi t T od = 0 → t.end_ = 1 ∨ t.pc = 20 := fun t od h3 h4 => by
    refine Decidable.byContradiction fun hn => ?_
    unfold phi at h4
    rw [if_neg hn] at h4
    omega
  have hpa : ph ta < 4 ∨ ta.pc = 20 := by
    unfold ph
    rcases h.a.st with ⟨-, e⟩ | ⟨-, e⟩ | ⟨-, e, -⟩ | ⟨-, e, -⟩ | ⟨-, e, -⟩ | ⟨-, e, -⟩ <;> rw [e] <;> simp
  have ha := h.a.end_
  have hb := h.b.end_
  refine ⟨?_, ?_⟩
  · rcases hpa with hp | hp
    · have := hz ta _ hp h1
      omega
    · omega
  · cases fr with
    | true =>
      have hf : Fr key g L T tb := h.b
      have hpb : ph tb < 4 ∧ tb.pc ≠ 20 := by
        unfold ph
        rcases hf.st with ⟨-, e⟩ | ⟨-, e⟩ | ⟨-, e, -⟩ | ⟨-, e, -⟩ | ⟨-, e, -⟩ <;> rw [e] <;> simp
      have := hz tb _ hpb.1 h2
      exact .inl (this.resolve_right hpb.2)
    | false =>
      have hf : Al L T tb := h.b
      have hpb : ph tb < 4 ∨ tb.pc = 20 := by
        unfold ph
        rcases hf.st with ⟨-, e⟩ | ⟨-, e⟩ | ⟨-, e, -⟩ | ⟨-, e, -⟩ | ⟨-, e, -⟩ | ⟨-, e, -⟩ <;> rw [e] <;> simp
      rcases hpb with hp | hp
      · have := hz tb _ hp h2
        rcases this with h3 | h3
        · exact .inl h3
        · rcases hb with hb | hb
          · exact .inr ⟨hb, h3, rfl⟩
          · exact .inl hb
      · rcases hb with hb | hb
        · exact .inr ⟨hb, hp, rfl⟩
        · exact .inl hb
end
end Go.Proofs.Ytigakendeghoaaa.Fast

/-
  wainscotlaw22.works answers true: run by the kernel. No condition.
-/
namespace Go.Proofs.Ytigakendeghoaaa.Fast
open Go
theorem yes_works : Ex.yes Try.prog 30 47 = true := by kernel_rfl
theorem works_in {W w : World} {m : List (Nat × Obj)} (h : Own W m w) : Calls Try.prog 47 #[] w fun e w' => e = .returned (.bool true) ∧ Own W m w' := Ex.yes_in yes_works h
end Go.Proofs.Ytigakendeghoaaa.Fast

/-
  wainscotlaw22.FastApart: for all numbers, and rows of bits. No condition.
-/
namespace Go.Proofs.Ytigakendeghoaaa.FastAp
open Go Ex Mem See Fast
open Step (TaskP)
/-! readings that speak of numbers and of lists -/
theorem sg_la {v v' : Nat → Int} {l : Nat → List (List Int)} (i e j : Nat) : sg v l (lc i e j) = sg v' l (lc i e j) := by
  unfold sg lc
  rw [if_neg (by omega), if_neg (by omega)]
  simp only [if_neg (show ¬ (4096 + ((e * 64 + j) * 64 + i) < 2048) by omega), if_neg (show ¬ (4096 + ((e * 64 + j) * 64 + i) < 4096) by omega)]
theorem sg_ll {v v' : Nat → Int} {l : Nat → List (List Int)} {i : Nat} (h : i < 64) : sg v l (ln i) = sg v' l (ln i) := by rw [sg_ln h, sg_ln h]
def tn (t : TaskP) : List Int := [t.job, t.cpu, t.pc, t.end_, t.want, t.slab, t.obj, (t.h : Int), (t.t : Int), (t.f : Int), (t.k : Int), (t.n : Int), t.last, t.many, t.dst, t.back, t.for_]
theorem tk_val {σ : Nat → Int} {t : TaskP} (b : Nat) (h : ∀ j, j < 17 → σ (b + j) = (tn t).getD j 0) : Ex.valOf σ (.agg (tkL b)) = t.v := by
  have e : ∀ j, j < 17 → ∀ x, (tn t).getD j 0 = x → σ (b + j) = x := fun j hj x hx => (h j hj).trans hx
  have e0 := e 0 (by omega) _ rfl
  rw [Nat.add_zero] at e0
  simp only [tkL, v, Ex.valOf, valsOf, SE.ev, e0, e 1 (by omega) _ rfl, e 2 (by omega) _ rfl, e 3 (by omega) _ rfl, e 4 (by omega) _ rfl, e 5 (by omega) _ rfl, e 6 (by omega) _ rfl, e 7 (by omega) _ rfl, e 8 (by omega) _ rfl, e 9 (by omega) _ rfl, e 10 (by omega) _ rfl, e 11 (by omega) _ rfl, e 12 (by omega) _ rfl, e 13 (by omega) _ rfl, e 14 (by omega) _ rfl, e 15 (by omega) _ rfl, e 16 (by omega) _ rfl]
  rfl
theorem cok_ch {O key : Nat} (h1 : 1 ≤ O) (h2 : O ≤ 16) (hk : key < 18446744073709551616) : COk (ch O key) 0 0 :=
  ⟨by unfold chartPlaces.Ok; show (1 : Int) ≤ ((1 : Nat) : Int) ∧ _; simp only; omega, hk⟩
theorem words_ch {O key : Nat} : (ch O key).words = 12 + O := by
  unfold Ch.words
  simp only
  omega
theorem Al.dead {L : List Int} {T : Nat} {t : TaskP} (h : Al L T t) (hl : ¬ live t) : (t.end_ = 0 ∧ t.pc = 20) ∨ (t.end_ = 1 ∧ t.pc = 3) ∨ (t.end_ = 1 ∧ t.pc = 13) := by
  unfold live at hl
  rcases h.st with ⟨a, b⟩ | ⟨a, b⟩ | ⟨a, b, -⟩ | ⟨a, b, -⟩ | ⟨a, b, -⟩ | ⟨a, b, -⟩ <;> first | (exact .inl ⟨a, b⟩) | (exact .inr (.inl ⟨a, b⟩)) | (exact absurd ⟨a, by omega⟩ hl)
theorem Fr.dead {key : Nat} {g : List Nat} {L : List Int} {T : Nat} {t : TaskP} (h : Fr key g L T t) (hl : ¬ live t) : (t.end_ = 0 ∧ t.pc = 20) ∨ (t.end_ = 1 ∧ t.pc = 3) ∨ (t.end_ = 1 ∧ t.pc = 13) := by
  unfold live at hl
  rcases h.st with ⟨a, b⟩ | ⟨a, b⟩ | ⟨a, b, -⟩ | ⟨a, b, -⟩ | ⟨a, b, -⟩ <;> first | (exact .inr (.inr ⟨a, b⟩)) | (exact absurd ⟨a, by omega⟩ hl)
theorem Snd.dead {fr : Bool} {key : Nat} {g : List Nat} {L : List Int} {T : Nat} {t : TaskP} (h : Snd fr key g L T t) (hl : ¬ live t) : (t.end_ = 0 ∧ t.pc = 20) ∨ (t.end_ = 1 ∧ t.pc = 3) ∨ (t.end_ = 1 ∧ t.pc = 13) := by
  cases fr with
  | true => exact Fr.dead (show Fr key g L T t from h) hl
  | false => exact Al.dead (show Al L T t from h) hl
theorem Snd.want {fr : Bool} {key : Nat} {g : List Nat} {L : List Int} {T : Nat} {t : TaskP} (h : Snd fr key g L T t) : t.want = 0 := by
  cases fr with
  | true => exact Fr.want (show Fr key g L T t from h)
  | false => exact Al.want (show Al L T t from h)
/-! two tasks, step by step -/
structure St where
  i : Nat
  ta : TaskP
  tb : TaskP
  g : List Nat
section
variable (key k : Nat) (bits : List Int) (fr : Bool)
def rt (g : List Nat) (t : TaskP) : TaskP := if live t then (stp key g t).1 else {}
def re (t : TaskP) : Int := if live t then 0 else 292
/-- whose step it is -/
def who (i : Nat) : Bool := if i < 28 ∧ i < bits.length then decide (bits.getD i 0 ≠ 0) else decide (i % 2 = 1)
def nxt (s : St) : St := if who bits s.i then ⟨s.i + 1, s.ta, (stp key s.g s.tb).1, (stp key s.g s.tb).2⟩ else ⟨s.i + 1, (stp key s.g s.ta).1, s.tb, (stp key s.g s.ta).2⟩
def st0 : St := ⟨0, { job := 1 }, tb0 fr, stG k key 10 3⟩
def run : Nat → St
  | 0 => st0 key k fr
  | n + 1 => nxt key bits (run n)
theorem run_i (n : Nat) : (run key k bits fr n).i = n := by
  induction n with
  | zero => rfl
  | succ n ih =>
    unfold run nxt
    split <;> simp only [ih]
def vs1 (s : St) : List Int := [(s.i : Int)] ++ tn s.ta ++ tn s.tb ++ [(k : Int), (key : Int), 0, 0, 0] ++ tn (rt key s.g s.ta) ++ tn (rt key s.g s.tb) ++ [re s.ta, re s.tb]
def ls1 (q : Nat) : List (List Int) := if q = 0 then bits.map fun x => [x] else []
def σ1 (s : St) : Nat → Int := sg (fun n => (vs1 key k s).getD n 0) (ls1 bits)
def Ω1 (s : St) : Nat → Nat → Nat → Obj → Prop
  | 0, b0, b1, o => ∃ q, q ≤ 1000 + s.i ∧ (b0, o) = mB b0 b1 22 q
  | 1, _, b1, o => (b1, o) = wB b1 s.g
  | 2, b0, b1, o => ∃ q, q ≤ 1001 + s.i ∧ (b0, o) = mB b0 b1 22 q
  | 3, _, b1, o => (b1, o) = wB b1 (stp key s.g s.ta).2
  | 4, b0, b1, o => ∃ q, q ≤ 1001 + s.i ∧ (b0, o) = mB b0 b1 22 q
  | 5, _, b1, o => (b1, o) = wB b1 (stp key s.g s.tb).2
  | _, _, _, _ => False
def Inv1 (s : St) : Prop := s.i ≤ 60 ∧ s = run key k bits fr s.i ∧ ∃ L T, Duo k fr key s.i s.g L T s.ta s.tb
end
theorem Al.inT {L : List Int} {T : Nat} {t : TaskP} (h : Al L T t) (hl : live t) : inT t.pc := by
  unfold Fast.inT
  rcases h.st with ⟨a, b⟩ | ⟨a, b⟩ | ⟨a, b, -⟩ | ⟨a, b, -⟩ | ⟨a, b, -⟩ | ⟨a, b, -⟩ <;> first | (exact absurd b hl.2) | (have := hl.1; omega) | omega
theorem Fr.inT {key : Nat} {g : List Nat} {L : List Int} {T : Nat} {t : TaskP} (h : Fr key g L T t) (hl : live t) : inT t.pc := by
  unfold Fast.inT
  rcases h.st with ⟨a, b⟩ | ⟨a, b⟩ | ⟨a, b, -⟩ | ⟨a, b, -⟩ | ⟨a, b, -⟩ <;> first | (have := hl.1; omega) | omega
theorem Snd.inT {fr : Bool} {key : Nat} {g : List Nat} {L : List Int} {T : Nat} {t : TaskP} (h : Snd fr key g L T t) (hl : live t) : inT t.pc := by
  cases fr with
  | true => exact Fr.inT (show Fr key g L T t from h) hl
  | false => exact Al.inT (show Al L T t from h) hl
theorem stp2_spec {key : Nat} {g : List Nat} {L : List Int} {T q : Nat} {t : TaskP} {W w : World} {m : List (Nat × Obj)} {b0 b1 : Nat} (hO : Own W (mB b0 b1 (12 + 10) q :: wB b1 g :: m) w) (hkey : key < 18446744073709551616) (hg : Fast.Good 10 key g L T) (hk : q ≤ 100000) (hw : t.want = 0) (hl : live t → inT t.pc)
    (hd : ¬ live t → (t.end_ = 0 ∧ t.pc = 20) ∨ (t.end_ = 1 ∧ t.pc = 3) ∨ (t.end_ = 1 ∧ t.pc = 13)) :
    Calls Try.prog 48 #[.pointer (some ⟨b0, 0, none⟩), cV (ch 10 key) 0 0, t.v] w fun r w' => ∃ q', q' ≤ q + 1 ∧ r = .returned (.tuple #[(rt key g t).v, .int .i64 (re t)]) ∧ Own W (mB b0 b1 (12 + 10) q' :: wB b1 (stp key g t).2 :: m) w' := by
  have hc : COk (ch 10 key) 0 0 := cok_ch (by omega) (by omega) hkey
  unfold rt re stp
  by_cases h : live t
  · simp only [if_pos h]
    refine (step_spec hO hc hg.len words_ch.symm hg.w64 (by omega) (hl h) h.1 hw).mono ?_
    rintro r w' ⟨q2, hq, rfl, h2⟩
    exact ⟨q + q2, by omega, rfl, h2⟩
  · simp only [if_neg h]
    have h2 : Calls Try.prog 48 #[.pointer (some ⟨b0, 0, none⟩), cV (ch 10 key) 0 0, t.v] w fun r w' => r = .returned (.tuple #[({} : TaskP).v, .int .i64 292]) ∧ Own W (mB b0 b1 (12 + 10) q :: wB b1 g :: m) w' := by
      rcases hd h with ⟨e1, e2⟩ | ⟨e1, e2⟩ | ⟨e1, e2⟩
      · exact none_spec no20 hO hc words_ch.symm e2 e1 hw
      · exact none_spec no3 hO hc words_ch.symm e2 e1 hw
      · exact none_spec no13 hO hc words_ch.symm e2 e1 hw
    refine h2.mono ?_
    rintro r w' ⟨rfl, h3⟩
    exact ⟨q, by omega, rfl, h3⟩
theorem fn_step : FnOk Try.prog 48 := ⟨Try.f48, _, Try.func48, by kernel_rfl, rfl⟩
theorem fn_stocked : FnOk Try.prog 44 := ⟨Try.f44, _, Try.func44, by kernel_rfl, rfl⟩
theorem fn_works : FnOk Try.prog 47 := ⟨Try.f47, _, Try.func47, by kernel_rfl, rfl⟩
theorem fn_bring : FnOk Try.prog 43 := ⟨Try.f43, _, Try.func43, by kernel_rfl, rfl⟩
section
variable {key k : Nat} {bits : List Int} {fr : Bool} {ro : Nat → Option (Option Addr × Nat × Nat)} {s s' : St}
theorem lt17 {p : Nat → Prop} (h0 : p 0) (h1 : p 1) (h2 : p 2) (h3 : p 3) (h4 : p 4) (h5 : p 5) (h6 : p 6) (h7 : p 7) (h8 : p 8) (h9 : p 9) (h10 : p 10) (h11 : p 11) (h12 : p 12) (h13 : p 13) (h14 : p 14) (h15 : p 15) (h16 : p 16) : ∀ j, j < 17 → p j := fun j hj => by
  match j, hj with
  | 0, _ => exact h0
  | 1, _ => exact h1
  | 2, _ => exact h2
  | 3, _ => exact h3
  | 4, _ => exact h4
  | 5, _ => exact h5
  | 6, _ => exact h6
  | 7, _ => exact h7
  | 8, _ => exact h8
  | 9, _ => exact h9
  | 10, _ => exact h10
  | 11, _ => exact h11
  | 12, _ => exact h12
  | 13, _ => exact h13
  | 14, _ => exact h14
  | 15, _ => exact h15
  | 16, _ => exact h16
  | j + 17, h => omega
theorem kc_a (hs : Inv1 key k bits fr s) (hkey : key < 18446744073709551616) (fs) (ok : ∀ f ∈ fs, f.1.ev (σ1 key k bits s) = f.2) : @KcOk (nums [] [(0, .bool)] ro (σ1 key k bits s) (Ω1 key s) fs ok) Try.prog (kcStep 1 40 74 2) := by
  letI N : Nums := nums [] [(0, .bool)] ro (σ1 key k bits s) (Ω1 key s) fs ok
  obtain ⟨hi, -, L, T, hd⟩ := hs
  refine kc_mem (n0 := 0) (n1 := 1) (i := 0) (j := 2) (xs := [.agg chL, .agg (tkL 1)]) (by decide) (by decide) rfl rfl rfl rfl rfl rfl fn_step ?_
  rintro - W w m b0 b1 o0 o1 ⟨q, hq, e0⟩ e1 hO
  rw [e0, show (b1, o1) = wB b1 s.g from e1] at hO
  have hargs : valsOf (σ1 key k bits s) [.agg chL, .agg (tkL 1)] = [cV (ch 10 key) 0 0, s.ta.v] := by
    show [Ex.valOf _ _, Ex.valOf _ _] = _
    rw [tk_val (t := s.ta) 1 (lt17 rfl rfl rfl rfl rfl rfl rfl rfl rfl rfl rfl rfl rfl rfl rfl rfl rfl)]
    rfl
  rw [show valsOf N.σ [.agg chL, .agg (tkL 1)] = _ from hargs]
  refine (stp2_spec hO hkey hd.good (by omega) hd.a.want (Al.inT hd.a) (Al.dead hd.a)).mono ?_
  rintro r w' ⟨q', hq', rfl, h2⟩
  refine ⟨?_, _, _, ⟨q', by omega, rfl⟩, rfl, h2⟩
  show _ = Ending.returned (.tuple #[Ex.valOf (σ1 key k bits s) (.agg (tkL 40)), .int .i64 (re s.ta)])
  rw [tk_val (t := rt key s.g s.ta) 40 (lt17 rfl rfl rfl rfl rfl rfl rfl rfl rfl rfl rfl rfl rfl rfl rfl rfl rfl)]
theorem kc_b (hs : Inv1 key k bits fr s) (hkey : key < 18446744073709551616) (fs) (ok : ∀ f ∈ fs, f.1.ev (σ1 key k bits s) = f.2) : @KcOk (nums [] [(0, .bool)] ro (σ1 key k bits s) (Ω1 key s) fs ok) Try.prog (kcStep 18 57 75 4) := by
  letI N : Nums := nums [] [(0, .bool)] ro (σ1 key k bits s) (Ω1 key s) fs ok
  obtain ⟨hi, -, L, T, hd⟩ := hs
  refine kc_mem (n0 := 0) (n1 := 1) (i := 0) (j := 4) (xs := [.agg chL, .agg (tkL 18)]) (by decide) (by decide) rfl rfl rfl rfl rfl rfl fn_step ?_
  rintro - W w m b0 b1 o0 o1 ⟨q, hq, e0⟩ e1 hO
  rw [e0, show (b1, o1) = wB b1 s.g from e1] at hO
  have hargs : valsOf (σ1 key k bits s) [.agg chL, .agg (tkL 18)] = [cV (ch 10 key) 0 0, s.tb.v] := by
    show [Ex.valOf _ _, Ex.valOf _ _] = _
    rw [tk_val (t := s.tb) 18 (lt17 rfl rfl rfl rfl rfl rfl rfl rfl rfl rfl rfl rfl rfl rfl rfl rfl rfl)]
    rfl
  rw [show valsOf N.σ [.agg chL, .agg (tkL 18)] = _ from hargs]
  refine (stp2_spec hO hkey hd.good (by omega) (Snd.want hd.b) (Snd.inT hd.b) (Snd.dead hd.b)).mono ?_
  rintro r w' ⟨q', hq', rfl, h2⟩
  refine ⟨?_, _, _, ⟨q', by omega, rfl⟩, rfl, h2⟩
  show _ = Ending.returned (.tuple #[Ex.valOf (σ1 key k bits s) (.agg (tkL 57)), .int .i64 (re s.tb)])
  rw [tk_val (t := rt key s.g s.tb) 57 (lt17 rfl rfl rfl rfl rfl rfl rfl rfl rfl rfl rfl rfl rfl rfl rfl rfl rfl)]
/-! how a round goes on -/
theorem agree1 {θ : Sub} (hv : ∀ i, i < 37 → σ1 key k bits s' i = (θ.vAt i).ev (σ1 key k bits s)) (hl : θ.l = []) (h0 : ∀ b0 b1 o, Ω1 key s (θ.oAt 0) b0 b1 o → Ω1 key s' 0 b0 b1 o) (h1 : ∀ b0 b1 o, Ω1 key s (θ.oAt 1) b0 b1 o → Ω1 key s' 1 b0 b1 o) :
    AgreeD θ ⟨37, 1, 2, 10⟩ (fun i => if i = 0 then ro 0 else none) (σ1 key k bits s) (Ω1 key s) (σ1 key k bits s') (Ω1 key s') := by
  have hla : ∀ i, θ.lAt i = .lvar i := fun i => by unfold Sub.lAt; rw [hl]; rfl
  refine ⟨hv, fun i hi => ?_, fun i hi e j hj => ?_, fun i hi b0 b1 o h => ?_, fun i p hp => ?_⟩
  · have hi : i < 1 := hi
    rw [hla]
    simp only [SE.evN, σ1]
    rw [sg_ll (by omega)]
  · rw [hla]
    simp only [SE.evA, σ1]
    exact sg_la _ _ _
  · have hi : i < 2 := hi
    match i, hi with
    | 0, _ => exact h0 b0 b1 o h
    | 1, _ => exact h1 b0 b1 o h
  · have : i = 0 := by
      by_cases h : i = 0
      · exact h
      · simp [h] at hp
    subst this
    simp only [σ1]
    exact ⟨by rw [sg_ll (by omega)], fun e => sg_la _ _ _⟩
theorem i_up {i : Nat} (h : i < 100) : IntKind.i64.wrap ((i : Int) + 1) = ((i + 1 : Nat) : Int) := by
  rw [IntKind.wrap_i64]
  omega
theorem agree_a (hi : s.i < 100) (hl : live s.ta) : AgreeD { v := (0, .bin .add (v 0) (l 1)) :: numsAt 1 40, o := [(0, 2), (1, 3)] } ⟨37, 1, 2, 10⟩ (fun i => if i = 0 then ro 0 else none) (σ1 key k bits s) (Ω1 key s)
    (σ1 key k bits ⟨s.i + 1, (stp key s.g s.ta).1, s.tb, (stp key s.g s.ta).2⟩) (Ω1 key ⟨s.i + 1, (stp key s.g s.ta).1, s.tb, (stp key s.g s.ta).2⟩) := by
  refine agree1 (fun i hi' => ?_) rfl (fun b0 b1 o h => ?_) fun b0 b1 o h => h
  · have hr : rt key s.g s.ta = (stp key s.g s.ta).1 := by unfold rt; rw [if_pos hl]
    unfold σ1 vs1
    rw [hr]
    match i, hi' with
    | 0, _ => exact (i_up hi).symm
    | 1, _ => rfl
    | 2, _ => rfl
    | 3, _ => rfl
    | 4, _ => rfl
    | 5, _ => rfl
    | 6, _ => rfl
    | 7, _ => rfl
    | 8, _ => rfl
    | 9, _ => rfl
    | 10, _ => rfl
    | 11, _ => rfl
    | 12, _ => rfl
    | 13, _ => rfl
    | 14, _ => rfl
    | 15, _ => rfl
    | 16, _ => rfl
    | 17, _ => rfl
    | 18, _ => rfl
    | 19, _ => rfl
    | 20, _ => rfl
    | 21, _ => rfl
    | 22, _ => rfl
    | 23, _ => rfl
    | 24, _ => rfl
    | 25, _ => rfl
    | 26, _ => rfl
    | 27, _ => rfl
    | 28, _ => rfl
    | 29, _ => rfl
    | 30, _ => rfl
    | 31, _ => rfl
    | 32, _ => rfl
    | 33, _ => rfl
    | 34, _ => rfl
    | 35, _ => rfl
    | 36, _ => rfl
    | i + 37, h => exact absurd h (Nat.not_lt.2 (Nat.le_add_left 37 i))
  · obtain ⟨q, hq, e⟩ := h
    exact ⟨q, by simp only; omega, e⟩
theorem agree_b (hi : s.i < 100) (hl : live s.tb) : AgreeD { v := (0, .bin .add (v 0) (l 1)) :: numsAt 18 57, o := [(0, 4), (1, 5)] } ⟨37, 1, 2, 10⟩ (fun i => if i = 0 then ro 0 else none) (σ1 key k bits s) (Ω1 key s)
    (σ1 key k bits ⟨s.i + 1, s.ta, (stp key s.g s.tb).1, (stp key s.g s.tb).2⟩) (Ω1 key ⟨s.i + 1, s.ta, (stp key s.g s.tb).1, (stp key s.g s.tb).2⟩) := by
  refine agree1 (fun i hi' => ?_) rfl (fun b0 b1 o h => ?_) fun b0 b1 o h => h
  · have hr : rt key s.g s.tb = (stp key s.g s.tb).1 := by unfold rt; rw [if_pos hl]
    unfold σ1 vs1
    rw [hr]
    match i, hi' with
    | 0, _ => exact (i_up hi).symm
    | 1, _ => rfl
    | 2, _ => rfl
    | 3, _ => rfl
    | 4, _ => rfl
    | 5, _ => rfl
    | 6, _ => rfl
    | 7, _ => rfl
    | 8, _ => rfl
    | 9, _ => rfl
    | 10, _ => rfl
    | 11, _ => rfl
    | 12, _ => rfl
    | 13, _ => rfl
    | 14, _ => rfl
    | 15, _ => rfl
    | 16, _ => rfl
    | 17, _ => rfl
    | 18, _ => rfl
    | 19, _ => rfl
    | 20, _ => rfl
    | 21, _ => rfl
    | 22, _ => rfl
    | 23, _ => rfl
    | 24, _ => rfl
    | 25, _ => rfl
    | 26, _ => rfl
    | 27, _ => rfl
    | 28, _ => rfl
    | 29, _ => rfl
    | 30, _ => rfl
    | 31, _ => rfl
    | 32, _ => rfl
    | 33, _ => rfl
    | 34, _ => rfl
    | 35, _ => rfl
    | 36, _ => rfl
    | i + 37, h => exact absurd h (Nat.not_lt.2 (Nat.le_add_left 37 i))
  · obtain ⟨q, hq, e⟩ := h
    exact ⟨q, by simp only; omega, e⟩
theorem agree_a0 (hi : s.i < 100) (hl : ¬ live s.ta) : AgreeD { v := [(0, .bin .add (v 0) (l 1))], o := [(0, 2), (1, 3)] } ⟨37, 1, 2, 10⟩ (fun i => if i = 0 then ro 0 else none) (σ1 key k bits s) (Ω1 key s)
    (σ1 key k bits ⟨s.i + 1, (stp key s.g s.ta).1, s.tb, (stp key s.g s.ta).2⟩) (Ω1 key ⟨s.i + 1, (stp key s.g s.ta).1, s.tb, (stp key s.g s.ta).2⟩) := by
  refine agree1 (fun i hi' => ?_) rfl (fun b0 b1 o h => ?_) fun b0 b1 o h => h
  · have hr : (stp key s.g s.ta).1 = s.ta := by unfold stp; rw [if_neg hl]
    rw [hr]
    unfold σ1 vs1
    match i, hi' with
    | 0, _ => exact (i_up hi).symm
    | 1, _ => rfl
    | 2, _ => rfl
    | 3, _ => rfl
    | 4, _ => rfl
    | 5, _ => rfl
    | 6, _ => rfl
    | 7, _ => rfl
    | 8, _ => rfl
    | 9, _ => rfl
    | 10, _ => rfl
    | 11, _ => rfl
    | 12, _ => rfl
    | 13, _ => rfl
    | 14, _ => rfl
    | 15, _ => rfl
    | 16, _ => rfl
    | 17, _ => rfl
    | 18, _ => rfl
    | 19, _ => rfl
    | 20, _ => rfl
    | 21, _ => rfl
    | 22, _ => rfl
    | 23, _ => rfl
    | 24, _ => rfl
    | 25, _ => rfl
    | 26, _ => rfl
    | 27, _ => rfl
    | 28, _ => rfl
    | 29, _ => rfl
    | 30, _ => rfl
    | 31, _ => rfl
    | 32, _ => rfl
    | 33, _ => rfl
    | 34, _ => rfl
    | 35, _ => rfl
    | 36, _ => rfl
    | i + 37, h => exact absurd h (Nat.not_lt.2 (Nat.le_add_left 37 i))
  · obtain ⟨q, hq, e⟩ := h
    exact ⟨q, by simp only; omega, e⟩
theorem agree_b0 (hi : s.i < 100) (hl : ¬ live s.tb) : AgreeD { v := [(0, .bin .add (v 0) (l 1))], o := [(0, 4), (1, 5)] } ⟨37, 1, 2, 10⟩ (fun i => if i = 0 then ro 0 else none) (σ1 key k bits s) (Ω1 key s)
    (σ1 key k bits ⟨s.i + 1, s.ta, (stp key s.g s.tb).1, (stp key s.g s.tb).2⟩) (Ω1 key ⟨s.i + 1, s.ta, (stp key s.g s.tb).1, (stp key s.g s.tb).2⟩) := by
  refine agree1 (fun i hi' => ?_) rfl (fun b0 b1 o h => ?_) fun b0 b1 o h => h
  · have hr : (stp key s.g s.tb).1 = s.tb := by unfold stp; rw [if_neg hl]
    rw [hr]
    unfold σ1 vs1
    match i, hi' with
    | 0, _ => exact (i_up hi).symm
    | 1, _ => rfl
    | 2, _ => rfl
    | 3, _ => rfl
    | 4, _ => rfl
    | 5, _ => rfl
    | 6, _ => rfl
    | 7, _ => rfl
    | 8, _ => rfl
    | 9, _ => rfl
    | 10, _ => rfl
    | 11, _ => rfl
    | 12, _ => rfl
    | 13, _ => rfl
    | 14, _ => rfl
    | 15, _ => rfl
    | 16, _ => rfl
    | 17, _ => rfl
    | 18, _ => rfl
    | 19, _ => rfl
    | 20, _ => rfl
    | 21, _ => rfl
    | 22, _ => rfl
    | 23, _ => rfl
    | 24, _ => rfl
    | 25, _ => rfl
    | 26, _ => rfl
    | 27, _ => rfl
    | 28, _ => rfl
    | 29, _ => rfl
    | 30, _ => rfl
    | 31, _ => rfl
    | 32, _ => rfl
    | 33, _ => rfl
    | 34, _ => rfl
    | 35, _ => rfl
    | 36, _ => rfl
    | i + 37, h => exact absurd h (Nat.not_lt.2 (Nat.le_add_left 37 i))
  · obtain ⟨q, hq, e⟩ := h
    exact ⟨q, by simp only; omega, e⟩
end
end Go.Proofs.Ytigakendeghoaaa.FastAp

/-
  wainscotlaw22.FastApart: the loops, and the whole. No condition.
-/
namespace Go.Proofs.Ytigakendeghoaaa.FastAp
open Go Ex Mem See Fast
open Step (TaskP)
/-! lists as readings -/
def one (L : List Int) : List (List Int) := L.map fun x => [x]
theorem one_len (L : List Int) : (one L).length = L.length := by simp [one]
theorem one_at (L : List Int) (e j : Nat) : (((one L)[e]?).getD [])[j]?.getD 0 = if j = 0 then L.getD e 0 else 0 := by
  unfold one
  rw [List.getElem?_map, List.getD_eq_getElem?_getD]
  cases h : L[e]? with
  | none => cases j <;> simp
  | some x => cases j <;> simp
/-- how often each number below ten stands in a list -/
def hadF (L : List Int) : List Int := (List.range 10).map fun (n : Nat) => (L.count (n : Int) : Int)
theorem hadF_len (L : List Int) : (hadF L).length = 10 := by simp [hadF]
theorem hadF_at (L : List Int) (e : Nat) : (hadF L).getD e 0 = if e < 10 then (L.count (e : Int) : Int) else 0 := by
  unfold hadF
  rw [List.getD_eq_getElem?_getD, List.getElem?_map]
  by_cases h : e < 10
  · rw [List.getElem?_range h]; simp [h]
  · rw [List.getElem?_eq_none (by simp; omega)]; simp [h]
theorem count_take {L : List Int} {j : Nat} (hj : j < L.length) (e : Int) : (L.take (j + 1)).count e = (L.take j).count e + if e = L.getD j 0 then 1 else 0 := by
  rw [List.take_succ_eq_append_getElem hj, List.count_append, List.count_singleton]
  have : L.getD j 0 = L[j] := by rw [List.getD_eq_getElem?_getD, List.getElem?_eq_getElem hj]; rfl
  rw [this]
  by_cases h : e = L[j]
  · simp [h]
  · have h' : ¬ L[j] = e := fun hh => h hh.symm
    simp [h, h']
/-- what was counted, with what the tasks were given -/
def hadEnd (L : List Int) (a b : Bool) (oa ob : Int) : List Int := (List.range 10).map fun (n : Nat) => (L.count (n : Int) : Int) + (if a = true ∧ (n : Int) = oa then 1 else 0) + (if b = true ∧ (n : Int) = ob then 1 else 0)
theorem hadEnd_at (L : List Int) (a b : Bool) (oa ob : Int) (e : Nat) : (hadEnd L a b oa ob).getD e 0 = if e < 10 then (L.count (e : Int) : Int) + (if a = true ∧ (e : Int) = oa then 1 else 0) + (if b = true ∧ (e : Int) = ob then 1 else 0) else 0 := by
  unfold hadEnd
  rw [List.getD_eq_getElem?_getD, List.getElem?_map]
  by_cases h : e < 10
  · rw [List.getElem?_range h]; simp [h]
  · rw [List.getElem?_eq_none (by simp; omega)]; simp [h]
theorem hadEnd_len (L : List Int) (a b : Bool) (oa ob : Int) : (hadEnd L a b oa ob).length = 10 := by simp [hadEnd]
section
variable (key k : Nat) (bits : List Int) (fr : Bool) (n0 : Int) (L : List Int) (T : Nat) (cn : CountsP) (lk : Bool)
/-- the end of the sixty steps -/
def sF : St := run key k bits fr 60
def oA : Int := (sF key k bits fr).ta.obj % 10
def oB : Int := (sF key k bits fr).tb.obj % 10
def dA : Bool := decide ((sF key k bits fr).ta.end_ = 1)
def dB : Bool := decide ((sF key k bits fr).tb.end_ = 1) && !fr
def ex0 : List Int := [(L.length : Int), 10] ++ List.replicate 38 0 ++ [oA key k bits fr, oB key k bits fr, 0, n0] ++ List.replicate 9 0 ++ [0, (T : Int), (if lk then 1 else 0), (cn.inuse : Int), (cn.objects : Int), (if cn.frozen then 1 else 0), (if cn.live then 1 else 0)]
def v0 (n : Nat) : Int := if n < 37 then (vs1 key k (sF key k bits fr)).getD n 0 else (ex0 key k bits fr n0 L T cn lk).getD (n - 37) 0
def l0 (q : Nat) : List (List Int) := if q = 0 then one bits else if q = 1 then one L else if q = 5 then one (hadF L) else if q = 6 then one (hadEnd L (dA key k bits fr) (dB key k bits fr) (oA key k bits fr) (oB key k bits fr)) else if q = 9 then one ((sF key k bits fr).g.map fun (x : Nat) => (x : Int)) else []
def σ0 : Nat → Int := sg (v0 key k bits fr n0 L T cn lk) (l0 key k bits fr L)
def Ω0 : Nat → Nat → Nat → Obj → Prop
  | 0, b0, b1, o => ∃ q, q ≤ 1060 ∧ (b0, o) = mB b0 b1 22 q
  | 1, _, b1, o => (b1, o) = wB b1 (sF key k bits fr).g
  | 6, b0, b1, o => ∃ q, q ≤ 1000 ∧ (b0, o) = mB b0 b1 22 q
  | 7, _, b1, o => (b1, o) = wB b1 (stG k key 10 3)
  | _, _, _, _ => False
/-- while the list is counted -/
def σ2 (j : Nat) : Nat → Int := sg (fun n => if n = 37 then (j : Int) else if n = 76 then (L.getD j 0) % 10 else v0 key k bits fr n0 L T cn lk n) (fun q => if q = 5 then one (hadF (L.take j)) else l0 key k bits fr L q)
/-- while all is looked at -/
def σ4 (j : Nat) : Nat → Int := sg (fun n => if n = 38 then (j : Int) else v0 key k bits fr n0 L T cn lk n) (l0 key k bits fr L)
def Ωn : Nat → Nat → Nat → Obj → Prop := fun _ _ _ _ => False
def roB (A : Option Addr) (len cap : Nat) : Nat → Option (Option Addr × Nat × Nat) := fun i => if i = 0 then some (A, len, cap) else none
end
section
variable {key k : Nat} {bits : List Int} {fr : Bool} {n0 : Int} {L : List Int} {T : Nat} {cn : CountsP} {lk : Bool} {A : Option Addr} {len cap : Nat}
/-! sixty steps -/
theorem nxt_a {s : St} (h : who bits s.i = false) : nxt key bits s = ⟨s.i + 1, (stp key s.g s.ta).1, s.tb, (stp key s.g s.ta).2⟩ := by unfold nxt; rw [h]; rfl
theorem nxt_b {s : St} (h : who bits s.i = true) : nxt key bits s = ⟨s.i + 1, s.ta, (stp key s.g s.tb).1, (stp key s.g s.tb).2⟩ := by unfold nxt; rw [h]; rfl
/-- where a round of the first loop leads -/
def K1 (key k : Nat) (bits : List Int) (fr : Bool) (n0 : Int) (L : List Int) (T : Nat) (cn : CountsP) (lk : Bool) (A : Option Addr) (len cap : Nat) (s : St) (o : LO) : Prop := match o with
  | .cont θ => ∃ s', Inv1 key k bits fr s' ∧ 60 - s'.i < 60 - s.i ∧ AgreeD θ (L1 fr).t.b (roB A len cap) (σ1 key k bits s) (Ω1 key s) (σ1 key k bits s') (Ω1 key s')
  | .out θ => AgreeD θ (L1 fr).post.b (roB A len cap) (σ1 key k bits s) (Ω1 key s) (σ0 key k bits fr n0 L T cn lk) (Ω0 key k bits fr)
theorem go_a (hk : k ≤ 9) {s : St} (hs : Inv1 key k bits fr s) (h60 : s.i < 60) (hw : who bits s.i = false) (hw2 : s.i < 28 ∨ s.i % 2 = 0) : RunL (σ1 key k bits s) (K1 key k bits fr n0 L T cn lk A len cap s) stA := by
  obtain ⟨hi, hrun, Lx, Tx, hd⟩ := hs
  obtain ⟨L', T', hd', -⟩ := duo_a hd hw2
  have hinv : Inv1 key k bits fr ⟨s.i + 1, (stp key s.g s.ta).1, s.tb, (stp key s.g s.ta).2⟩ := by
    refine ⟨h60, ?_, L', T', hd'⟩
    show _ = run key k bits fr (s.i + 1)
    unfold run
    rw [← hrun, nxt_a hw]
  refine ⟨fun h => ?_, fun h => ?_⟩
  · have hl : live s.ta := by
      have h : (re s.ta == 0) = true := h
      unfold re at h
      split at h
      · assumption
      · cases h
    exact ⟨_, hinv, by simp only; omega, agree_a (ro := fun _ => some (A, len, cap)) (by omega) hl⟩
  · have hl : ¬ live s.ta := fun hl => by
      have h : (re s.ta == 0) = false := h
      unfold re at h
      rw [if_pos hl] at h
      cases h
    exact ⟨_, hinv, by simp only; omega, agree_a0 (ro := fun _ => some (A, len, cap)) (by omega) hl⟩
theorem go_b (hk : k ≤ 9) {s : St} (hs : Inv1 key k bits fr s) (h60 : s.i < 60) (hw : who bits s.i = true) (hw2 : s.i < 28 ∨ s.i % 2 = 1) : RunL (σ1 key k bits s) (K1 key k bits fr n0 L T cn lk A len cap s) stB := by
  obtain ⟨hi, hrun, Lx, Tx, hd⟩ := hs
  obtain ⟨L', T', hd', -⟩ := duo_b hk hd hw2
  have hinv : Inv1 key k bits fr ⟨s.i + 1, s.ta, (stp key s.g s.tb).1, (stp key s.g s.tb).2⟩ := by
    refine ⟨h60, ?_, L', T', hd'⟩
    show _ = run key k bits fr (s.i + 1)
    unfold run
    rw [← hrun, nxt_b hw]
  refine ⟨fun h => ?_, fun h => ?_⟩
  · have hl : live s.tb := by
      have h : (re s.tb == 0) = true := h
      unfold re at h
      split at h
      · assumption
      · cases h
    exact ⟨_, hinv, by simp only; omega, agree_b (ro := fun _ => some (A, len, cap)) (by omega) hl⟩
  · have hl : ¬ live s.tb := fun hl => by
      have h : (re s.tb == 0) = false := h
      unfold re at h
      rw [if_pos hl] at h
      cases h
    exact ⟨_, hinv, by simp only; omega, agree_b0 (ro := fun _ => some (A, len, cap)) (by omega) hl⟩
theorem bits_at {s : St} {i : Nat} : σ1 key k bits s (lc 0 i 0) = bits.getD i 0 := by
  unfold σ1
  rw [sg_lc (by omega) (by omega)]
  exact (one_at bits i 0).trans (if_pos rfl)
theorem bits_len {s : St} : σ1 key k bits s (ln 0) = (bits.length : Int) := by
  unfold σ1
  rw [sg_ln (by omega)]
  exact congrArg _ (one_len bits)
theorem σ0_lo {i : Nat} (h : i < 37) : σ0 key k bits fr n0 L T cn lk i = (vs1 key k (sF key k bits fr)).getD i 0 := by
  unfold σ0
  rw [sg_v (by omega)]
  unfold v0
  rw [if_pos h]
theorem round1 (hk : k ≤ 9) {s : St} (hs : Inv1 key k bits fr s) : RunL (σ1 key k bits s) (K1 key k bits fr n0 L T cn lk A len cap s) D1 := by
  have e0 : σ1 key k bits s 0 = (s.i : Int) := rfl
  have turn : 28 ≤ s.i ∨ bits.length ≤ s.i → s.i < 60 → RunL (σ1 key k bits s) (K1 key k bits fr n0 L T cn lk A len cap s) turnT := by
    intro hx h60
    have hwho : who bits s.i = decide (s.i % 2 = 1) := by
      unfold who
      rw [if_neg (by omega)]
    refine ⟨fun h => ?_, fun h => ?_⟩
    · have h : ((σ1 key k bits s 0).tmod 2 == 1) = true := h
      rw [e0, Int.tmod_eq_emod_of_nonneg (by omega)] at h
      have h := eq_of_beq h
      have h2 : s.i % 2 = 1 := by omega
      exact go_b hk hs h60 (by rw [hwho]; exact decide_eq_true h2) (.inr h2)
    · have h : ((σ1 key k bits s 0).tmod 2 == 1) = false := h
      rw [e0, Int.tmod_eq_emod_of_nonneg (by omega), beq_eq_false_iff_ne] at h
      have h2 : s.i % 2 = 0 := by omega
      exact go_a hk hs h60 (by rw [hwho]; exact decide_eq_false (by omega)) (.inr h2)
  refine ⟨fun h => ?_, fun h => ?_⟩
  · have h60 : s.i < 60 := by
      have := of_decide_eq_true (show decide (σ1 key k bits s 0 < 60) = true from h)
      rw [e0] at this
      omega
    refine ⟨fun h => ?_, fun h => ?_⟩
    · have h28 : s.i < 28 := by
        have := of_decide_eq_true (show decide (σ1 key k bits s 0 < 28) = true from h)
        rw [e0] at this
        omega
      refine ⟨fun h => ?_, fun h => ?_⟩
      · have hlen : s.i < bits.length := by
          have := of_decide_eq_true (show decide (σ1 key k bits s 0 < ((σ1 key k bits s (ln 0)).toNat : Int)) = true from h)
          rw [e0, bits_len] at this
          omega
        have hwho : who bits s.i = decide (bits.getD s.i 0 ≠ 0) := by
          unfold who
          rw [if_pos ⟨h28, hlen⟩]
        refine ⟨fun h => ?_, fun h => ?_⟩
        · have h : (σ1 key k bits s (lc 0 (σ1 key k bits s 0).toNat 0) == 0) = true := h
          rw [e0, Int.toNat_natCast, bits_at] at h
          exact go_a hk hs h60 (by rw [hwho]; exact decide_eq_false (by simpa using h)) (.inl h28)
        · have h : (σ1 key k bits s (lc 0 (σ1 key k bits s 0).toNat 0) == 0) = false := h
          rw [e0, Int.toNat_natCast, bits_at, beq_eq_false_iff_ne] at h
          exact go_b hk hs h60 (by rw [hwho]; exact decide_eq_true h) (.inl h28)
      · have hlen : bits.length ≤ s.i := by
          have := of_decide_eq_false (show decide (σ1 key k bits s 0 < ((σ1 key k bits s (ln 0)).toNat : Int)) = false from h)
          rw [e0, bits_len] at this
          omega
        exact turn (.inr hlen) h60
    · have h28 : 28 ≤ s.i := by
        have := of_decide_eq_false (show decide (σ1 key k bits s 0 < 28) = false from h)
        rw [e0] at this
        omega
      exact turn (.inl h28) h60
  · have h60 : s.i = 60 := by
      have := of_decide_eq_false (show decide (σ1 key k bits s 0 < 60) = false from h)
      rw [e0] at this
      have := hs.1
      omega
    have hsF : s = sF key k bits fr := by
      unfold sF
      rw [← h60]
      exact hs.2.1
    show AgreeD {} ⟨37, 1, 2, 10⟩ _ _ _ _ _
    refine ⟨fun i hi => ?_, fun i hi => ?_, fun i hi e j _ => ?_, fun i hi b0 b1 o ho => ?_, fun i p hp => ?_⟩
    · have hi : i < 37 := hi
      rw [σ0_lo hi, ← hsF]
      show _ = σ1 key k bits s i
      unfold σ1
      rw [sg_v (by omega)]
    · have hi : i < 1 := hi
      obtain rfl : i = 0 := by omega
      show _ = (σ1 key k bits s (ln 0)).toNat
      rw [bits_len]
      unfold σ0
      rw [sg_ln (by omega)]
      exact congrArg _ (congrArg _ (one_len bits))
    · have hi : i < 1 := hi
      obtain rfl : i = 0 := by omega
      exact sg_la0 e j
    · have hi : i < 2 := hi
      match i, hi with
      | 0, _ =>
        obtain ⟨q, hq, e⟩ := ho
        exact ⟨q, by omega, e⟩
      | 1, _ =>
        show (b1, o) = wB b1 (sF key k bits fr).g
        rw [← hsF]
        exact ho
    · have : i = 0 := by
        by_cases h : i = 0
        · exact h
        · simp [roB, h] at hp
      subst this
      refine ⟨?_, fun e => sg_la0 e 0⟩
      rw [bits_len]
      unfold σ0
      rw [sg_ln (by omega)]
      exact congrArg _ (congrArg _ (one_len bits))
where
  sg_la0 (e j : Nat) : σ0 key k bits fr n0 L T cn lk (lc 0 e j) = σ1 key k bits s (lc 0 e j) := by
    have hl : (l0 key k bits fr L) 0 = ls1 bits 0 := rfl
    unfold σ0 σ1 sg lc
    simp only [if_neg (show ¬ (4096 + ((e * 64 + j) * 64 + 0) < 2048) by omega), if_neg (show ¬ (4096 + ((e * 64 + j) * 64 + 0) < 4096) by omega)]
    rw [show (4096 + ((e * 64 + j) * 64 + 0) - 4096) % 64 = 0 by omega, hl]
end
end Go.Proofs.Ytigakendeghoaaa.FastAp
