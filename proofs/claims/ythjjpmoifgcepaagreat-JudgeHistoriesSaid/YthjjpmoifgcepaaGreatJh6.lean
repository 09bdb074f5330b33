/-
  Texts of this claim, joined. No condition.
-/
import Derived.Test.YthjjpmoifgcepaaGreatJh5
import Derived.Below
import Derived.Test.YthjjpmoifgcepaaGreatJh4
import Derived.Test.YthjjpmoifgcepaaGreatJh2
/-
  The runner: code and calls: what it finds is what the model does, whatever the tape holds. No condition.
-/
namespace Go.Proofs.YthjjpmoifgcepaaGreat.Ex
open Go
noncomputable section
variable [Nums]
section
variable {P : Program} {call : FuncId → List AV → AH → Option (AV × AH)} {nt : Nat} {ρ : Ren} {w : World}
theorem ER.put {ρ' : Ren} {env env' : T AV} {a : Act} {dst : Option Tmp} {v : AV} {x : Value} (hE : ER ρ env nt a) (hm : ∀ n p, ρ n = some p → ρ' n = some p) (hp : putA nt env dst v = some env') (hx : VR ρ' v x) : ER ρ' env' nt (a.put dst x) := by
  obtain ⟨hd, hv⟩ := putA_spec hp
  refine ⟨by rw [put_defers]; exact hE.dz, by rw [put_size]; exact hE.size, fun t u hu => ?_⟩
  rcases hv t u hu with ⟨rfl, rfl⟩ | ⟨h1, h2⟩
  · refine ⟨x, ?_, hx⟩
    have := hd t rfl
    simp [Act.put, hE.size, this]
  · obtain ⟨y, hy, hr⟩ := hE.val t u h2
    refine ⟨y, ?_, hr.mono hm⟩
    cases dst with
    | none => exact hy
    | some d =>
      have : d ≠ t := fun he => h1 (by rw [he])
      simp [Act.put, Array.getElem?_setIfInBounds, this, hy]
theorem ER.mono {ρ' : Ren} {env : T AV} {a : Act} (hE : ER ρ env nt a) (hm : ∀ n p, ρ n = some p → ρ' n = some p) : ER ρ' env nt a :=
  ⟨hE.dz, hE.size, fun t v hv => by
    obtain ⟨x, hx, hr⟩ := hE.val t v hv
    exact ⟨x, hx, hr.mono hm⟩⟩
theorem undR : VR ρ und undef := by unfold und VR; exact ⟨#[], rfl, VRs.nil⟩
/-- A REGION IN THE ORDER OF THE TEXT -/
theorem regL_wp (hc : CallS P call) {ops : Array Oper} {Q : Exit → Act → World → Prop} : ∀ (l : List Oper) (env : T AV) (h : AH) (env' : T AV) (h' : AH) (ρ : Ren) (w : World) (a : Act), regL P call nt ops l env h = some (env', h') →
    ER ρ env nt a → HR ρ h.get h.next w → (∀ ρ' w' a', Stp ρ h.get h.next w ρ' h'.get h'.next w' → ER ρ' env' nt a' → Q .normal a' w') → wpList P ops Q l a w
  | [], env, h, env', h', ρ, w, a, hr, hE, hH, hQ => by
    simp only [regL, Option.some.injEq, Prod.mk.injEq] at hr
    obtain ⟨rfl, rfl⟩ := hr
    exact hQ ρ w a (Stp.refl hH) hE
  | o :: l, env, h, env', h', ρ, w, a, hr, hE, hH, hQ => by
    unfold regL at hr
    split at hr <;> first | (cases hr; done) | skip
    · rename_i hg
      have hw := guard_rel (ρ := ρ) (a := a) (fun t v _ hv => hE.val t v hv) hg
      split at hr <;> first | (cases hr; done) | skip
      rename_i env1 hp
      unfold wpList
      rw [hw]
      simp only [Bool.false_eq_true, if_false]
      exact regL_wp hc l env1 h env' h' ρ w _ hr (ER.put hE (fun _ _ h => h) hp undR) hH hQ
    · rename_i hg
      have hw := guard_rel (ρ := ρ) (a := a) (fun t v _ hv => hE.val t v hv) hg
      split at hr <;> first | (cases hr; done) | skip
      rename_i vs hvs
      split at hr <;> first | (cases hr; done) | skip
      rename_i v h1 hop
      split at hr <;> first | (cases hr; done) | skip
      rename_i env1 hp
      unfold wpList
      rw [hw]
      simp only [if_true]
      left
      refine op_wp hc hop hH (evs_rel (fun t v _ hv => hE.val t v hv) hvs) fun ρ' x w' hst hx => ?_
      exact regL_wp hc l env1 h1 env' h' ρ' w' _ hr (ER.put hE (Stp.mono hH hst) hp hx) hst.hr fun ρ2 w2 a2 h2 h3 => hQ ρ2 w2 a2 (hst.trans h2) h3
def exitOf : AX → Exit
  | .normal => .normal
  | .exit id => .exit id
  | .ret => .ret
def PostX (nt : Nat) (ρ : Ren) (h : AH) (w : World) (x : AX) (env' : T AV) (h' : AH) (e : Exit) (a' : Act) (w' : World) : Prop :=
  e = exitOf x ∧ ∃ ρ', Stp ρ h.get h.next w ρ' h'.get h'.next w' ∧ ER ρ' env' nt a'
omit [Nums] in
theorem rounds_mono {c : Code} {Q Q' : Exit → Act → World → Prop} (hq : ∀ e a w, Q e a w → Q' e a w) : ∀ (n : Nat) (a : Act) (w : World), Code.rounds P c Q n a w → Code.rounds P c Q' n a w
  | 0, _, _, h => h
  | n + 1, a, w, h => by
    rw [rounds_succ] at h ⊢
    refine wp_mono h fun e a1 w1 h1 => ?_
    cases e with
    | normal => exact rounds_mono hq n a1 w1 h1
    | _ => exact hq _ _ _ h1
theorem iter_wp {c : Code} {body : T AV → AH → Option (AX × T AV × AH)} (hb : ∀ env h x env' h', body env h = some (x, env', h') → ∀ (ρ : Ren) w a, ER ρ env nt a → HR ρ h.get h.next w → c.wp P (PostX nt ρ h w x env' h') a w) :
    ∀ (n : Nat) env h x env' h', iter body n env h = some (x, env', h') → ∀ (ρ : Ren) w a, ER ρ env nt a → HR ρ h.get h.next w → Code.rounds P c (PostX nt ρ h w x env' h') n a w
  | 0, _, _, _, _, _, h, _, _, _, _, _ => by simp [iter] at h
  | n + 1, env, h, x, env', h', hi, ρ, w, a, hE, hH => by
    rw [rounds_succ]
    unfold iter at hi
    split at hi
    · rename_i env1 h1 hbody
      refine wp_mono (hb _ _ _ _ _ hbody ρ w a hE hH) ?_
      rintro e a1 w1 ⟨rfl, ρ1, hst, hE1⟩
      refine rounds_mono (fun e a' w' hq => ?_) _ _ _ (iter_wp hb n _ _ _ _ _ hi ρ1 w1 a1 hE1 hst.hr)
      obtain ⟨h1, ρ2, h2, h3⟩ := hq
      exact ⟨h1, ρ2, hst.trans h2, h3⟩
    · rename_i hno
      refine wp_mono (hb _ _ _ _ _ hi ρ w a hE hH) ?_
      rintro e a1 w1 ⟨rfl, hq⟩
      cases x with
      | normal => exact absurd hi (hno _ _)
      | exit id => exact ⟨rfl, hq⟩
      | ret => exact ⟨rfl, hq⟩
omit [Nums] in
theorem then_of {x : AX} {K : Act → World → Prop} {Q : Exit → Act → World → Prop} {a : Act} {w : World} (hn : x = .normal → K a w) (ho : x ≠ .normal → Q (exitOf x) a w) : Exit.then K Q (exitOf x) a w := by
  cases x with
  | normal => exact hn rfl
  | exit id => exact ho (by intro h; cases h)
  | ret => exact ho (by intro h; cases h)
theorem exec_wp (hm : P.follows .mixedOrders = true) (hc : CallS P call) : ∀ (c : Code) env h x env' h', exec P call nt c env h = some (x, env', h') → ∀ (ρ : Ren) w a, ER ρ env nt a → HR ρ h.get h.next w → c.wp P (PostX nt ρ h w x env' h') a w
  | .skip, env, h, x, env', h', he, ρ, w, a, hE, hH => by
    simp only [exec, Option.some.injEq, Prod.mk.injEq] at he
    obtain ⟨rfl, rfl, rfl⟩ := he
    exact wp_skip ⟨rfl, ρ, Stp.refl hH, hE⟩
  | .label l, env, h, x, env', h', he, ρ, w, a, hE, hH => by
    simp only [exec, Option.some.injEq, Prod.mk.injEq] at he
    obtain ⟨rfl, rfl, rfl⟩ := he
    exact wp_label ⟨rfl, ρ, Stp.refl hH, hE⟩
  | .region id ops false, env, h, x, env', h', he, ρ, w, a, hE, hH => by
    unfold exec at he
    split at he <;> first | (cases he; done) | skip
    rename_i env1 h1 hr
    simp only [Option.some.injEq, Prod.mk.injEq] at he
    obtain ⟨rfl, rfl, rfl⟩ := he
    exact wp_region_list (regL_wp hc _ _ _ _ _ ρ w a hr hE hH fun ρ' w' a' hst hE' => ⟨rfl, ρ', hst, hE'⟩)
  | .region id ops true, env, h, x, env', h', he, ρ, w, a, hE, hH => by
    unfold exec at he
    split at he <;> first | (cases he; done) | skip
    rename_i env1 h1 hr
    simp only [Option.some.injEq, Prod.mk.injEq] at he
    obtain ⟨rfl, rfl, rfl⟩ := he
    exact wp_region_any hm (regDr_wp hc hr hE (hH.drew _) fun ρ' w' a' hst hE' => ⟨rfl, ρ', hst.drew, hE'⟩)
  | .seq c d, env, h, x, env', h', he, ρ, w, a, hE, hH => by
    unfold exec at he
    split at he
    · rename_i env1 h1 hx
      refine wp_seq (wp_mono (exec_wp hm hc c _ _ _ _ _ hx ρ w a hE hH) ?_)
      rintro e a1 w1 ⟨rfl, ρ1, hst, hE1⟩
      refine wp_mono (exec_wp hm hc d _ _ _ _ _ he ρ1 w1 a1 hE1 hst.hr) ?_
      rintro e a2 w2 ⟨rfl, ρ2, hst2, hE2⟩
      exact ⟨rfl, ρ2, hst.trans hst2, hE2⟩
    · rename_i hno
      refine wp_seq (wp_mono (exec_wp hm hc c _ _ _ _ _ he ρ w a hE hH) ?_)
      rintro e a1 w1 ⟨rfl, hq⟩
      exact then_of (fun hx => by subst hx; exact absurd he (hno _ _)) (fun _ => ⟨rfl, hq⟩)
  | .cond c d e, env, h, x, env', h', he, ρ, w, a, hE, hH => by
    unfold exec at he
    have hev : ∀ b, ev env c = some (.bool b) → a.eval c = .bool b := by
      intro b hb
      have := evs_rel (ρ := ρ) (a := a) (l := [c]) (vs := [.bool b]) (fun t v _ hv => hE.val t v hv) (by simp [evs, hb])
      obtain ⟨y, hy, hr⟩ := this.one
      simp at hy
      unfold VR at hr
      rw [hy, hr]
    have hevs : ∀ q p, ev env c = some (.bsym q p) → a.eval c = .bool (q.ev Nums.σ == p) := by
      intro q p hb
      have := evs_rel (ρ := ρ) (a := a) (l := [c]) (vs := [.bsym q p]) (fun t v _ hv => hE.val t v hv) (by simp [evs, hb])
      obtain ⟨y, hy, hr⟩ := this.one
      simp at hy
      unfold VR at hr
      rw [hy, hr]
    split at he
    · rename_i hb
      exact wp_cond_true (hev _ hb) (exec_wp hm hc d _ _ _ _ _ he ρ w a hE hH)
    · rename_i hb
      exact wp_cond_false (hev _ hb) (exec_wp hm hc e _ _ _ _ _ he ρ w a hE hH)
    · rename_i q p hb
      split at he <;> first | (cases he; done) | skip
      rename_i r hr
      have hb := hevs _ _ hb
      rw [askC_ok hr] at hb
      split at he
      · rename_i hrp
        rw [hrp] at hb
        exact wp_cond_true hb (exec_wp hm hc d _ _ _ _ _ he ρ w a hE hH)
      · rename_i hrp
        rw [hrp] at hb
        exact wp_cond_false hb (exec_wp hm hc e _ _ _ _ _ he ρ w a hE hH)
    · cases he
  | .block id c, env, h, x, env', h', he, ρ, w, a, hE, hH => by
    unfold exec at he
    split at he
    · rename_i j env1 h1 hx
      refine wp_block (wp_mono (exec_wp hm hc c _ _ _ _ _ hx ρ w a hE hH) ?_)
      rintro e a1 w1 ⟨rfl, ρ1, hst, hE1⟩
      split at he
      · rename_i hj
        have hj := Nat.eq_of_beq_eq_true hj
        simp only [Option.some.injEq, Prod.mk.injEq] at he
        obtain ⟨rfl, rfl, rfl⟩ := he
        show (if j = id then _ else _)
        rw [if_pos hj]
        exact ⟨rfl, ρ1, hst, hE1⟩
      · rename_i hj
        simp only [Option.some.injEq, Prod.mk.injEq] at he
        obtain ⟨rfl, rfl, rfl⟩ := he
        show (if j = id then _ else _)
        rw [if_neg (fun hji => by subst hji; simp at hj)]
        exact ⟨rfl, ρ1, hst, hE1⟩
    · rename_i hno
      refine wp_block (wp_mono (exec_wp hm hc c _ _ _ _ _ he ρ w a hE hH) ?_)
      rintro e a1 w1 ⟨rfl, hq⟩
      cases x with
      | normal => exact ⟨rfl, hq⟩
      | exit j => exact absurd he (hno _ _ _)
      | ret => exact ⟨rfl, hq⟩
  | .loop c, env, h, x, env', h', he, ρ, w, a, hE, hH => by
    unfold exec at he
    exact wp_loop_rounds 100000 (iter_wp (exec_wp hm hc c) 100000 _ _ _ _ _ he ρ w a hE hH)
  | .scope c, env, h, x, env', h', he, ρ, w, a, hE, hH => by
    unfold exec at he
    refine wp_scope_straight (wp_mono (exec_wp hm hc c _ _ _ _ _ he ρ w a hE hH) ?_)
    rintro e a1 w1 ⟨rfl, hq⟩
    cases x <;> exact ⟨rfl, hq⟩
  | .exit id, env, h, x, env', h', he, ρ, w, a, hE, hH => by
    simp only [exec, Option.some.injEq, Prod.mk.injEq] at he
    obtain ⟨rfl, rfl, rfl⟩ := he
    exact wp_exit ⟨rfl, ρ, Stp.refl hH, hE⟩
  | .ret, env, h, x, env', h', he, ρ, w, a, hE, hH => by
    simp only [exec, Option.some.injEq, Prod.mk.injEq] at he
    obtain ⟨rfl, rfl, rfl⟩ := he
    exact wp_ret ⟨rfl, ρ, Stp.refl hH, hE⟩
  | .goto _, _, _, _, _, _, he, _, _, _, _, _ => by simp [exec] at he
  | .rangeFunc _ _ _ _, _, _, _, _, _, he, _, _, _, _, _ => by simp [exec] at he
  | .refuse _, _, _, _, _, _, he, _, _, _, _, _ => by simp [exec] at he
/-! results -/
theorem ress_sound {h : AH} {env : T AV} {a : Act} {nx : Nat} {F : ResultVar → Sem Value} (hFt : ∀ t, F (.tmp t) = pure (a.tmps.getD t undef)) (hFc : ∀ c t, F (.cell c t) = (asAddr (a.tmps.getD c undef) >>= fun x => loadVar t x))
    (hH : HR ρ h.get nx w) (hE : ER ρ env nt a) : ∀ {l : List ResultVar} {vs : List AV}, ress P h env l = some vs →
    ∃ xs : List Value, VRs ρ vs xs ∧ (l.mapM F : Sem (List Value)).run P w = .ok xs w
  | [], vs, hr => by
    simp only [ress, Option.some.injEq] at hr
    subst hr
    exact ⟨[], VRs.nil, rfl⟩
  | .tmp t :: l, vs, hr => by
    unfold ress at hr
    split at hr <;> first | (cases hr; done) | skip
    rename_i v hv
    split at hr <;> first | (cases hr; done) | skip
    rename_i us hus
    simp only [Option.some.injEq] at hr
    subst hr
    obtain ⟨x, hx, hxr⟩ := hE.val t v hv
    obtain ⟨xs, h1, h2⟩ := ress_sound hFt hFc hH hE hus
    refine ⟨x :: xs, VRs.cons hxr h1, ?_⟩
    have : a.tmps.getD t undef = x := by simp [hx]
    simp only [List.mapM_cons, Sem.run_bind, Sem.run_pure, Result.andThen_ok, hFt, this, h2]
  | .cell c t :: l, vs, hr => by
    unfold ress at hr
    split at hr <;> first | (cases hr; done) | skip
    rename_i p hp
    split at hr <;> first | (cases hr; done) | skip
    rename_i v hv
    split at hr <;> first | (cases hr; done) | skip
    rename_i us hus
    simp only [Option.some.injEq] at hr
    subst hr
    obtain ⟨y, hy, hyr⟩ := hE.val c p hp
    obtain ⟨xs, h1, h2⟩ := ress_sound hFt hFc hH hE hus
    have hyv : a.tmps.getD c undef = y := by simp [hy]
    have hop : VRs ρ [p] (((Op.load t (.tmp c)).operands.toList).map a.eval) := by
      have : a.eval (.tmp c) = y := by simp [Act.eval, hy]
      simp only [Op.operands, List.map_cons, List.map_nil, this]
      exact VRs.cons hyr VRs.nil
    obtain ⟨x, hx, hrun⟩ := read_sound (o := { (default : Oper) with op := .load t (.tmp c) }) hH hv hop
    obtain ⟨ad, rfl⟩ : ∃ ad, y = .pointer (some ad) := by
      simp only [aread] at hv
      split at hv <;> first | (cases hv; done) | skip
      all_goals (rename_i hh; simp only [List.cons.injEq, and_true] at hh; subst hh)
      · obtain ⟨b, s, _, rfl⟩ := hyr.ptr_inv
        exact ⟨_, rfl⟩
      · unfold VR at hyr
        obtain ⟨_, _, _, rfl⟩ := hyr
        exact ⟨_, rfl⟩
      · unfold VR at hyr
        obtain ⟨_, _, _, _, rfl, _⟩ := hyr
        exact ⟨_, rfl⟩
      · unfold VR at hyr
        exact ⟨_, hyr⟩
    have hload : (loadVar t ad).run P w = .ok x w := by
      have he : a.eval (.tmp c) = .pointer (some ad) := by simp [Act.eval, hy]
      simp only [execOp, he, Instr.loadAt, Instr.sureAddr, Sem.run_bind, Sem.run_pure, Result.andThen_ok] at hrun
      cases hl : (loadVar t ad).run P w with
      | ok x' w' =>
        rw [hl] at hrun
        simp only [Result.andThen_ok, Result.ok.injEq, Next.value.injEq] at hrun
        rw [hrun.1, hrun.2]
      | halt e w' =>
        rw [hl] at hrun
        simp at hrun
    refine ⟨x :: xs, VRs.cons hx h1, ?_⟩
    have hs : (F (.cell c t)).run P w = .ok x w := by
      rw [hFc, hyv, Sem.run_bind]
      exact hload
    simp only [List.mapM_cons, Sem.run_bind, Sem.run_pure, Result.andThen_ok, hs, h2]
theorem results_sound {h : AH} {env : T AV} {a : Act} {nx : Nat} {fn : Func} {vs : List AV} (hH : HR ρ h.get nx w) (hE : ER ρ env nt a) (hr : ress P h env fn.results.toList = some vs) :
    ∃ x, VR ρ (resOf vs) x ∧ (results fn a.tmps).run P w = .ok x w := by
  unfold results
  generalize hF : (fun x : ResultVar => (_ : Sem Value)) = F
  obtain ⟨xs, h1, h2⟩ := ress_sound (F := F) (fun t => by rw [← hF]) (fun c t => by rw [← hF]) hH hE hr
  have hl := h1.len
  have harr : fn.results = fn.results.toList.toArray := by simp
  rw [harr, List.mapM_toArray]
  simp only [Sem.run_bind, Sem.run_map]
  refine ⟨if hh : xs.toArray.size = 1 then xs.toArray[0] else .tuple xs.toArray, ?_, ?_⟩
  · cases vs with
    | nil =>
      simp only [List.length_nil] at hl
      rw [dif_neg (by simp; omega)]
      unfold resOf VR
      exact ⟨_, rfl, by simpa using h1⟩
    | cons v vs =>
      cases vs with
      | nil =>
        obtain ⟨y, rfl, hy⟩ := h1.one
        exact hy
      | cons v' vs =>
        simp only [List.length_cons] at hl
        rw [dif_neg (by simp; omega)]
        unfold resOf VR
        exact ⟨_, rfl, by simpa using h1⟩
  · rw [h2]
    rfl
omit [Nums] in
theorem envOf_get : ∀ {l : List AV} {k : Nat} {t0 : T AV} {t : Nat} {v : AV}, (envOf k l t0).get t = some v → (k ≤ t ∧ l[t - k]? = some v) ∨ t0.get t = some v
  | [], k, t0, t, v, h => .inr h
  | x :: l, k, t0, t, v, h => by
    unfold envOf at h
    rcases envOf_get h with ⟨h1, h2⟩ | h1
    · have h1 : k + 1 ≤ t := h1
      have h2 : l[t - (k + 1)]? = some v := h2
      refine .inl ⟨by omega, ?_⟩
      rw [show t - k = (t - (k + 1)) + 1 from by omega, List.getElem?_cons_succ]
      exact h2
    · rcases T.get_put h1 with ⟨h2, h3⟩ | ⟨_, h3⟩
      · subst h2
        exact .inl ⟨Nat.le_refl _, by rw [Nat.sub_self]; simpa using h3⟩
      · exact .inr h3
/-- memory known before is known behind what left it alone -/
theorem Stp.left {g : Nat → Option AO} {nx : Nat} {w' : World} (h : HR ρ g nx w) (hb : RowKit.Below w.heap.size w w') : Stp ρ g nx w ρ g nx w' := by
  have hT := h.tables (w' := w') (g' := g) (ρ' := ρ) (fun c hc _ => hb.block c hc) (fun m c s1 hm hq => .inr ⟨m, s1, hm, hq⟩)
  refine ⟨⟨h.fresh, fun n o hn => ?_, h.inj, hT.1, hT.2.1, hT.2.2.1, hT.2.2.2⟩, fun _ _ => rfl, Nat.le_refl _, hb.os, hb.tape, hb.output, hb.size, fun b hlt _ => hb.block b hlt, fun n b s hn hp => .inr ⟨n, s, hn, hp⟩, fun _ _ h => h⟩
  obtain ⟨b, s, hp, hO⟩ := h.obj n o hn
  refine ⟨b, s, hp, ?_⟩
  have hlt : b < w.heap.size := by
    rcases Nat.lt_or_ge b w.heap.size with h1 | h1
    · exact h1
    · rw [Array.getElem?_eq_none h1] at hO
      exact hO.notNone.elim
  rw [hb.block b hlt]
  exact hO
mutual
/-- what a value without memory is -/
def valOf (σ : Nat → Int) : AV → Value
  | .bool b => .bool b
  | .int k n => .int k n
  | .sym k e => .int k (e.ev σ)
  | .bsym c p => .bool (c.ev σ == p)
  | .str s => .string s
  | .nilp => .pointer none
  | .nilsl => .slice none 0 0
  | .nilmap => .map none
  | .nilfn => .nilFunc
  | .nilif => .nilIface
  | .agg l => .agg (valsOf σ l).toArray
  | .tup l => .tuple (valsOf σ l).toArray
  | _ => undef
def valsOf (σ : Nat → Int) : List AV → List Value
  | [] => []
  | v :: l => valOf σ v :: valsOf σ l
end
mutual
theorem VR.shut : ∀ {v : AV} {x : Value}, VR ρ v x → v.shut = true → x = valOf Nums.σ v
  | .bool _, _, h, _ => by unfold VR at h; exact h
  | .int _ _, _, h, _ => by unfold VR at h; exact h
  | .sym _ _, _, h, _ => by unfold VR at h; exact h
  | .bsym _ _, _, h, _ => by unfold VR at h; exact h
  | .eptr .., _, _, h => by cases h
  | .dsl .., _, _, h => by cases h
  | .rsl _, _, _, h => by cases h
  | .ssl .., _, _, h => by cases h
  | .rptr _ _, _, _, h => by cases h
  | .str _, _, h, _ => by unfold VR at h; exact h
  | .nilp, _, h, _ => by unfold VR at h; exact h
  | .ptr _ _, _, _, h => by cases h
  | .gptr _ _, _, _, h => by cases h
  | .nilsl, _, h, _ => by unfold VR at h; exact h
  | .sl .., _, _, h => by cases h
  | .esl _, _, _, h => by cases h
  | .zsl, _, _, h => by cases h
  | .osl _, _, _, h => by cases h
  | .nilmap, _, h, _ => by unfold VR at h; exact h
  | .map _, _, _, h => by cases h
  | .fn _ _ _, _, _, h => by cases h
  | .nilfn, _, h, _ => by unfold VR at h; exact h
  | .nilif, _, h, _ => by unfold VR at h; exact h
  | .ifc _ _, _, _, h => by cases h
  | .agg l, _, h, hs => by
    unfold VR at h
    obtain ⟨a, rfl, h⟩ := h
    have := VRs.shut h hs
    unfold valOf
    rw [← this]
  | .tup l, _, h, hs => by
    unfold VR at h
    obtain ⟨a, rfl, h⟩ := h
    have := VRs.shut h hs
    unfold valOf
    rw [← this]
theorem VRs.shut : ∀ {l : List AV} {m : List Value}, VRs ρ l m → AV.shuts l = true → m = valsOf Nums.σ l
  | [], _, h, _ => by unfold VRs at h; exact h
  | v :: l, _, h, hs => by
    obtain ⟨y, ys, rfl, h1, h2⟩ := h.uncons
    unfold AV.shuts at hs
    split at hs
    · rename_i hv
      unfold valsOf
      rw [VR.shut h1 hv, VRs.shut h2 hs]
    · cases hs
end
mutual
theorem VR.ofShut : ∀ {v : AV}, v.shut = true → VR ρ v (valOf Nums.σ v)
  | .bool _, _ => by unfold VR valOf; rfl
  | .int _ _, _ => by unfold VR valOf; rfl
  | .sym _ _, _ => by unfold VR valOf; rfl
  | .bsym _ _, _ => by unfold VR valOf; rfl
  | .eptr .., h => by cases h
  | .dsl .., h => by cases h
  | .rsl _, h => by cases h
  | .ssl .., h => by cases h
  | .rptr _ _, h => by cases h
  | .str _, _ => by unfold VR valOf; rfl
  | .nilp, _ => by unfold VR valOf; rfl
  | .ptr _ _, h => by cases h
  | .gptr _ _, h => by cases h
  | .nilsl, _ => by unfold VR valOf; rfl
  | .sl .., h => by cases h
  | .esl _, h => by cases h
  | .zsl, h => by cases h
  | .osl _, h => by cases h
  | .nilmap, _ => by unfold VR valOf; rfl
  | .map _, h => by cases h
  | .fn _ _ _, h => by cases h
  | .nilfn, _ => by unfold VR valOf; rfl
  | .nilif, _ => by unfold VR valOf; rfl
  | .ifc _ _, h => by cases h
  | .agg l, h => by unfold VR valOf; exact ⟨_, rfl, VRs.ofShut h⟩
  | .tup l, h => by unfold VR valOf; exact ⟨_, rfl, VRs.ofShut h⟩
theorem VRs.ofShut : ∀ {l : List AV}, AV.shuts l = true → VRs ρ l (valsOf Nums.σ l)
  | [], _ => by unfold valsOf; exact VRs.nil
  | v :: l, hs => by
    unfold AV.shuts at hs
    split at hs
    · rename_i hv
      unfold valsOf
      exact VRs.cons (VR.ofShut hv) (VRs.ofShut hs)
    · cases hs
end
/-- calls that are known -/
def OvOk (P : Program) (gs : List (Nat × List Int)) (σ : Nat → Int) (ov : Ov) : Prop := ∀ f xs v, (f, xs, v) ∈ ov →
  AV.shuts xs = true ∧ v.shut = true ∧ FnOk P f ∧ ∀ w, Tabs gs w → Calls P f (valsOf σ xs).toArray w fun e w' => e = .returned (valOf σ v) ∧ RowKit.Below w.heap.size w w'
omit [Nums] in
theorem ovAt_mem {f : FuncId} {args : List AV} {v : AV} : ∀ {ov : Ov}, ovAt f args ov = some v → (f, args, v) ∈ ov
  | [], h => by cases h
  | (g, xs, u) :: l, h => by
    unfold ovAt at h
    split at h
    · rename_i hg
      have hg := Nat.eq_of_beq_eq_true hg
      split at h
      · rename_i ha
        have ha := AV.beqs_eq ha
        simp only [Option.some.injEq] at h
        subst hg ha h
        exact List.mem_cons_self
      · exact List.mem_cons_of_mem _ (ovAt_mem h)
    · exact List.mem_cons_of_mem _ (ovAt_mem h)
theorem condsOk_mem : ∀ {l : List (Cnd × Bool)}, condsOk l = true → ∀ c ∈ l, c.1.ev Nums.σ = c.2
  | [], _, c, hc => by cases hc
  | (.lt a b, r) :: l, h, c, hc => by
    unfold condsOk at h
    split at h <;> first | (cases h; done) | skip
    rename_i q hq
    split at h <;> first | (cases h; done) | skip
    rename_i hqr
    rcases List.mem_cons.1 hc with rfl | hc
    · show decide _ = r
      rw [askLt_ok hq]
      simpa using hqr
    · exact condsOk_mem h c hc
  | (.eq a b, r) :: l, h, c, hc => by
    unfold condsOk at h
    split at h <;> first | (cases h; done) | skip
    rename_i q hq
    split at h <;> first | (cases h; done) | skip
    rename_i hqr
    rcases List.mem_cons.1 hc with rfl | hc
    · show (_ == _) = r
      rw [askEq_ok hq]
      simpa using hqr
    · exact condsOk_mem h c hc
/-- .. whatever must be known of numbers, and whatever becomes of blocks of which nothing is known -/
def KnOk (P : Program) (kn : List Kn) : Prop := ∀ k ∈ kn, (∀ c ∈ k.conds, c.1.ev Nums.σ = c.2) → FnOk P k.f ∧ ∀ (ρ : Ren) (h h' : AH) (w : World) (args' : Array Value), effDo h k.effs = some h' → HR ρ h.get h.next w → VRs ρ k.args args'.toList →
  Calls P k.f args' w fun e w' => ∃ x, e = .returned x ∧ VR ρ k.res x ∧ Stp ρ h.get h.next w ρ h'.get h'.next w'
theorem knAt_mem {f : FuncId} {args : List AV} {h h' : AH} {v : AV} : ∀ {kn : List Kn}, knAt f args h kn = some (v, h') → ∃ k ∈ kn, k.f = f ∧ args = k.args ∧ (∀ c ∈ k.conds, c.1.ev Nums.σ = c.2) ∧ effDo h k.effs = some h' ∧ k.res = v
  | [], hk => by cases hk
  | k :: l, hk => by
    have hrest : knAt f args h l = some (v, h') → ∃ k' ∈ k :: l, k'.f = f ∧ args = k'.args ∧ (∀ c ∈ k'.conds, c.1.ev Nums.σ = c.2) ∧ effDo h k'.effs = some h' ∧ k'.res = v := fun hl => by
      obtain ⟨k', h1, h2⟩ := knAt_mem hl
      exact ⟨k', List.mem_cons_of_mem _ h1, h2⟩
    unfold knAt at hk
    split at hk
    · exact hrest hk
    · rename_i hf
      split at hk
      · exact hrest hk
      · rename_i ha
        split at hk
        · exact hrest hk
        · rename_i hc
          split at hk
          · rename_i h1 he
            simp only [Option.some.injEq, Prod.mk.injEq] at hk
            obtain ⟨rfl, rfl⟩ := hk
            exact ⟨k, List.mem_cons_self, Nat.eq_of_beq_eq_true hf, AV.beqs_eq ha, condsOk_mem hc, he, rfl⟩
          · exact hrest hk
theorem kn_nil : KnOk P [] := fun k hk => by cases hk
theorem callN_sound (hm : P.follows .mixedOrders = true) {ov : Ov} (hov : OvOk P Fc.globs Nums.σ ov) {kn : List Kn} (hkn : KnOk P kn) : ∀ n, CallS P (callN P ov kn n)
  | 0 => fun f args h v h' he => by simp [callN] at he
  | n + 1 => fun f args h v h' he => by
    unfold callN at he
    split at he
    · rename_i u hf
      obtain ⟨ha, hu, h1, h2⟩ := hov _ _ _ (ovAt_mem hf)
      simp only [Option.some.injEq, Prod.mk.injEq] at he
      obtain ⟨rfl, rfl⟩ := he
      refine ⟨h1, fun ρ w args' hH hargs => ?_⟩
      have hargs := VRs.shut hargs ha
      have hargs : args' = (valsOf Nums.σ args).toArray := by rw [← hargs]
      subst hargs
      refine (h2 w hH.gl).mono ?_
      rintro e w' ⟨rfl, hb⟩
      exact ⟨ρ, _, rfl, VR.ofShut hu, Stp.left hH hb⟩
    split at he
    · rename_i r hk
      simp only [Option.some.injEq] at he
      subst he
      obtain ⟨k, hmem, rfl, rfl, hcs, heff, rfl⟩ := knAt_mem hk
      obtain ⟨h1, h2⟩ := hkn k hmem hcs
      exact ⟨h1, fun ρ w args' hH hargs => (h2 ρ _ _ w args' heff hH hargs).mono fun e w' ⟨x, hx, hv, hst⟩ => ⟨ρ, x, hx, hv, hst⟩⟩
    split at he <;> first | (cases he; done) | skip
    rename_i fn hf
    split at he <;> first | (cases he; done) | skip
    rename_i hname
    split at he <;> first | (cases he; done) | skip
    rename_i c hb
    split at he <;> first | (cases he; done) | skip
    rename_i hle
    rw [Bool.and_eq_true] at hle
    have hle := Nat.le_of_ble_eq_true hle.1
    refine ⟨⟨fn, c, hf, hname, hb⟩, fun ρ w args' hH hargs => ?_⟩
    have hal : args.length = args'.size := by simpa using hargs.len
    have hE : ER ρ (envOf 0 args .e) fn.ntmps { tmps := args' ++ Array.replicate (fn.ntmps - args'.size) undef, defers := [] } := by
      refine ⟨rfl, by simp; omega, fun t v hv => ?_⟩
      rcases envOf_get hv with ⟨_, h1⟩ | h1
      · rw [Nat.sub_zero] at h1
        obtain ⟨x, hx, hr⟩ := hargs.get h1
        refine ⟨x, ?_, hr⟩
        have hlt := (List.getElem?_eq_some_iff.1 hx).1
        rw [Array.getElem?_append_left (by simpa using hlt)]
        simpa using hx
      · rw [T.get_e] at h1; cases h1
    split at he <;> first | (cases he; done) | skip
    rename_i x env' h1 hno hx
    split at he <;> first | (cases he; done) | skip
    rename_i vs hvs
    simp only [Option.some.injEq, Prod.mk.injEq] at he
    obtain ⟨rfl, rfl⟩ := he
    refine calls_of_wp hf hb (wp_mono (exec_wp hm (callN_sound hm hov hkn n) c _ _ _ _ _ hx ρ w _ hE hH) ?_)
    rintro e a1 w1 ⟨rfl, ρ1, hst, hE1⟩
    obtain ⟨y, hy, hrun⟩ := results_sound (fn := fn) hst.hr hE1 hvs
    cases x with
    | exit id => exact absurd rfl (hno id)
    | normal => exact ⟨hE1.dz, y, hrun, ρ1, y, rfl, hy, hst⟩
    | ret => exact ⟨hE1.dz, y, hrun, ρ1, y, rfl, hy, hst⟩
omit [Nums] in
theorem AH.get_e {n k : Nat} : (AH.mk .e k).get n = none := T.getP_e _
theorem ros_nil {w : World} (h : Fc.rks = []) : Ros w := fun i k A len c hk => by rw [h] at hk; cases hk
/-- A CALL, BY THE RUNNER -/
theorem runs_calls (hm : P.follows .mixedOrders = true) {ov : Ov} (hov : OvOk P Fc.globs Nums.σ ov) {n : Nat} {f : FuncId} {args : List AV} {v : AV} (h : runs P ov n f args v = true) (ha : AV.shuts args = true) (hv : v.shut = true) (w : World) (hg : Tabs Fc.globs w) (hro : Ros w) :
    Calls P f (valsOf Nums.σ args).toArray w fun e w' => e = .returned (valOf Nums.σ v) ∧ RowKit.Below w.heap.size w w' := by
  unfold runs at h
  split at h <;> first | (cases h; done) | skip
  rename_i u h' hc
  have h := AV.beq_eq h
  subst h
  have hH : HR (fun _ => none) (AH.mk .e 0).get (AH.mk .e 0).next w := ⟨fun _ _ => rfl, (fun n o hn => by rw [AH.get_e] at hn; cases hn), (fun n m b s s' hn => by rw [AH.get_e] at hn; cases hn), hg, (fun b l _ n s hn => by rw [AH.get_e] at hn; cases hn), hro, (fun b _ n s hn => by rw [AH.get_e] at hn; cases hn)⟩
  refine ((callN_sound hm hov kn_nil n _ _ _ _ _ hc).2 (fun _ => none) w _ hH (VRs.ofShut ha)).mono ?_
  rintro e w' ⟨ρ', x, rfl, hx, hst⟩
  exact ⟨by rw [VR.shut hx hv], hst.os, hst.tape, hst.output, hst.size, fun b hb => hst.block b hb fun n s hn => by rw [AH.get_e] at hn; cases hn⟩
omit [Nums] in
theorem heap2_get {s n : Nat} {o : AO} (h : (heap2 s).get n = some o) : (n = 0 ∧ o = .opq (2 * s)) ∨ (n = 1 ∧ o = .opq (2 * s + 1)) := by
  unfold heap2 AH.get at h
  rcases T.get_put h with ⟨rfl, h⟩ | ⟨h1, h⟩
  · exact .inr ⟨rfl, by cases h; rfl⟩
  · rcases T.get_put h with ⟨rfl, h⟩ | ⟨h2, h⟩
    · exact .inl ⟨rfl, by cases h; rfl⟩
    · rw [T.get_e] at h; cases h
/-- what two blocks of which nothing is known are behind a call, and all others -/
structure Two (w w' : World) (b0 b1 : Nat) (o0 o1 : Obj) : Prop where
  os : w'.os = w.os
  tape : w'.tape = w.tape
  output : w'.output = w.output
  size : w.heap.size ≤ w'.heap.size
  block : ∀ b, b < w.heap.size → b ≠ b0 → b ≠ b1 → w'.heap[b]? = w.heap[b]?
  at0 : w'.heap[b0]? = some o0
  at1 : w'.heap[b1]? = some o1
def ren2 (b0 b1 : Nat) : Ren := fun n => match n with
  | 0 => some (b0, 0)
  | 1 => some (b1, 0)
  | _ => none
omit [Nums] in
theorem isOpq_get {h : AH} {n i : Nat} (hq : isOpq h n i = true) : h.get n = some (.opq i) := by
  unfold isOpq at hq
  split at hq
  · rename_i j hj
    rw [hj, Nat.eq_of_beq_eq_true hq]
  · cases hq
/-- A CALL AMID TWO BLOCKS OF WHICH NOTHING IS KNOWN, BY THE RUNNER -/
theorem runs2_calls (hm : P.follows .mixedOrders = true) {ov : Ov} (hov : OvOk P Fc.globs Nums.σ ov) {kn : List Kn} (hkn : KnOk P kn) {n : Nat} {f : FuncId} {xs : List AV} {s0 s : Nat} {v : AV} (h : runs2 P ov kn n f (.ptr 0 0 :: xs) s0 v s = true) (ha : AV.shuts xs = true) (hv : v.shut = true)
    (w : World) (hg : Tabs Fc.globs w) (hro : Fc.rks = []) {b0 b1 : Nat} (hb : b0 ≠ b1) (h0 : w.heap[b0]? = some (Nums.ω (2 * s0) b0 b1)) (h1 : w.heap[b1]? = some (Nums.ω (2 * s0 + 1) b0 b1)) (hgn : ∀ b l, findG b Fc.globs = some l → b ≠ b0 ∧ b ≠ b1) :
    Calls P f (.pointer (some ⟨b0, 0, none⟩) :: valsOf Nums.σ xs).toArray w fun e w' => e = .returned (valOf Nums.σ v) ∧ Two w w' b0 b1 (Nums.ω (2 * s) b0 b1) (Nums.ω (2 * s + 1) b0 b1) := by
  unfold runs2 at h
  split at h <;> first | (cases h; done) | skip
  rename_i u h' hc
  rw [Bool.and_eq_true, Bool.and_eq_true] at h
  obtain ⟨hu, q0, q1⟩ := h
  have hu := AV.beq_eq hu
  subst hu
  have q0 := isOpq_get q0
  have q1 := isOpq_get q1
  have hH : HR (ren2 b0 b1) (heap2 s0).get (heap2 s0).next w := by
    refine ⟨fun n hn => ?_, fun n o ho => ?_, fun n m b s s' hn hm hp hq => ?_, hg, fun b l hf n s hn hp => ?_, (fun i k A len c hk => by rw [hro] at hk; cases hk), fun b ⟨i, k, a, len, c, hk, _⟩ => by rw [hro] at hk; cases hk⟩
    · have : 2 ≤ n := hn
      match n, this with
      | n + 2, _ => rfl
    · rcases heap2_get ho with ⟨rfl, rfl⟩ | ⟨rfl, rfl⟩
      · exact ⟨b0, 0, rfl, b0, 0, b1, 0, rfl, rfl, h0⟩
      · exact ⟨b1, 0, rfl, b0, 0, b1, 0, rfl, rfl, h1⟩
    · obtain ⟨o1, ho1⟩ := Option.isSome_iff_exists.1 hn
      obtain ⟨o2, ho2⟩ := Option.isSome_iff_exists.1 hm
      rcases heap2_get ho1 with ⟨rfl, _⟩ | ⟨rfl, _⟩ <;> rcases heap2_get ho2 with ⟨rfl, _⟩ | ⟨rfl, _⟩
      · rfl
      · simp only [ren2, Option.some.injEq, Prod.mk.injEq] at hp hq
        exact absurd (hp.1.trans hq.1.symm) hb
      · simp only [ren2, Option.some.injEq, Prod.mk.injEq] at hp hq
        exact absurd (hq.1.trans hp.1.symm) hb
      · rfl
    · obtain ⟨o1, ho1⟩ := Option.isSome_iff_exists.1 hn
      have := hgn b l hf
      rcases heap2_get ho1 with ⟨rfl, _⟩ | ⟨rfl, _⟩
      · simp only [ren2, Option.some.injEq, Prod.mk.injEq] at hp
        exact this.1 hp.1.symm
      · simp only [ren2, Option.some.injEq, Prod.mk.injEq] at hp
        exact this.2 hp.1.symm
  refine ((callN_sound hm hov hkn n _ _ _ _ _ hc).2 (ren2 b0 b1) w (.pointer (some ⟨b0, 0, none⟩) :: valsOf Nums.σ xs).toArray hH (VRs.cons (by unfold VR; exact ⟨b0, 0, rfl, rfl⟩) (VRs.ofShut ha))).mono ?_
  rintro e w' ⟨ρ', x, rfl, hx, hst⟩
  have e0 : ρ' 0 = some (b0, 0) := (hst.ext 0 (show 0 < 2 by omega)).trans rfl
  have e1 : ρ' 1 = some (b1, 0) := (hst.ext 1 (show 1 < 2 by omega)).trans rfl
  obtain ⟨c0, t0, p0, r0⟩ := hst.hr.obj 0 _ q0
  obtain ⟨c1, t1, p1, r1⟩ := hst.hr.obj 1 _ q1
  rw [e0] at p0
  rw [e1] at p1
  cases p0
  cases p1
  obtain ⟨_, _, _, _, k0, k1, r0⟩ := r0
  rw [e0] at k0
  rw [e1] at k1
  cases k0
  cases k1
  obtain ⟨_, _, _, _, k0, k1, r1⟩ := r1
  rw [e0] at k0
  rw [e1] at k1
  cases k0
  cases k1
  refine ⟨by rw [VR.shut hx hv], hst.os, hst.tape, hst.output, hst.size, fun b hb' n0 n1 => hst.block b hb' fun n s hn hp => ?_, r0, r1⟩
  obtain ⟨o1, ho1⟩ := Option.isSome_iff_exists.1 hn
  rcases heap2_get ho1 with ⟨rfl, _⟩ | ⟨rfl, _⟩
  · simp only [ren2, Option.some.injEq, Prod.mk.injEq] at hp
    exact n0 hp.1.symm
  · simp only [ren2, Option.some.injEq, Prod.mk.injEq] at hp
    exact n1 hp.1.symm
end
end
end Go.Proofs.YthjjpmoifgcepaaGreat.Ex

/-
  The runner: closed calls; calls whose numbers are not known, question by question. No condition.
-/
namespace Go.Proofs.YthjjpmoifgcepaaGreat.Ex
open Go
section
variable {P : Program} {gs : List (Nat × List Int)} {σ : Nat → Int}
theorem tabs_nil {w : World} : Tabs [] w := fun g l h => by cases h
theorem ov_nil : OvOk P gs σ [] := fun f xs v hf => by cases hf
/-- where a tree of questions leads to none of its ends -/
def BadP (σ : Nat → Int) : DT → Prop
  | .leaf | .is _ => False
  | .bad => True
  | .node c t e => (c.ev σ = true ∧ BadP σ t) ∨ (c.ev σ = false ∧ BadP σ e)
/-- what a tree of questions leads to -/
def Ends (σ : Nat → Int) : DT → Value → Prop
  | .leaf, x => x = .bool true
  | .is v, x => x = valOf σ v
  | .bad, _ => False
  | .node c t e, x => (c.ev σ = true ∧ Ends σ t x) ∨ (c.ev σ = false ∧ Ends σ e x)
theorem tree_ends (hm : P.follows .mixedOrders = true) {ov : Ov} (hov : OvOk P gs σ ov) {n : Nat} {f : FuncId} {args : List AV} (ha : AV.shuts args = true) : ∀ (d : DT) (fs : List (Cnd × Bool)), (∀ f ∈ fs, f.1.ev σ = f.2) → tree P gs ov n f args d fs = true → ¬ BadP σ d →
    ∀ w, Tabs gs w → Calls P f (valsOf σ args).toArray w fun e w' => (∃ x, e = .returned x ∧ Ends σ d x) ∧ RowKit.Below w.heap.size w w'
  | .leaf, fs, hfs, h, _, w, hg => (@runs_calls { facts := fs, globs := gs, σ := σ, ok := hfs } P hm ov hov n f args (.bool true) h ha rfl w hg (@ros_nil { facts := fs, globs := gs, σ := σ, ok := hfs } w rfl)).mono fun _ _ h => ⟨⟨_, h.1, rfl⟩, h.2⟩
  | .is v, fs, hfs, h, _, w, hg => by
    unfold tree at h
    split at h <;> first | (cases h; done) | skip
    rename_i hv
    exact (@runs_calls { facts := fs, globs := gs, σ := σ, ok := hfs } P hm ov hov n f args v h ha hv w hg (@ros_nil { facts := fs, globs := gs, σ := σ, ok := hfs } w rfl)).mono fun _ _ h => ⟨⟨_, h.1, rfl⟩, h.2⟩
  | .bad, _, _, _, hb, _, _ => absurd trivial hb
  | .node c t e, fs, hfs, h, hb, w, hg => by
    unfold tree at h
    split at h <;> first | (cases h; done) | skip
    rename_i ht
    cases hc : c.ev σ with
    | true =>
      refine (tree_ends hm hov ha t ((c, true) :: fs) (fun f hf => by rcases List.mem_cons.1 hf with rfl | hf; exact hc; exact hfs f hf) ht (fun hx => hb (.inl ⟨hc, hx⟩)) w hg).mono ?_
      rintro _ _ ⟨⟨x, rfl, hx⟩, h2⟩
      exact ⟨⟨x, rfl, .inl ⟨hc, hx⟩⟩, h2⟩
    | false =>
      refine (tree_ends hm hov ha e ((c, false) :: fs) (fun f hf => by rcases List.mem_cons.1 hf with rfl | hf; exact hc; exact hfs f hf) h (fun hx => hb (.inr ⟨hc, hx⟩)) w hg).mono ?_
      rintro _ _ ⟨⟨x, rfl, hx⟩, h2⟩
      exact ⟨⟨x, rfl, .inr ⟨hc, hx⟩⟩, h2⟩
/-- no end but true -/
def DT.plain : DT → Bool
  | .leaf | .bad => true
  | .is _ => false
  | .node _ t e => t.plain && e.plain
theorem ends_plain : ∀ {d : DT} {x : Value}, d.plain = true → Ends σ d x → x = .bool true
  | .leaf, _, _, h => h
  | .bad, _, _, h => h.elim
  | .is _, _, hp, _ => by cases hp
  | .node c t e, x, hp, h => by
    unfold DT.plain at hp
    rw [Bool.and_eq_true] at hp
    rcases h with ⟨_, h⟩ | ⟨_, h⟩
    · exact ends_plain hp.1 h
    · exact ends_plain hp.2 h
theorem tree_calls (hm : P.follows .mixedOrders = true) {ov : Ov} (hov : OvOk P gs σ ov) {n : Nat} {f : FuncId} {args : List AV} (ha : AV.shuts args = true) (d : DT) (hp : d.plain = true) (h : tree P gs ov n f args d [] = true) (hb : ¬ BadP σ d) (w : World) (hg : Tabs gs w) :
    Calls P f (valsOf σ args).toArray w fun e w' => e = .returned (.bool true) ∧ RowKit.Below w.heap.size w w' := by
  refine (tree_ends hm hov ha d [] (by simp) h hb w hg).mono ?_
  rintro _ _ ⟨⟨x, rfl, hx⟩, h2⟩
  rw [ends_plain hp hx]
  exact ⟨rfl, h2⟩
/-- A CALL WITHOUT ARGUMENTS -/
theorem leaf_calls (hm : P.follows .mixedOrders = true) {ov : Ov} (hov : OvOk P gs σ ov) {n : Nat} {f : FuncId} (h : tree P gs ov n f [] .leaf [] = true) (w : World) (hg : Tabs gs w) : Calls P f #[] w fun e w' => e = .returned (.bool true) ∧ RowKit.Below w.heap.size w w' :=
  tree_calls hm hov rfl .leaf rfl h (fun h => h) w hg
theorem yes_calls (hm : P.follows .mixedOrders = true) {n : Nat} {f : FuncId} (h : yes P n f = true) (w : World) : Calls P f #[] w fun e w' => e = .returned (.bool true) ∧ RowKit.Below w.heap.size w w' :=
  leaf_calls (gs := []) (σ := fun _ => 0) hm ov_nil h w tabs_nil
/-- one more call that is known -/
theorem ov_cons {ov : Ov} {f : FuncId} {xs : List AV} {v : AV} (hov : OvOk P gs σ ov) (ha : AV.shuts xs = true) (hv : v.shut = true) (hf : FnOk P f) (hc : ∀ w, Tabs gs w → Calls P f (valsOf σ xs).toArray w fun e w' => e = .returned (valOf σ v) ∧ RowKit.Below w.heap.size w w') : OvOk P gs σ ((f, xs, v) :: ov) := by
  intro g xs' v' hm
  rcases List.mem_cons.1 hm with he | he
  · simp only [Prod.mk.injEq] at he
    obtain ⟨rfl, rfl, rfl⟩ := he
    exact ⟨ha, hv, hf, hc⟩
  · exact hov g xs' v' he
/-- .. by a run -/
theorem ov_run (hm : P.follows .mixedOrders = true) {ov : Ov} (hov : OvOk P gs σ ov) {n : Nat} {f : FuncId} (hf : FnOk P f) (h : tree P gs ov n f [] .leaf [] = true) : OvOk P gs σ ((f, [], .bool true) :: ov) :=
  ov_cons hov rfl rfl hf fun w hg => leaf_calls hm hov h w hg
end
end Go.Proofs.YthjjpmoifgcepaaGreat.Ex

/-
  From a run in the kernel to the form that a law's last text wants. No condition.
-/
namespace Go.Proofs.YthjjpmoifgcepaaGreat.Ex
open Go
theorem mixed : Tryz.prog.follows .mixedOrders = true := by kernel_rfl
theorem yes_own {n : Nat} {f : FuncId} (h : yes Tryz.prog n f = true) (w : World) : Calls Tryz.prog f #[] w fun e w' => e = .returned (.bool true) ∧ Own w [] w' :=
  (yes_calls mixed h w).mono fun _ _ h => ⟨h.1, ⟨h.2, by simp, by simp⟩⟩
/-- .. amid other blocks -/
theorem yes_in {n : Nat} {f : FuncId} (h : yes Tryz.prog n f = true) {W w : World} {m : List (Nat × Obj)} (hO : Own W m w) : Calls Tryz.prog f #[] w fun e w' => e = .returned (.bool true) ∧ Own W m w' :=
  (yes_calls mixed h w).mono fun _ _ h => ⟨h.1, hO.then_below h.2⟩
/-- .. where calls are known, and tables -/
theorem yes_over {gs : List (Nat × List Int)} {σ : Nat → Int} {ov : Ov} (hov : OvOk Tryz.prog gs σ ov) {n : Nat} {f : FuncId} (h : tree Tryz.prog gs ov n f [] .leaf [] = true) (w : World) (hg : Tabs gs w) : Calls Tryz.prog f #[] w fun e w' => e = .returned (.bool true) ∧ Own w [] w' :=
  (leaf_calls mixed hov h w hg).mono fun _ _ h => ⟨h.1, ⟨h.2, by simp, by simp⟩⟩
/-- a law with arguments -/
theorem law_over {gs : List (Nat × List Int)} {σ : Nat → Int} {ov : Ov} (hov : OvOk Tryz.prog gs σ ov) {n : Nat} {f : FuncId} {args : List AV} (ha : AV.shuts args = true) (d : DT) (hp : d.plain = true) (h : tree Tryz.prog gs ov n f args d [] = true) (hb : ¬ BadP σ d) (w : World) (hg : Tabs gs w) :
    Calls Tryz.prog f (valsOf σ args).toArray w fun e w' => e = .returned (.bool true) ∧ Own w [] w' :=
  (tree_calls mixed hov ha d hp h hb w hg).mono fun _ _ h => ⟨h.1, ⟨h.2, by simp, by simp⟩⟩
end Go.Proofs.YthjjpmoifgcepaaGreat.Ex

/-
  Calls amid a memory of which nothing is known but what known calls make of it, question by question. No condition.
-/
namespace Go.Proofs.YthjjpmoifgcepaaGreat.Ex
open Go
section
variable {P : Program} {gs : List (Nat × List Int)} {σ : Nat → Int} {ω : Nat → Nat → Nat → Obj}
/-- calls that are known, whatever is known of numbers -/
def KnAll (P : Program) (gs : List (Nat × List Int)) (σ : Nat → Int) (ω : Nat → Nat → Nat → Obj) (kn : List Kn) : Prop :=
  ∀ (fs : List (Cnd × Bool)) (hfs : ∀ f ∈ fs, f.1.ev σ = f.2), @KnOk { facts := fs, globs := gs, σ := σ, ω := ω, ok := hfs } P kn
theorem knAll_nil : KnAll P gs σ ω [] := fun fs hfs => @kn_nil { facts := fs, globs := gs, σ := σ, ω := ω, ok := hfs } P
/-- what a tree of questions leads to -/
def EndsM (σ : Nat → Int) : DM → Value → Nat → Prop
  | .is v s, x, t => x = valOf σ v ∧ t = s
  | .bad, _, _ => False
  | .node c t e, x, s => (c.ev σ = true ∧ EndsM σ t x s) ∨ (c.ev σ = false ∧ EndsM σ e x s)
def BadM (σ : Nat → Int) : DM → Prop
  | .is _ _ => False
  | .bad => True
  | .node c t e => (c.ev σ = true ∧ BadM σ t) ∨ (c.ev σ = false ∧ BadM σ e)
def hasBadM : DM → Bool
  | .bad => true
  | .node _ t e => hasBadM t || hasBadM e
  | .is _ _ => false
theorem no_badM {t : DM} (h : hasBadM t = false) : ¬ BadM σ t := by
  induction t with
  | is _ _ => exact fun h => h
  | bad => cases h
  | node c t e i1 i2 =>
    unfold hasBadM at h
    rw [Bool.or_eq_false_iff] at h
    rintro (⟨_, h1⟩ | ⟨_, h1⟩)
    · exact i1 h.1 h1
    · exact i2 h.2 h1
theorem treeM_ends (hm : P.follows .mixedOrders = true) {ov : Ov} (hov : OvOk P gs σ ov) {kn : List Kn} (hkn : KnAll P gs σ ω kn) {n : Nat} {f : FuncId} {xs : List AV} (ha : AV.shuts xs = true) {s0 : Nat} : ∀ (d : DM) (fs : List (Cnd × Bool)), (∀ f ∈ fs, f.1.ev σ = f.2) →
    treeM P gs ov kn n f (.ptr 0 0 :: xs) s0 d fs = true → ¬ BadM σ d →
    ∀ w, Tabs gs w → ∀ b0 b1, b0 ≠ b1 → w.heap[b0]? = some (ω (2 * s0) b0 b1) → w.heap[b1]? = some (ω (2 * s0 + 1) b0 b1) → (∀ b l, findG b gs = some l → b ≠ b0 ∧ b ≠ b1) →
    Calls P f (.pointer (some ⟨b0, 0, none⟩) :: valsOf σ xs).toArray w fun e w' => ∃ x s, e = .returned x ∧ EndsM σ d x s ∧ Two w w' b0 b1 (ω (2 * s) b0 b1) (ω (2 * s + 1) b0 b1)
  | .is v s, fs, hfs, h, _, w, hg, b0, b1, hb, h0, h1, hgn => by
    unfold treeM at h
    split at h <;> first | (cases h; done) | skip
    rename_i hv
    exact (@runs2_calls { facts := fs, globs := gs, σ := σ, ω := ω, ok := hfs } P hm ov hov kn (hkn fs hfs) n f xs s0 s v h ha hv w hg rfl b0 b1 hb h0 h1 hgn).mono fun _ _ h => ⟨_, s, h.1, ⟨rfl, rfl⟩, h.2⟩
  | .bad, _, _, _, hb, _, _, _, _, _, _, _, _ => absurd trivial hb
  | .node c t e, fs, hfs, h, hb, w, hg, b0, b1, hbb, h0, h1, hgn => by
    unfold treeM at h
    split at h <;> first | (cases h; done) | skip
    rename_i ht
    cases hc : c.ev σ with
    | true =>
      refine (treeM_ends hm hov hkn ha t ((c, true) :: fs) (fun f hf => by rcases List.mem_cons.1 hf with rfl | hf; exact hc; exact hfs f hf) ht (fun hx => hb (.inl ⟨hc, hx⟩)) w hg b0 b1 hbb h0 h1 hgn).mono ?_
      rintro _ _ ⟨x, s, rfl, hx, h2⟩
      exact ⟨x, s, rfl, .inl ⟨hc, hx⟩, h2⟩
    | false =>
      refine (treeM_ends hm hov hkn ha e ((c, false) :: fs) (fun f hf => by rcases List.mem_cons.1 hf with rfl | hf; exact hc; exact hfs f hf) h (fun hx => hb (.inr ⟨hc, hx⟩)) w hg b0 b1 hbb h0 h1 hgn).mono ?_
      rintro _ _ ⟨x, s, rfl, hx, h2⟩
      exact ⟨x, s, rfl, .inr ⟨hc, hx⟩, h2⟩
/-! from, and to, the form of owned blocks -/
theorem Two.own {W w w' : World} {m : List (Nat × Obj)} {b0 b1 : Nat} {o0 o1 o0' o1' : Obj} (h : Own W ((b0, o0) :: (b1, o1) :: m) w) (ht : Two w w' b0 b1 o0' o1') : Own W ((b0, o0') :: (b1, o1') :: m) w' := by
  have hn0 : ∀ p ∈ m, p.1 ≠ b0 := fun p hp => h.ne (List.mem_cons_of_mem _ hp)
  have hn1 : ∀ p ∈ m, p.1 ≠ b1 := fun p hp => h.skip.ne hp
  have g0 := h.ge List.mem_cons_self
  have g1 := h.skip.ge List.mem_cons_self
  refine ⟨⟨ht.os.trans h.below.os, ht.tape.trans h.below.tape, ht.output.trans h.below.output, Nat.le_trans h.below.size ht.size, fun b hb => ?_⟩, fun p hp => ?_, h.nd⟩
  · rw [ht.block b (Nat.lt_of_lt_of_le hb h.below.size) (by omega) (by omega)]
    exact h.below.block b hb
  · rcases List.mem_cons.1 hp with rfl | hp
    · exact ⟨g0, ht.at0⟩
    · rcases List.mem_cons.1 hp with rfl | hp
      · exact ⟨g1, ht.at1⟩
      · have := h.at_ p (List.mem_cons_of_mem _ (List.mem_cons_of_mem _ hp))
        refine ⟨this.1, ?_⟩
        rw [ht.block p.1 (heap_lt this.2) (hn0 p hp) (hn1 p hp)]
        exact this.2
theorem two_of {w : World} {b0 b1 : Nat} {o0 o1 o0' o1' : Obj} (hb : b0 ≠ b1) (h0 : w.heap[b0]? = some o0) (h1 : w.heap[b1]? = some o1) {Q : Ending → Prop} {f : FuncId} {args : Array Value}
    (hc : ∀ (W : World) (m : List (Nat × Obj)), Own W ((b0, o0) :: (b1, o1) :: m) w → Calls P f args w fun e w' => Q e ∧ Own W ((b0, o0') :: (b1, o1') :: m) w') :
    Calls P f args w fun e w' => Q e ∧ Two w w' b0 b1 o0' o1' := by
  let W : World := { w with heap := #[] }
  let m : List (Nat × Obj) := ((List.range w.heap.size).filter fun b => b != b0 && b != b1).map fun b => (b, w.heap[b]?.getD o0)
  have hO : Own W ((b0, o0) :: (b1, o1) :: m) w := by
    refine ⟨⟨rfl, rfl, rfl, Nat.zero_le _, fun b hb => by simp [W] at hb⟩, fun p hp => ⟨Nat.zero_le _, ?_⟩, ?_⟩
    · rcases List.mem_cons.1 hp with rfl | hp
      · exact h0
      · rcases List.mem_cons.1 hp with rfl | hp
        · exact h1
        · obtain ⟨b, hb, rfl⟩ := List.mem_map.1 hp
          have hlt := List.mem_range.1 (List.mem_filter.1 hb).1
          simp [Array.getElem?_eq_getElem hlt]
    · have hmm : m.map (·.1) = (List.range w.heap.size).filter fun b => b != b0 && b != b1 := by
        simp [m, List.map_map, Function.comp_def]
      simp only [List.map_cons, hmm, List.nodup_cons, List.mem_cons, List.mem_filter, List.mem_range]
      refine ⟨fun h => ?_, fun h => ?_, List.nodup_range.filter _⟩
      · rcases h with h | h
        · exact hb h
        · simp at h
      · simp at h
  refine (hc W m hO).mono ?_
  rintro e w' ⟨hq, h'⟩
  refine ⟨hq, h'.below.os, h'.below.tape, h'.below.output, ?_, fun b hbl n0 n1 => ?_, h'.get List.mem_cons_self, h'.get (List.mem_cons_of_mem _ List.mem_cons_self)⟩
  · rcases Nat.lt_or_ge w'.heap.size w.heap.size with hlt | hge
    · -- the greatest block is still there
      exfalso
      have hpos : w.heap.size - 1 < w.heap.size := by omega
      have hthere : ∃ o, w'.heap[w.heap.size - 1]? = some o := by
        by_cases e0 : w.heap.size - 1 = b0
        · exact ⟨_, by rw [e0]; exact h'.get List.mem_cons_self⟩
        · by_cases e1 : w.heap.size - 1 = b1
          · exact ⟨_, by rw [e1]; exact h'.get (List.mem_cons_of_mem _ List.mem_cons_self)⟩
          · refine ⟨_, h'.get (b := w.heap.size - 1) (o := w.heap[w.heap.size - 1]?.getD o0) ?_⟩
            refine List.mem_cons_of_mem _ (List.mem_cons_of_mem _ (List.mem_map.2 ⟨w.heap.size - 1, List.mem_filter.2 ⟨List.mem_range.2 hpos, ?_⟩, rfl⟩))
            simp [e0, e1]
      obtain ⟨o, ho⟩ := hthere
      have := heap_lt ho
      omega
    · exact hge
  · have := h'.get (b := b) (o := w.heap[b]?.getD o0) (List.mem_cons_of_mem _ (List.mem_cons_of_mem _ (List.mem_map.2 ⟨b, List.mem_filter.2 ⟨List.mem_range.2 hbl, by simp [n0, n1]⟩, rfl⟩)))
    rw [this, Array.getElem?_eq_getElem hbl]
    rfl
/-- A CALL AMID A MEMORY: its two blocks are the first ones that are owned -/
theorem treeM_own (hm : P.follows .mixedOrders = true) {ov : Ov} (hov : OvOk P [] σ ov) {kn : List Kn} (hkn : KnAll P [] σ ω kn) {n : Nat} {f : FuncId} {xs : List AV} (ha : AV.shuts xs = true) {s0 : Nat} (d : DM) (fs : List (Cnd × Bool)) (hfs : ∀ f ∈ fs, f.1.ev σ = f.2)
    (h : treeM P [] ov kn n f (.ptr 0 0 :: xs) s0 d fs = true) (hbad : ¬ BadM σ d) {W w : World} {m : List (Nat × Obj)} {b0 b1 : Nat} (hO : Own W ((b0, ω (2 * s0) b0 b1) :: (b1, ω (2 * s0 + 1) b0 b1) :: m) w) :
    Calls P f (.pointer (some ⟨b0, 0, none⟩) :: valsOf σ xs).toArray w fun e w' => ∃ x s, e = .returned x ∧ EndsM σ d x s ∧ Own W ((b0, ω (2 * s) b0 b1) :: (b1, ω (2 * s + 1) b0 b1) :: m) w' :=
  (treeM_ends hm hov hkn ha d fs hfs h hbad w tabs_nil b0 b1 (fun he => hO.ne (List.mem_cons_self) he.symm) (hO.get List.mem_cons_self) (hO.skip.get List.mem_cons_self) (fun b l hf => by cases hf)).mono
    fun _ _ ⟨x, s, h1, h2, h3⟩ => ⟨x, s, h1, h2, h3.own hO⟩
/-! known calls -/
theorem KnAll.cons {k : Kn} {kn : List Kn} (h : KnAll P gs σ ω [k]) (hk : KnAll P gs σ ω kn) : KnAll P gs σ ω (k :: kn) := fun fs hfs x hx => by
  rcases List.mem_cons.1 hx with rfl | hx
  · exact h fs hfs x List.mem_cons_self
  · exact hk fs hfs x hx
/-- one that looks at no memory -/
theorem kn_pure {k : Kn} (ha : AV.shuts k.args = true) (hv : k.res.shut = true) (he : k.effs = []) (hf : FnOk P k.f)
    (hc : (∀ c ∈ k.conds, c.1.ev σ = c.2) → ∀ w, Calls P k.f (valsOf σ k.args).toArray w fun e w' => e = .returned (valOf σ k.res) ∧ RowKit.Below w.heap.size w w') : KnAll P gs σ ω [k] := fun fs hfs x hx hcs => by
  rw [List.mem_singleton] at hx
  subst hx
  refine ⟨hf, fun ρ h h' w args' heff hH hargs => ?_⟩
  rw [he] at heff
  simp only [effDo, Option.some.injEq] at heff
  subst heff
  have hargs := @VRs.shut { facts := fs, globs := gs, σ := σ, ω := ω, ok := hfs } ρ _ _ hargs ha
  have hargs : args' = (valsOf σ x.args).toArray := by
    apply Array.ext'
    rw [hargs]
    rfl
  subst hargs
  refine (hc hcs w).mono ?_
  rintro e w' ⟨rfl, hb⟩
  exact ⟨_, rfl, @VR.ofShut { facts := fs, globs := gs, σ := σ, ω := ω, ok := hfs } ρ _ hv, @Stp.left { facts := fs, globs := gs, σ := σ, ω := ω, ok := hfs } ρ w _ _ w' hH hb⟩
/-- one that looks at the memory, or turns it -/
theorem kn_mem {k : Kn} {xs : List AV} {s s' : Nat} (hargs : k.args = .ptr 0 0 :: xs) (ha : AV.shuts xs = true) (hv : k.res.shut = true) (he : k.effs = [(0, 2 * s, 2 * s'), (1, 2 * s + 1, 2 * s' + 1)]) (hf : FnOk P k.f) (hgs : gs = [])
    (hc : (∀ c ∈ k.conds, c.1.ev σ = c.2) → ∀ (W w : World) (m : List (Nat × Obj)) (b0 b1 : Nat), Own W ((b0, ω (2 * s) b0 b1) :: (b1, ω (2 * s + 1) b0 b1) :: m) w →
      Calls P k.f (.pointer (some ⟨b0, 0, none⟩) :: valsOf σ xs).toArray w fun e w' => e = .returned (valOf σ k.res) ∧ Own W ((b0, ω (2 * s') b0 b1) :: (b1, ω (2 * s' + 1) b0 b1) :: m) w') : KnAll P gs σ ω [k] := fun fs hfs x hx hcs => by
  subst hgs
  rw [List.mem_singleton] at hx
  subst hx
  refine ⟨hf, fun ρ h h' w args' heff hH hargs' => ?_⟩
  rw [he] at heff
  rw [hargs] at hargs'
  unfold effDo at heff
  split at heff <;> first | (cases heff; done) | skip
  rename_i q0 hq0
  split at heff <;> first | (cases heff; done) | skip
  rename_i hb0
  have hb0 := Nat.eq_of_beq_eq_true hb0
  subst hb0
  unfold effDo at heff
  split at heff <;> first | (cases heff; done) | skip
  rename_i q1 hq1'
  split at heff <;> first | (cases heff; done) | skip
  rename_i hb1
  have hb1 := Nat.eq_of_beq_eq_true hb1
  subst hb1
  simp only [effDo, Option.some.injEq] at heff
  subst heff
  have hq1 : h.get 1 = some (.opq (2 * s + 1)) := by
    rcases put_spec hq1' with ⟨h1, _⟩ | ⟨_, h1⟩
    · cases h1
    · exact h1
  letI N : Nums := { facts := fs, globs := [], σ := σ, ω := ω, ok := hfs }
  obtain ⟨b0, z0, p0, r0⟩ := hH.obj 0 _ hq0
  obtain ⟨b1, z1, p1, r1⟩ := hH.obj 1 _ hq1
  have hne : b0 ≠ b1 := fun he => by
    have := hH.inj 0 1 b0 z0 z1 (by rw [hq0]; rfl) (by rw [hq1]; rfl) p0 (by rw [he]; exact p1)
    cases this
  obtain ⟨y, ys, hy, hp, hys⟩ := VRs.uncons hargs'
  unfold VR at hp
  obtain ⟨b0', z0', p0', rfl⟩ := hp
  rw [p0] at p0'
  cases p0'
  have hys := @VRs.shut N ρ _ _ hys ha
  obtain ⟨_, _, _, _, k0, k1, r0⟩ := r0
  rw [p0] at k0
  rw [p1] at k1
  cases k0
  cases k1
  obtain ⟨_, _, _, _, k0, k1, r1⟩ := r1
  rw [p0] at k0
  rw [p1] at k1
  cases k0
  cases k1
  have hargs2 : args' = (.pointer (some ⟨b0, 0, none⟩) :: valsOf σ xs).toArray := by
    apply Array.ext'
    rw [hy, hys]
    rfl
  subst hargs2
  refine (two_of (P := P) (Q := fun e => e = .returned (valOf σ x.res)) hne r0 r1 fun W m hO => hc hcs W w m b0 b1 hO).mono ?_
  rintro e w' ⟨rfl, ht⟩
  refine ⟨_, rfl, @VR.ofShut N ρ _ hv, ?_⟩
  -- both blocks change at once
  have hI : ∀ n o', ((h.put 0 (some (.opq (2 * s')))).put 1 (some (.opq (2 * s' + 1)))).get n = some o' → (n = 1 ∧ o' = .opq (2 * s' + 1)) ∨ (n = 0 ∧ o' = .opq (2 * s')) ∨ (n ≠ 0 ∧ n ≠ 1 ∧ h.get n = some o') := by
    intro n o' ho
    rcases put_spec ho with ⟨h1, h2⟩ | ⟨h1, h2⟩
    · exact .inl ⟨h1, by cases h2; rfl⟩
    · rcases put_spec h2 with ⟨h3, h4⟩ | ⟨h3, h4⟩
      · exact .inr (.inl ⟨h3, by cases h4; rfl⟩)
      · exact .inr (.inr ⟨h3, h1, h4⟩)
  have hS : ∀ n, (((h.put 0 (some (.opq (2 * s')))).put 1 (some (.opq (2 * s' + 1)))).get n).isSome = true → (h.get n).isSome = true := by
    intro n hn
    obtain ⟨o', ho'⟩ := Option.isSome_iff_exists.1 hn
    rcases hI n o' ho' with ⟨rfl, _⟩ | ⟨rfl, _⟩ | ⟨_, _, h1⟩
    · rw [hq1]; rfl
    · rw [hq0]; rfl
    · rw [h1]; rfl
  have hblk : ∀ n o' b z, n ≠ 0 → n ≠ 1 → h.get n = some o' → ρ n = some (b, z) → w'.heap[b]? = w.heap[b]? := by
    intro n o' b z n0 n1 ho hp
    obtain ⟨b2, z2, p2, r2⟩ := hH.obj n o' ho
    rw [hp] at p2
    cases p2
    have hlt : b < w.heap.size := by
      rcases Nat.lt_or_ge b w.heap.size with hlt | hge
      · exact hlt
      · rw [Array.getElem?_eq_none hge] at r2
        exact r2.notNone.elim
    refine ht.block b hlt (fun he => n0 ?_) (fun he => n1 ?_)
    · exact hH.inj n 0 b z z0 (by rw [ho]; rfl) (by rw [hq0]; rfl) hp (by rw [he]; exact p0)
    · exact hH.inj n 1 b z z1 (by rw [ho]; rfl) (by rw [hq1]; rfl) hp (by rw [he]; exact p1)
  refine ⟨⟨hH.fresh, fun n o' ho => ?_, fun n q b z z' hn hq => hH.inj n q b z z' (hS n hn) (hS q hq), tabs_nil, (fun b l hf => by cases hf), (fun i k A len c hk => by cases hk), fun b ⟨i, k, a, len, c, hk, _⟩ => by cases hk⟩, fun _ _ => rfl, Nat.le_refl _, ht.os, ht.tape, ht.output, ht.size, fun b hb hl => ?_, fun n b z hn hp => .inr ⟨n, z, hS n hn, hp⟩, fun n _ hn => hS n hn⟩
  · rcases hI n o' ho with ⟨rfl, rfl⟩ | ⟨rfl, rfl⟩ | ⟨n0, n1, h1⟩
    · exact ⟨b1, z1, p1, b0, z0, b1, z1, p0, p1, ht.at1⟩
    · exact ⟨b0, z0, p0, b0, z0, b1, z1, p0, p1, ht.at0⟩
    · obtain ⟨b, z, hp, hr⟩ := hH.obj n o' h1
      refine ⟨b, z, hp, ?_⟩
      rw [hblk n o' b z n0 n1 h1 hp]
      exact hr
  · exact ht.block b hb (fun he => hl 0 z0 (by rw [hq0]; rfl) (by rw [he]; exact p0)) (fun he => hl 1 z1 (by rw [hq1]; rfl) (by rw [he]; exact p1))
end
end Go.Proofs.YthjjpmoifgcepaaGreat.Ex

/-
  The runner: numbers and names in place of others; values of a form; known calls of any effect; known loops. What it computes. No condition.
-/
namespace Go.Proofs.YthjjpmoifgcepaaGreat.Ex
open Go
noncomputable section

/-- expressions for numbers, for lists; names for names; which block of which nothing is known -/
structure Sub where
  v : List (Nat × SE) := []
  l : List (Nat × SE) := []
  n : List (Nat × Nat) := []
  o : List (Nat × Nat) := []
def lookS (i : Nat) : List (Nat × SE) → Option SE
  | [] => none
  | (j, e) :: r => match Nat.beq j i with
    | true => some e
    | false => lookS i r
def lookN (i : Nat) : List (Nat × Nat) → Nat
  | [] => i
  | (j, e) :: r => match Nat.beq j i with
    | true => e
    | false => lookN i r
def Sub.vAt (θ : Sub) (i : Nat) : SE := match lookS i θ.v with
  | some e => e
  | none => .var i
def Sub.lAt (θ : Sub) (i : Nat) : SE := match lookS i θ.l with
  | some e => e
  | none => .lvar i
def Sub.nAt (θ : Sub) (i : Nat) : Nat := lookN i θ.n
def Sub.oAt (θ : Sub) (i : Nat) : Nat := lookN i θ.o
def SE.sub (θ : Sub) : SE → SE
  | .var i => θ.vAt i
  | .lit n => .lit n
  | .bin o a b => .bin o (a.sub θ) (b.sub θ)
  | .ubin o a b => .ubin o (a.sub θ) (b.sub θ)
  | .cv k a => .cv k (a.sub θ)
  | .lvar i => θ.lAt i
  | .lset l e j v => .lset (l.sub θ) (e.sub θ) j (v.sub θ)
  | .lsnoc l r => .lsnoc (l.sub θ) (r.sub θ)
  | .rnil => .rnil
  | .rep n => .rep (n.sub θ)
  | .rcons v r => .rcons (v.sub θ) (r.sub θ)
  | .at l e j => .at (l.sub θ) (e.sub θ) j
  | .len l => .len (l.sub θ)
def Cnd.sub (θ : Sub) : Cnd → Cnd
  | .lt a b => .lt (a.sub θ) (b.sub θ)
  | .eq a b => .eq (a.sub θ) (b.sub θ)
mutual
def AV.sub (θ : Sub) : AV → AV
  | .sym k e => .sym k (e.sub θ)
  | .bsym c p => .bsym (c.sub θ) p
  | .ptr n off => .ptr (θ.nAt n) off
  | .eptr n e s j => .eptr (θ.nAt n) (e.sub θ) s j
  | .dsl n e s => .dsl (θ.nAt n) (e.sub θ) s
  | .rptr i e => .rptr i (e.sub θ)
  | .ssl n e l s => .ssl (θ.nAt n) (e.sub θ) l s
  | .sl n off len sz r => .sl (θ.nAt n) off len sz r
  | .map n => .map (θ.nAt n)
  | .fn f a b => .fn f (AV.subs θ a) (AV.subs θ b)
  | .ifc t v => .ifc t (AV.sub θ v)
  | .agg l => .agg (AV.subs θ l)
  | .tup l => .tup (AV.subs θ l)
  | .bool b => .bool b
  | .int k n => .int k n
  | .str s => .str s
  | .nilp => .nilp
  | .gptr g off => .gptr g off
  | .nilsl => .nilsl
  | .esl n => .esl n
  | .zsl => .zsl
  | .osl e => .osl (e.sub θ)
  | .rsl i => .rsl i
  | .nilmap => .nilmap
  | .nilfn => .nilfn
  | .nilif => .nilif
def AV.subs (θ : Sub) : List AV → List AV
  | [] => []
  | v :: l => AV.sub θ v :: AV.subs θ l
end
/-- a block, as it is to be -/
inductive TB where
  | cells (l : List AV) (e : TypeId)
  | recs (l : SE) (ks : List CK) (e : TypeId)
  | opb (i n m : Nat)
def TB.sub (θ : Sub) : TB → TB
  | .cells l e => .cells (AV.subs θ l) e
  | .recs l ks e => .recs (l.sub θ) ks e
  | .opb i n m => .opb (θ.oAt i) (θ.nAt n) (θ.nAt m)
def TB.ao : TB → AO
  | .cells l e => .cells (mkCells l) l.length e
  | .recs l ks e => .recs l ks e
  | .opb i n m => .opb i n m

/-! numbers below a bound, names below a bound: what a form speaks of -/
structure Bd where
  k : Nat
  kl : Nat
  ko : Nat
  kn : Nat
mutual
/-- a number -/
def SE.bd (B : Bd) : SE → Bool
  | .var i => Nat.blt i B.k
  | .lit _ => true
  | .bin _ a b => SE.bd B a && SE.bd B b
  | .ubin _ a b => SE.bd B a && SE.bd B b
  | .cv _ a => SE.bd B a
  | .at l e j => SE.bdL B l && (SE.bd B e && Nat.blt j 64)
  | .len l => SE.bdL B l
  | .lvar _ => false
  | .lset _ _ _ _ => false
  | .lsnoc _ _ => false
  | .rnil => false
  | .rep _ => false
  | .rcons _ _ => false
/-- a list -/
def SE.bdL (B : Bd) : SE → Bool
  | .lvar i => Nat.blt i B.kl
  | .lset l e j v => (SE.bdL B l && SE.bd B e) && (Nat.blt j 64 && SE.bd B v)
  | .lsnoc l r => SE.bdL B l && SE.bdR B r
  | .rnil => true
  | .rep n => SE.bd B n
  | .rcons _ _ => false
  | .var _ => false
  | .lit _ => false
  | .bin _ _ _ => false
  | .ubin _ _ _ => false
  | .cv _ _ => false
  | .at _ _ _ => false
  | .len _ => false
/-- a record -/
def SE.bdR (B : Bd) : SE → Bool
  | .rnil => true
  | .rep _ => false
  | .rcons v r => SE.bd B v && SE.bdR B r
  | .lvar _ => false
  | .lset _ _ _ _ => false
  | .lsnoc _ _ => false
  | .var _ => false
  | .lit _ => false
  | .bin _ _ _ => false
  | .ubin _ _ _ => false
  | .cv _ _ => false
  | .at _ _ _ => false
  | .len _ => false
end
def Cnd.bd (B : Bd) : Cnd → Bool
  | .lt a b => SE.bd B a && SE.bd B b
  | .eq a b => SE.bd B a && SE.bd B b
mutual
def AV.bd (B : Bd) : AV → Bool
  | .sym _ e => SE.bd B e
  | .bsym c _ => Cnd.bd B c
  | .ptr n _ => Nat.blt n B.kn
  | .eptr n e _ _ => Nat.blt n B.kn && SE.bd B e
  | .dsl n e _ => Nat.blt n B.kn && SE.bd B e
  | .ssl n e _ _ => Nat.blt n B.kn && SE.bd B e
  | .rptr _ e => SE.bd B e
  | .sl n _ _ _ _ => Nat.blt n B.kn
  | .map n => Nat.blt n B.kn
  | .fn _ a b => AV.bds B a && AV.bds B b
  | .ifc _ v => AV.bd B v
  | .agg l => AV.bds B l
  | .tup l => AV.bds B l
  | .bool _ => true
  | .int _ _ => true
  | .str _ => true
  | .nilp => true
  | .gptr _ _ => true
  | .nilsl => true
  | .esl _ => true
  | .zsl => true
  | .osl e => SE.bd B e
  | .rsl _ => true
  | .nilmap => true
  | .nilfn => true
  | .nilif => true
def AV.bds (B : Bd) : List AV → Bool
  | [] => true
  | v :: l => AV.bd B v && AV.bds B l
end
def ltAll (n : Nat) : List CK → Bool
  | l => Nat.ble l.length n
def TB.bd (B : Bd) : TB → Bool
  | .cells l _ => AV.bds B l && allOne l
  | .recs l ks _ => SE.bdL B l && ltAll 64 ks
  | .opb i n m => Nat.blt i B.ko && (Nat.blt n B.kn && Nat.blt m B.kn)

/-! a value is of a form -/
section
variable [Fc]
def eqB (a b : SE) : Bool := match askEq a b with
  | some true => true
  | _ => false
mutual
def AV.fits : AV → AV → Bool
  | .agg a, .agg b => AV.fitsL a b
  | .tup a, .tup b => AV.fitsL a b
  | .int k n, .sym k' e => decide (k = k') && eqB (.lit n) e
  | .sym k e, .sym k' e' => decide (k = k') && eqB e e'
  | .sym k e, .int k' n => decide (k = k') && eqB e (.lit n)
  | .bool b, .bsym c p => match askC c with
    | some q => b == (q == p)
    | none => false
  | .bsym c p, .bool b => match askC c with
    | some q => b == (q == p)
    | none => false
  | .bsym c p, .bsym c' p' => (Cnd.beq c c' && p == p') || (match askC c with
    | some q => (match askC c' with
      | some q' => (q == p) == (q' == p')
      | none => false)
    | none => false)
  | .dsl n e s, .dsl n' e' s' => Nat.beq n n' && (Nat.beq s s' && eqB e e')
  | .sl n off len s r, .dsl n' e' s' => (Nat.beq n n' && Nat.beq s s') && ((Nat.beq off 0 && (match r with | .whole => true | _ => false)) && eqB (.lit (Int.ofNat len)) e')
  | .nilsl, .zsl => true
  | .esl _, .zsl => false
  | .osl e, .osl e' => eqB e e'
  | a, b => AV.beq a b
def AV.fitsL : List AV → List AV → Bool
  | [], [] => true
  | a :: l, b :: m => AV.fits a b && AV.fitsL l m
  | _, _ => false
end
/-- cells are the fields of a record -/
def recFits (cs : T AV) : Nat → List CK → SE → Bool
  | _, [], .rnil => true
  | off, k :: ks, .rcons v r => match cs.get off with
    | some a => match toCK k a with
      | some x => eqB x v && recFits cs (Nat.add off 1) ks r
      | none => false
    | none => false
  | _, _, _ => false
/-- .. of the records of a list that is told record by record -/
def chainFits (cs : T AV) (ks : List CK) : SE → Option Nat
  | .rnil => some 0
  | .lsnoc l r => match chainFits cs ks l with
    | some n => match recFits cs (Nat.mul n ks.length) ks r with
      | true => some (Nat.add n 1)
      | false => none
    | none => none
  | _ => none
def CK.beqs : List CK → List CK → Bool
  | [], [] => true
  | a :: l, b :: m => CK.beq a b && CK.beqs l m
  | _, _ => false
def TB.fits (o : AO) (t : TB) : Bool := match o, t with
  | .cells cs k e, .cells l e' => Nat.beq e e' && (Nat.ble l.length k && (match getN cs 0 l.length with
    | some l' => AV.fitsL l' l
    | none => false))
  | .cells cs k e, .recs l ks e' => Nat.beq e e' && (match chainFits cs ks l with
    | some n => Nat.ble (Nat.mul n ks.length) k
    | none => false)
  | .recs l ks e, .recs l' ks' e' => Nat.beq e e' && (SE.beq l l' && CK.beqs ks ks')
  | .opb i n m, .opb i' n' m' => Nat.beq i i' && (Nat.beq n n' && Nat.beq m m')
  | _, _ => false
end

/-! a state of a function, as it is to be -/
structure Tm where
  env : List (Nat × AV)
  heap : List (Nat × TB)
  b : Bd
def envT : List (Nat × AV) → T AV
  | [] => .e
  | (t, v) :: l => (envT l).put t (some v)
def heapT : List (Nat × TB) → T AO
  | [] => .e
  | (n, o) :: l => (heapT l).put n (some o.ao)
def Tm.h (t : Tm) : AH := .mk (heapT t.heap) t.b.kn
def bdE (B : Bd) : List (Nat × AV) → Bool
  | [] => true
  | (_, v) :: l => AV.bd B v && bdE B l
def bdH (B : Bd) : List (Nat × TB) → Bool
  | [] => true
  | (n, o) :: l => (Nat.blt n B.kn && TB.bd B o) && bdH B l
def Tm.ok (t : Tm) : Bool := bdE t.b t.env && (bdH t.b t.heap && Nat.ble t.b.kn 1000000)
section
variable [Fc]
def fitE (θ : Sub) (env : T AV) : List (Nat × AV) → Bool
  | [] => true
  | (t, v) :: l => match env.get t with
    | some u => AV.fits u (v.sub θ) && fitE θ env l
    | none => false
def notIn (θ : Sub) (n : Nat) : List (Nat × TB) → Bool
  | [] => true
  | (m, _) :: l => match Nat.beq (θ.nAt m) n with
    | true => false
    | false => notIn θ n l
def fitH (θ : Sub) (h : AH) : List (Nat × TB) → Bool
  | [] => true
  | (n, o) :: l => match h.get (θ.nAt n) with
    | some a => TB.fits a (o.sub θ) && (notIn θ (θ.nAt n) l && fitH θ h l)
    | none => false
/-- a state is of a form -/
def Tm.fits (t : Tm) (θ : Sub) (env : T AV) (h : AH) : Bool := t.ok && (fitE θ env t.env && fitH θ h t.heap)
end

/-! known calls -/
/-- function; arguments; what must be known of numbers; blocks that it looks at; what they are then (others are no more known); new blocks; the result. New blocks' names: rel, rel + 1, .. -/
structure Kc where
  f : Nat
  args : List AV
  conds : List (Cnd × Bool) := []
  pre : List (Nat × TB) := []
  post : List (Nat × TB) := []
  news : List TB := []
  res : AV
def rel : Nat := 600000
def relSub (nx : Nat) : Nat → List TB → List (Nat × Nat)
  | _, [] => []
  | i, _ :: l => (Nat.add rel i, Nat.add nx i) :: relSub nx (Nat.add i 1) l
def putAll (θ : Sub) : List (Nat × TB) → AH → AH
  | [], h => h
  | (n, o) :: l, h => (putAll θ l h).put n (some (o.sub θ).ao)
def dropAll : List (Nat × TB) → AH → AH
  | [], h => h
  | (n, _) :: l, h => (dropAll l h).put n none
def newAll (θ : Sub) : List TB → AH → AH
  | [], h => h
  | o :: l, h => newAll θ l ((h.put h.next (some (o.sub θ).ao)).skip 1)
section
variable [Fc]
def Kc.at (k : Kc) (h : AH) : Option (AV × AH) :=
  match fitH {} h k.pre with
  | false => none
  | true => match Nat.blt (Nat.add h.next k.news.length) 600000 with
    | false => none
    | true =>
      let θ : Sub := { n := relSub h.next 0 k.news }
      some (k.res.sub θ, newAll θ k.news (putAll θ k.post (dropAll k.pre h)))
def kcAt (f : FuncId) (args : List AV) (h : AH) : List Kc → Option (AV × AH)
  | [] => none
  | k :: l => match Nat.beq k.f f with
    | false => kcAt f args h l
    | true => match AV.fitsL args k.args with
      | false => kcAt f args h l
      | true => match condsOk k.conds with
        | false => kcAt f args h l
        | true => match k.at h with
          | some r => some r
          | none => kcAt f args h l
/-- known calls, by their arguments (callK: and by memory) -/
abbrev Kg := List AV → List Kc
def callK (P : Program) (kx : AH → Kg) : Nat → FuncId → List AV → AH → Option (AV × AH)
  | 0, _, _, _ => none
  | n + 1, f, args, h => match kcAt f args h (kx h args) with
    | some r => some r
    | none => match P.funcs[f]? with
    | none => none
    | some fn => match fn.name == "runtime.NumGoroutine" with
      | true => none
      | false => match fn.body with
        | none => none
        | some c => match Nat.ble args.length fn.ntmps && Nat.ble fn.ntmps 1000000 with
          | false => none
          | true => match exec P (callK P kx n) fn.ntmps c (envOf 0 args .e) h with
            | some (.exit _, _, _) => none
            | some (_, env', h') => match ress P h' env' fn.results.toList with
              | some vs => some (resOf vs, h')
              | none => none
            | none => none

/-! names that a form speaks of -/
mutual
def AV.nm (p : Nat → Bool) : AV → Bool
  | .ptr n _ => p n
  | .eptr n _ _ _ => p n
  | .dsl n _ _ => p n
  | .ssl n _ _ _ => p n
  | .sl n _ _ _ _ => p n
  | .map n => p n
  | .fn _ a b => AV.nms p a && AV.nms p b
  | .ifc _ v => AV.nm p v
  | .agg l => AV.nms p l
  | .tup l => AV.nms p l
  | .sym _ _ => true
  | .bsym _ _ => true
  | .rptr _ _ => true
  | .bool _ => true
  | .int _ _ => true
  | .str _ => true
  | .nilp => true
  | .gptr _ _ => true
  | .nilsl => true
  | .esl _ => true
  | .zsl => true
  | .osl _ => true
  | .rsl _ => true
  | .nilmap => true
  | .nilfn => true
  | .nilif => true
def AV.nms (p : Nat → Bool) : List AV → Bool
  | [] => true
  | v :: l => AV.nm p v && AV.nms p l
end
def TB.nm (p : Nat → Bool) : TB → Bool
  | .cells l _ => AV.nms p l
  | .recs _ _ _ => true
  | .opb _ n m => p n && p m
def nmE (p : Nat → Bool) : List (Nat × AV) → Bool
  | [] => true
  | (_, v) :: l => AV.nm p v && nmE p l
def nmH (p : Nat → Bool) : List (Nat × TB) → Bool
  | [] => true
  | (_, o) :: l => TB.nm p o && nmH p l
def hasN (n : Nat) : List (Nat × TB) → Bool
  | [] => false
  | (m, _) :: l => match Nat.beq m n with
    | true => true
    | false => hasN n l
/-- a block of the form, or a new one -/
def okN (l : List (Nat × TB)) (nx n : Nat) : Bool := match Nat.ble nx n with
  | true => true
  | false => hasN n l
/-! known loops -/
/-- which loop it is: the number of its first region -/
def loopId : Code → Option Nat
  | .region id _ _ => some id
  | .seq a b => match loopId a with
    | some n => some n
    | none => loopId b
  | .cond _ a b => match loopId a with
    | some n => some n
    | none => loopId b
  | .block _ c => loopId c
  | .loop c => loopId c
  | .scope c => loopId c
  | _ => none
/-- which one; names below which they stay; how it begins; how it ends -/
structure Ln where
  key : Nat
  nx : Nat
  t : Tm
  th : Sub := {}
  x : AX
  post : Tm
def postNames (nx : Nat) (h : AH) : List (Nat × TB) → Bool
  | [] => true
  | (n, _) :: l => (match Nat.blt n nx with
    | true => (h.get n).isSome
    | false => Nat.ble h.next n) && postNames nx h l
def Ln.at (l : Ln) (env : T AV) (h : AH) : Option (AX × T AV × AH) :=
  match l.t.fits l.th env h with
  | false => none
  | true => match (l.post.ok && Nat.ble l.nx h.next) && ((Nat.ble h.next l.post.b.kn && postNames l.nx h l.post.heap) && (nmE (okN l.post.heap h.next) l.post.env && nmH (okN l.post.heap h.next) l.post.heap)) with
    | false => none
    | true => some (l.x, envT l.post.env, l.post.h)
def lnAt (i : Nat) (env : T AV) (h : AH) : List Ln → Option (AX × T AV × AH)
  | [] => none
  | l :: r => match Nat.beq l.key i with
    | true => match l.at env h with
      | some x => some x
      | none => lnAt i env h r
    | false => lnAt i env h r
def lnHas (i : Nat) : List Ln → Bool
  | [] => false
  | l :: r => match Nat.beq l.key i with
    | true => true
    | false => lnHas i r
/-- a loop that is known, else round by round -/
def lnDo (c : Code) (env : T AV) (h : AH) (lns : List Ln) (body : T AV → AH → Option (AX × T AV × AH)) : Option (AX × T AV × AH) := match loopId c with
  | some i => match lnAt i env h lns with
    | some r => some r
    | none => match lnHas i lns with
      | true => iter body 3 env h
      | false => iter body 100000 env h
  | none => iter body 100000 env h
variable (P : Program) (call : FuncId → List AV → AH → Option (AV × AH)) (nt : Nat) (lns : List Ln)
def execL : Code → T AV → AH → Option (AX × T AV × AH)
  | .skip, env, h => some (.normal, env, h)
  | .label _, env, h => some (.normal, env, h)
  | .region _ ops false, env, h => match regL P call nt ops ops.toList env h with
    | some (env', h') => some (.normal, env', h')
    | none => none
  | .region _ ops true, env, h => match regDr P call nt ops env h with
    | some (env', h') => some (.normal, env', h')
    | none => none
  | .seq x y, env, h => match execL x env h with
    | some (.normal, env', h') => execL y env' h'
    | r => r
  | .cond c x y, env, h => match ev env c with
    | some (.bool true) => execL x env h
    | some (.bool false) => execL y env h
    | some (.bsym q p) => match askC q with
      | some r => match r == p with
        | true => execL x env h
        | false => execL y env h
      | none => none
    | _ => none
  | .block id c, env, h => match execL c env h with
    | some (.exit j, env', h') => match Nat.beq j id with
      | true => some (.normal, env', h')
      | false => some (.exit j, env', h')
    | r => r
  | .loop c, env, h => lnDo c env h lns (execL c)
  | .scope c, env, h => execL c env h
  | .exit id, env, h => some (.exit id, env, h)
  | .ret, env, h => some (.ret, env, h)
  | _, _, _ => none
end
/-! questions -/
/-- what a way through the text comes to: the result and how memory is, or a round's end, or a way out of the loop -/
inductive LO where
  | cont (θ : Sub)
  | out (θ : Sub)
inductive LT where
  | leaf (o : LO)
  | bad
  | node (c : Cnd) (t e : LT)
/-- all loops of a text -/
def loopsOf : Code → List Code
  | .seq a b => loopsOf a ++ loopsOf b
  | .cond _ a b => loopsOf a ++ loopsOf b
  | .block _ c => loopsOf c
  | .loop c => c :: loopsOf c
  | .scope c => loopsOf c
  | _ => []
def pickL (i : Nat) : List Code → Option Code
  | [] => none
  | c :: l => match loopId c with
    | some j => match Nat.beq j i with
      | true => some c
      | false => pickL i l
    | none => pickL i l
/-- a function's loop of that number -/
def bodyOf (P : Program) (f : FuncId) : Code := match P.funcs[f]? with
  | some fn => match fn.body with
    | some c => c
    | none => .skip
  | none => .skip
def ntOf (P : Program) (f : FuncId) : Nat := match P.funcs[f]? with
  | some fn => fn.ntmps
  | none => 0
def loopOf (P : Program) (f : FuncId) (i : Nat) : Code := match pickL i (loopsOf (bodyOf P f)) with
  | some c => c
  | none => .skip
/-- one loop alone bears the number -/
def countL (i : Nat) : List Code → Nat
  | [] => 0
  | c :: l => match loopId c with
    | some j => match Nat.beq j i with
      | true => Nat.add (countL i l) 1
      | false => countL i l
    | none => countL i l
def axEq : AX → AX → Bool
  | .normal, .normal => true
  | .exit i, .exit j => Nat.beq i j
  | .ret, .ret => true
  | _, _ => false
/-- names that stay what they are -/
def keeps (nx : Nat) (θ : Sub) : List (Nat × TB) → Bool
  | [] => true
  | (n, _) :: l => (match Nat.blt n nx with
    | true => Nat.beq (θ.nAt n) n
    | false => true) && keeps nx θ l
/-- a round of a loop, question by question. Names below 'nx' stay. -/
def treeL (P : Program) (gs : List (Nat × List Int)) (rks : List (Nat × CK)) (kcs : Kg) (lns : List Ln) (n nt nx : Nat) (c : Code) (t : Tm) (x : AX) (post : Tm) : LT → List (Cnd × Bool) → Bool
  | .leaf (.cont θ), fs => @Option.rec _ (fun _ => Bool) false (fun r => match r with
      | (x', env, h) => axEq x' .normal && (@Tm.fits ⟨fs, gs, rks⟩ t θ env h && keeps nx θ t.heap)) (@execL ⟨fs, gs, rks⟩ P (@callK ⟨fs, gs, rks⟩ P (fun _ => kcs) n) nt lns c (envT t.env) t.h)
  | .leaf (.out θ), fs => @Option.rec _ (fun _ => Bool) false (fun r => match r with
      | (x', env, h) => axEq x' x && (@Tm.fits ⟨fs, gs, rks⟩ post θ env h && keeps nx θ post.heap)) (@execL ⟨fs, gs, rks⟩ P (@callK ⟨fs, gs, rks⟩ P (fun _ => kcs) n) nt lns c (envT t.env) t.h)
  | .bad, _ => true
  | .node q a b, fs => match treeL P gs rks kcs lns n nt nx c t x post a ((q, true) :: fs) with
    | true => treeL P gs rks kcs lns n nt nx c t x post b ((q, false) :: fs)
    | false => false
/-- a call of a function, question by question: what it gives, and blocks behind it -/
inductive CT where
  | is (v : AV) (post : List (Nat × TB))
  | bad
  | node (c : Cnd) (t e : CT)
def treeC (P : Program) (gs : List (Nat × List Int)) (rks : List (Nat × CK)) (kcs : Kg) (lns : List Ln) (n : Nat) (f : FuncId) (args : List AV) (t : Tm) : CT → List (Cnd × Bool) → Bool
  | .is v post, fs => match P.funcs[f]? with
    | none => false
    | some fn => match fn.name == "runtime.NumGoroutine" with
      | true => false
      | false => match fn.body with
        | none => false
        | some c => match Nat.ble args.length fn.ntmps && Nat.ble fn.ntmps 1000000 with
          | false => false
          | true => match @execL ⟨fs, gs, rks⟩ P (@callK ⟨fs, gs, rks⟩ P (fun _ => kcs) n) fn.ntmps lns c (envOf 0 args .e) t.h with
            | some (.exit _, _, _) => false
            | some (_, env', h') => match @ress ⟨fs, gs, rks⟩ P h' env' fn.results.toList with
              | some vs => @AV.fits ⟨fs, gs, rks⟩ (resOf vs) v && @fitH ⟨fs, gs, rks⟩ {} h' post
              | none => false
            | none => false
  | .bad, _ => true
  | .node q a b, fs => match treeC P gs rks kcs lns n f args t a ((q, true) :: fs) with
    | true => treeC P gs rks kcs lns n f args t b ((q, false) :: fs)
    | false => false
/-- .. with known calls by memory -/
def treeK (P : Program) (gs : List (Nat × List Int)) (rks : List (Nat × CK)) (kx : AH → Kg) (lns : List Ln) (n : Nat) (f : FuncId) (args : List AV) (t : Tm) : CT → List (Cnd × Bool) → Bool
  | .is v post, fs => match P.funcs[f]? with
    | none => false
    | some fn => match fn.name == "runtime.NumGoroutine" with
      | true => false
      | false => match fn.body with
        | none => false
        | some c => match Nat.ble args.length fn.ntmps && Nat.ble fn.ntmps 1000000 with
          | false => false
          | true => match @execL ⟨fs, gs, rks⟩ P (@callK ⟨fs, gs, rks⟩ P kx n) fn.ntmps lns c (envOf 0 args .e) t.h with
            | some (.exit _, _, _) => false
            | some (_, env', h') => match @ress ⟨fs, gs, rks⟩ P h' env' fn.results.toList with
              | some vs => @AV.fits ⟨fs, gs, rks⟩ (resOf vs) v && @fitH ⟨fs, gs, rks⟩ {} h' post
              | none => false
            | none => false
  | .bad, _ => true
  | .node q a b, fs => match treeK P gs rks kx lns n f args t a ((q, true) :: fs) with
    | true => treeK P gs rks kx lns n f args t b ((q, false) :: fs)
    | false => false
end
end Go.Proofs.YthjjpmoifgcepaaGreat.Ex
