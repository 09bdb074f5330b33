/-
  The runner: code and calls: what it finds is what the model does, whatever the tape holds. No condition.
-/
import Derived.Test.YtigakendeghoaaaExP
import Derived.Below
namespace Go.Proofs.Ytigakendeghoaaa.Ex
open Go
noncomputable section
variable [Nums]
section
variable {P : Program} {call : FuncId → List AV → AH → Option (AV × AH)} {nt : Nat} {ρ : Ren} {w : World}
theorem ER.put {ρ' : Ren} {env env' : T AV} {a : Act} {dst : Option Tmp} {v : AV} {x : Value} (hE : ER ρ env nt a) (hm : ∀ n p, ρ n = some p → ρ' n = some p) (hp : putA nt env dst v = some env') (hx : VR ρ' v x) : ER ρ' env' nt (a.put dst x) := by
  obtain ⟨hd, hv⟩ := putA_spec hp
  refine ⟨by rw [put_defers]; exact hE.dz, by rw [put_size]; exact hE.size, fun t u hu => ?_⟩
  rcases hv t u hu with ⟨rfl, rfl⟩ | ⟨h1, h2⟩
  · refine ⟨x, ?_, hx⟩
    have := hd t rfl
    simp [Act.put, hE.size, this]
  · obtain ⟨y, hy, hr⟩ := hE.val t u h2
    refine ⟨y, ?_, hr.mono hm⟩
    cases dst with
    | none => exact hy
    | some d =>
      have : d ≠ t := fun he => h1 (by rw [he])
      simp [Act.put, Array.getElem?_setIfInBounds, this, hy]
theorem ER.mono {ρ' : Ren} {env : T AV} {a : Act} (hE : ER ρ env nt a) (hm : ∀ n p, ρ n = some p → ρ' n = some p) : ER ρ' env nt a :=
  ⟨hE.dz, hE.size, fun t v hv => by
    obtain ⟨x, hx, hr⟩ := hE.val t v hv
    exact ⟨x, hx, hr.mono hm⟩⟩
theorem undR : VR ρ und undef := by unfold und VR; exact ⟨#[], rfl, VRs.nil⟩
/-- A REGION IN THE ORDER OF THE TEXT -/
theorem regL_wp (hc : CallS P call) {ops : Array Oper} {Q : Exit → Act → World → Prop} : ∀ (l : List Oper) (env : T AV) (h : AH) (env' : T AV) (h' : AH) (ρ : Ren) (w : World) (a : Act), regL P call nt ops l env h = some (env', h') →
    ER ρ env nt a → HR ρ h.get h.next w → (∀ ρ' w' a', Stp ρ h.get h.next w ρ' h'.get h'.next w' → ER ρ' env' nt a' → Q .normal a' w') → wpList P ops Q l a w
  | [], env, h, env', h', ρ, w, a, hr, hE, hH, hQ => by
    simp only [regL, Option.some.injEq, Prod.mk.injEq] at hr
    obtain ⟨rfl, rfl⟩ := hr
    exact hQ ρ w a (Stp.refl hH) hE
  | o :: l, env, h, env', h', ρ, w, a, hr, hE, hH, hQ => by
    unfold regL at hr
    split at hr <;> first | (cases hr; done) | skip
    · rename_i hg
      have hw := guard_rel (ρ := ρ) (a := a) (fun t v _ hv => hE.val t v hv) hg
      split at hr <;> first | (cases hr; done) | skip
      rename_i env1 hp
      unfold wpList
      rw [hw]
      simp only [Bool.false_eq_true, if_false]
      exact regL_wp hc l env1 h env' h' ρ w _ hr (ER.put hE (fun _ _ h => h) hp undR) hH hQ
    · rename_i hg
      have hw := guard_rel (ρ := ρ) (a := a) (fun t v _ hv => hE.val t v hv) hg
      split at hr <;> first | (cases hr; done) | skip
      rename_i vs hvs
      split at hr <;> first | (cases hr; done) | skip
      rename_i v h1 hop
      split at hr <;> first | (cases hr; done) | skip
      rename_i env1 hp
      unfold wpList
      rw [hw]
      simp only [if_true]
      left
      refine op_wp hc hop hH (evs_rel (fun t v _ hv => hE.val t v hv) hvs) fun ρ' x w' hst hx => ?_
      exact regL_wp hc l env1 h1 env' h' ρ' w' _ hr (ER.put hE (Stp.mono hH hst) hp hx) hst.hr fun ρ2 w2 a2 h2 h3 => hQ ρ2 w2 a2 (hst.trans h2) h3
def exitOf : AX → Exit
  | .normal => .normal
  | .exit id => .exit id
  | .ret => .ret
def PostX (nt : Nat) (ρ : Ren) (h : AH) (w : World) (x : AX) (env' : T AV) (h' : AH) (e : Exit) (a' : Act) (w' : World) : Prop :=
  e = exitOf x ∧ ∃ ρ', Stp ρ h.get h.next w ρ' h'.get h'.next w' ∧ ER ρ' env' nt a'
omit [Nums] in
theorem rounds_mono {c : Code} {Q Q' : Exit → Act → World → Prop} (hq : ∀ e a w, Q e a w → Q' e a w) : ∀ (n : Nat) (a : Act) (w : World), Code.rounds P c Q n a w → Code.rounds P c Q' n a w
  | 0, _, _, h => h
  | n + 1, a, w, h => by
    rw [rounds_succ] at h ⊢
    refine wp_mono h fun e a1 w1 h1 => ?_
    cases e with
    | normal => exact rounds_mono hq n a1 w1 h1
    | _ => exact hq _ _ _ h1
theorem iter_wp {c : Code} {body : T AV → AH → Option (AX × T AV × AH)} (hb : ∀ env h x env' h', body env h = some (x, env', h') → ∀ (ρ : Ren) w a, ER ρ env nt a → HR ρ h.get h.next w → c.wp P (PostX nt ρ h w x env' h') a w) :
    ∀ (n : Nat) env h x env' h', iter body n env h = some (x, env', h') → ∀ (ρ : Ren) w a, ER ρ env nt a → HR ρ h.get h.next w → Code.rounds P c (PostX nt ρ h w x env' h') n a w
  | 0, _, _, _, _, _, h, _, _, _, _, _ => by simp [iter] at h
  | n + 1, env, h, x, env', h', hi, ρ, w, a, hE, hH => by
    rw [rounds_succ]
    unfold iter at hi
    split at hi
    · rename_i env1 h1 hbody
      refine wp_mono (hb _ _ _ _ _ hbody ρ w a hE hH) ?_
      rintro e a1 w1 ⟨rfl, ρ1, hst, hE1⟩
      refine rounds_mono (fun e a' w' hq => ?_) _ _ _ (iter_wp hb n _ _ _ _ _ hi ρ1 w1 a1 hE1 hst.hr)
      obtain ⟨h1, ρ2, h2, h3⟩ := hq
      exact ⟨h1, ρ2, hst.trans h2, h3⟩
    · rename_i hno
      refine wp_mono (hb _ _ _ _ _ hi ρ w a hE hH) ?_
      rintro e a1 w1 ⟨rfl, hq⟩
      cases x with
      | normal => exact absurd hi (hno _ _)
      | exit id => exact ⟨rfl, hq⟩
      | ret => exact ⟨rfl, hq⟩
omit [Nums] in
theorem then_of {x : AX} {K : Act → World → Prop} {Q : Exit → Act → World → Prop} {a : Act} {w : World} (hn : x = .normal → K a w) (ho : x ≠ .normal → Q (exitOf x) a w) : Exit.then K Q (exitOf x) a w := by
  cases x with
  | normal => exact hn rfl
  | exit id => exact ho (by intro h; cases h)
  | ret => exact ho (by intro h; cases h)
theorem exec_wp (hm : P.follows .mixedOrders = true) (hc : CallS P call) : ∀ (c : Code) env h x env' h', exec P call nt c env h = some (x, env', h') → ∀ (ρ : Ren) w a, ER ρ env nt a → HR ρ h.get h.next w → c.wp P (PostX nt ρ h w x env' h') a w
  | .skip, env, h, x, env', h', he, ρ, w, a, hE, hH => by
    simp only [exec, Option.some.injEq, Prod.mk.injEq] at he
    obtain ⟨rfl, rfl, rfl⟩ := he
    exact wp_skip ⟨rfl, ρ, Stp.refl hH, hE⟩
  | .label l, env, h, x, env', h', he, ρ, w, a, hE, hH => by
    simp only [exec, Option.some.injEq, Prod.mk.injEq] at he
    obtain ⟨rfl, rfl, rfl⟩ := he
    exact wp_label ⟨rfl, ρ, Stp.refl hH, hE⟩
  | .region id ops false, env, h, x, env', h', he, ρ, w, a, hE, hH => by
    unfold exec at he
    split at he <;> first | (cases he; done) | skip
    rename_i env1 h1 hr
    simp only [Option.some.injEq, Prod.mk.injEq] at he
    obtain ⟨rfl, rfl, rfl⟩ := he
    exact wp_region_list (regL_wp hc _ _ _ _ _ ρ w a hr hE hH fun ρ' w' a' hst hE' => ⟨rfl, ρ', hst, hE'⟩)
  | .region id ops true, env, h, x, env', h', he, ρ, w, a, hE, hH => by
    unfold exec at he
    split at he <;> first | (cases he; done) | skip
    rename_i env1 h1 hr
    simp only [Option.some.injEq, Prod.mk.injEq] at he
    obtain ⟨rfl, rfl, rfl⟩ := he
    exact wp_region_any hm (regDr_wp hc hr hE (hH.drew _) fun ρ' w' a' hst hE' => ⟨rfl, ρ', hst.drew, hE'⟩)
  | .seq c d, env, h, x, env', h', he, ρ, w, a, hE, hH => by
    unfold exec at he
    split at he
    · rename_i env1 h1 hx
      refine wp_seq (wp_mono (exec_wp hm hc c _ _ _ _ _ hx ρ w a hE hH) ?_)
      rintro e a1 w1 ⟨rfl, ρ1, hst, hE1⟩
      refine wp_mono (exec_wp hm hc d _ _ _ _ _ he ρ1 w1 a1 hE1 hst.hr) ?_
      rintro e a2 w2 ⟨rfl, ρ2, hst2, hE2⟩
      exact ⟨rfl, ρ2, hst.trans hst2, hE2⟩
    · rename_i hno
      refine wp_seq (wp_mono (exec_wp hm hc c _ _ _ _ _ he ρ w a hE hH) ?_)
      rintro e a1 w1 ⟨rfl, hq⟩
      exact then_of (fun hx => by subst hx; exact absurd he (hno _ _)) (fun _ => ⟨rfl, hq⟩)
  | .cond c d e, env, h, x, env', h', he, ρ, w, a, hE, hH => by
    unfold exec at he
    have hev : ∀ b, ev env c = some (.bool b) → a.eval c = .bool b := by
      intro b hb
      have := evs_rel (ρ := ρ) (a := a) (l := [c]) (vs := [.bool b]) (fun t v _ hv => hE.val t v hv) (by simp [evs, hb])
      obtain ⟨y, hy, hr⟩ := this.one
      simp at hy
      unfold VR at hr
      rw [hy, hr]
    split at he
    · rename_i hb
      exact wp_cond_true (hev _ hb) (exec_wp hm hc d _ _ _ _ _ he ρ w a hE hH)
    · rename_i hb
      exact wp_cond_false (hev _ hb) (exec_wp hm hc e _ _ _ _ _ he ρ w a hE hH)
    · cases he
  | .block id c, env, h, x, env', h', he, ρ, w, a, hE, hH => by
    unfold exec at he
    split at he
    · rename_i j env1 h1 hx
      refine wp_block (wp_mono (exec_wp hm hc c _ _ _ _ _ hx ρ w a hE hH) ?_)
      rintro e a1 w1 ⟨rfl, ρ1, hst, hE1⟩
      split at he
      · rename_i hj
        have hj := Nat.eq_of_beq_eq_true hj
        simp only [Option.some.injEq, Prod.mk.injEq] at he
        obtain ⟨rfl, rfl, rfl⟩ := he
        show (if j = id then _ else _)
        rw [if_pos hj]
        exact ⟨rfl, ρ1, hst, hE1⟩
      · rename_i hj
        simp only [Option.some.injEq, Prod.mk.injEq] at he
        obtain ⟨rfl, rfl, rfl⟩ := he
        show (if j = id then _ else _)
        rw [if_neg (fun hji => by subst hji; simp at hj)]
        exact ⟨rfl, ρ1, hst, hE1⟩
    · rename_i hno
      refine wp_block (wp_mono (exec_wp hm hc c _ _ _ _ _ he ρ w a hE hH) ?_)
      rintro e a1 w1 ⟨rfl, hq⟩
      cases x with
      | normal => exact ⟨rfl, hq⟩
      | exit j => exact absurd he (hno _ _ _)
      | ret => exact ⟨rfl, hq⟩
  | .loop c, env, h, x, env', h', he, ρ, w, a, hE, hH => by
    unfold exec at he
    exact wp_loop_rounds 100000 (iter_wp (exec_wp hm hc c) 100000 _ _ _ _ _ he ρ w a hE hH)
  | .scope c, env, h, x, env', h', he, ρ, w, a, hE, hH => by
    unfold exec at he
    refine wp_scope_straight (wp_mono (exec_wp hm hc c _ _ _ _ _ he ρ w a hE hH) ?_)
    rintro e a1 w1 ⟨rfl, hq⟩
    cases x <;> exact ⟨rfl, hq⟩
  | .exit id, env, h, x, env', h', he, ρ, w, a, hE, hH => by
    simp only [exec, Option.some.injEq, Prod.mk.injEq] at he
    obtain ⟨rfl, rfl, rfl⟩ := he
    exact wp_exit ⟨rfl, ρ, Stp.refl hH, hE⟩
  | .ret, env, h, x, env', h', he, ρ, w, a, hE, hH => by
    simp only [exec, Option.some.injEq, Prod.mk.injEq] at he
    obtain ⟨rfl, rfl, rfl⟩ := he
    exact wp_ret ⟨rfl, ρ, Stp.refl hH, hE⟩
  | .goto _, _, _, _, _, _, he, _, _, _, _, _ => by simp [exec] at he
  | .rangeFunc _ _ _ _, _, _, _, _, _, he, _, _, _, _, _ => by simp [exec] at he
  | .refuse _, _, _, _, _, _, he, _, _, _, _, _ => by simp [exec] at he
/-! results -/
theorem ress_sound {h : AH} {env : T AV} {a : Act} {nx : Nat} {F : ResultVar → Sem Value} (hFt : ∀ t, F (.tmp t) = pure (a.tmps.getD t undef)) (hFc : ∀ c t, F (.cell c t) = (asAddr (a.tmps.getD c undef) >>= fun x => loadVar t x))
    (hH : HR ρ h.get nx w) (hE : ER ρ env nt a) : ∀ {l : List ResultVar} {vs : List AV}, ress P h env l = some vs →
    ∃ xs : List Value, VRs ρ vs xs ∧ (l.mapM F : Sem (List Value)).run P w = .ok xs w
  | [], vs, hr => by
    simp only [ress, Option.some.injEq] at hr
    subst hr
    exact ⟨[], VRs.nil, rfl⟩
  | .tmp t :: l, vs, hr => by
    unfold ress at hr
    split at hr <;> first | (cases hr; done) | skip
    rename_i v hv
    split at hr <;> first | (cases hr; done) | skip
    rename_i us hus
    simp only [Option.some.injEq] at hr
    subst hr
    obtain ⟨x, hx, hxr⟩ := hE.val t v hv
    obtain ⟨xs, h1, h2⟩ := ress_sound hFt hFc hH hE hus
    refine ⟨x :: xs, VRs.cons hxr h1, ?_⟩
    have : a.tmps.getD t undef = x := by simp [hx]
    simp only [List.mapM_cons, Sem.run_bind, Sem.run_pure, Result.andThen_ok, hFt, this, h2]
  | .cell c t :: l, vs, hr => by
    unfold ress at hr
    split at hr <;> first | (cases hr; done) | skip
    rename_i p hp
    split at hr <;> first | (cases hr; done) | skip
    rename_i v hv
    split at hr <;> first | (cases hr; done) | skip
    rename_i us hus
    simp only [Option.some.injEq] at hr
    subst hr
    obtain ⟨y, hy, hyr⟩ := hE.val c p hp
    obtain ⟨xs, h1, h2⟩ := ress_sound hFt hFc hH hE hus
    have hyv : a.tmps.getD c undef = y := by simp [hy]
    have hop : VRs ρ [p] (((Op.load t (.tmp c)).operands.toList).map a.eval) := by
      have : a.eval (.tmp c) = y := by simp [Act.eval, hy]
      simp only [Op.operands, List.map_cons, List.map_nil, this]
      exact VRs.cons hyr VRs.nil
    obtain ⟨x, hx, hrun⟩ := read_sound (o := { (default : Oper) with op := .load t (.tmp c) }) hH hv hop
    obtain ⟨b, off, rfl⟩ : ∃ b off, y = .pointer (some ⟨b, off, none⟩) := by
      simp only [aread] at hv
      split at hv <;> first | (cases hv; done) | skip
      · rename_i n off hh
        simp only [List.cons.injEq, and_true] at hh
        subst hh
        obtain ⟨b, s, _, rfl⟩ := hyr.ptr_inv
        exact ⟨b, off, rfl⟩
      · rename_i g off hh
        simp only [List.cons.injEq, and_true] at hh
        subst hh
        unfold VR at hyr
        exact ⟨g, off, hyr⟩
    have hload : (loadVar t ⟨b, off, none⟩).run P w = .ok x w := by
      have he : a.eval (.tmp c) = .pointer (some ⟨b, off, none⟩) := by simp [Act.eval, hy]
      simp only [execOp, he, Instr.loadAt, Instr.sureAddr, Sem.run_bind, Sem.run_pure, Result.andThen_ok] at hrun
      cases hl : (loadVar t ⟨b, off, none⟩).run P w with
      | ok x' w' =>
        rw [hl] at hrun
        simp only [Result.andThen_ok, Result.ok.injEq, Next.value.injEq] at hrun
        rw [hrun.1, hrun.2]
      | halt e w' =>
        rw [hl] at hrun
        simp at hrun
    refine ⟨x :: xs, VRs.cons hx h1, ?_⟩
    have hs : (F (.cell c t)).run P w = .ok x w := by
      rw [hFc, hyv, Sem.run_bind]
      exact hload
    simp only [List.mapM_cons, Sem.run_bind, Sem.run_pure, Result.andThen_ok, hs, h2]
theorem results_sound {h : AH} {env : T AV} {a : Act} {nx : Nat} {fn : Func} {vs : List AV} (hH : HR ρ h.get nx w) (hE : ER ρ env nt a) (hr : ress P h env fn.results.toList = some vs) :
    ∃ x, VR ρ (resOf vs) x ∧ (results fn a.tmps).run P w = .ok x w := by
  unfold results
  generalize hF : (fun x : ResultVar => (_ : Sem Value)) = F
  obtain ⟨xs, h1, h2⟩ := ress_sound (F := F) (fun t => by rw [← hF]) (fun c t => by rw [← hF]) hH hE hr
  have hl := h1.len
  have harr : fn.results = fn.results.toList.toArray := by simp
  rw [harr, List.mapM_toArray]
  simp only [Sem.run_bind, Sem.run_map]
  refine ⟨if hh : xs.toArray.size = 1 then xs.toArray[0] else .tuple xs.toArray, ?_, ?_⟩
  · cases vs with
    | nil =>
      simp only [List.length_nil] at hl
      rw [dif_neg (by simp; omega)]
      unfold resOf VR
      exact ⟨_, rfl, by simpa using h1⟩
    | cons v vs =>
      cases vs with
      | nil =>
        obtain ⟨y, rfl, hy⟩ := h1.one
        exact hy
      | cons v' vs =>
        simp only [List.length_cons] at hl
        rw [dif_neg (by simp; omega)]
        unfold resOf VR
        exact ⟨_, rfl, by simpa using h1⟩
  · rw [h2]
    rfl
omit [Nums] in
theorem envOf_get : ∀ {l : List AV} {k : Nat} {t0 : T AV} {t : Nat} {v : AV}, (envOf k l t0).get t = some v → (k ≤ t ∧ l[t - k]? = some v) ∨ t0.get t = some v
  | [], k, t0, t, v, h => .inr h
  | x :: l, k, t0, t, v, h => by
    unfold envOf at h
    rcases envOf_get h with ⟨h1, h2⟩ | h1
    · have h1 : k + 1 ≤ t := h1
      have h2 : l[t - (k + 1)]? = some v := h2
      refine .inl ⟨by omega, ?_⟩
      rw [show t - k = (t - (k + 1)) + 1 from by omega, List.getElem?_cons_succ]
      exact h2
    · rcases T.get_put h1 with ⟨h2, h3⟩ | ⟨_, h3⟩
      · subst h2
        exact .inl ⟨Nat.le_refl _, by rw [Nat.sub_self]; simpa using h3⟩
      · exact .inr h3
/-- memory known before is known behind what left it alone -/
theorem Stp.left {g : Nat → Option AO} {nx : Nat} {w' : World} (h : HR ρ g nx w) (hb : RowKit.Below w.heap.size w w') : Stp ρ g nx w ρ g nx w' := by
  have hT := h.tables (w' := w') (g' := g) (ρ' := ρ) (fun c hc _ => hb.block c hc) (fun m c s1 hm hq => .inr ⟨m, s1, hm, hq⟩)
  refine ⟨⟨h.fresh, fun n o hn => ?_, h.inj, hT.1, hT.2⟩, fun _ _ => rfl, Nat.le_refl _, hb.os, hb.tape, hb.output, hb.size, fun b hlt _ => hb.block b hlt, fun n b s hn hp => .inr ⟨n, s, hn, hp⟩, fun _ _ h => h⟩
  obtain ⟨b, s, hp, hO⟩ := h.obj n o hn
  refine ⟨b, s, hp, ?_⟩
  have hlt : b < w.heap.size := by
    rcases Nat.lt_or_ge b w.heap.size with h1 | h1
    · exact h1
    · rw [Array.getElem?_eq_none h1] at hO
      exact hO.notNone.elim
  rw [hb.block b hlt]
  exact hO
mutual
/-- what a value without memory is -/
def valOf (σ : Nat → Int) : AV → Value
  | .bool b => .bool b
  | .int k n => .int k n
  | .sym k e => .int k (e.ev σ)
  | .str s => .string s
  | .nilp => .pointer none
  | .nilsl => .slice none 0 0
  | .nilmap => .map none
  | .nilfn => .nilFunc
  | .nilif => .nilIface
  | .agg l => .agg (valsOf σ l).toArray
  | .tup l => .tuple (valsOf σ l).toArray
  | _ => undef
def valsOf (σ : Nat → Int) : List AV → List Value
  | [] => []
  | v :: l => valOf σ v :: valsOf σ l
end
mutual
theorem VR.shut : ∀ {v : AV} {x : Value}, VR ρ v x → v.shut = true → x = valOf Nums.σ v
  | .bool _, _, h, _ => by unfold VR at h; exact h
  | .int _ _, _, h, _ => by unfold VR at h; exact h
  | .sym _ _, _, h, _ => by unfold VR at h; exact h
  | .str _, _, h, _ => by unfold VR at h; exact h
  | .nilp, _, h, _ => by unfold VR at h; exact h
  | .ptr _ _, _, _, h => by cases h
  | .gptr _ _, _, _, h => by cases h
  | .nilsl, _, h, _ => by unfold VR at h; exact h
  | .sl .., _, _, h => by cases h
  | .esl _, _, _, h => by cases h
  | .nilmap, _, h, _ => by unfold VR at h; exact h
  | .map _, _, _, h => by cases h
  | .fn _ _ _, _, _, h => by cases h
  | .nilfn, _, h, _ => by unfold VR at h; exact h
  | .nilif, _, h, _ => by unfold VR at h; exact h
  | .ifc _ _, _, _, h => by cases h
  | .agg l, _, h, hs => by
    unfold VR at h
    obtain ⟨a, rfl, h⟩ := h
    have := VRs.shut h hs
    unfold valOf
    rw [← this]
  | .tup l, _, h, hs => by
    unfold VR at h
    obtain ⟨a, rfl, h⟩ := h
    have := VRs.shut h hs
    unfold valOf
    rw [← this]
theorem VRs.shut : ∀ {l : List AV} {m : List Value}, VRs ρ l m → AV.shuts l = true → m = valsOf Nums.σ l
  | [], _, h, _ => by unfold VRs at h; exact h
  | v :: l, _, h, hs => by
    obtain ⟨y, ys, rfl, h1, h2⟩ := h.uncons
    unfold AV.shuts at hs
    split at hs
    · rename_i hv
      unfold valsOf
      rw [VR.shut h1 hv, VRs.shut h2 hs]
    · cases hs
end
mutual
theorem VR.ofShut : ∀ {v : AV}, v.shut = true → VR ρ v (valOf Nums.σ v)
  | .bool _, _ => by unfold VR valOf; rfl
  | .int _ _, _ => by unfold VR valOf; rfl
  | .sym _ _, _ => by unfold VR valOf; rfl
  | .str _, _ => by unfold VR valOf; rfl
  | .nilp, _ => by unfold VR valOf; rfl
  | .ptr _ _, h => by cases h
  | .gptr _ _, h => by cases h
  | .nilsl, _ => by unfold VR valOf; rfl
  | .sl .., h => by cases h
  | .esl _, h => by cases h
  | .nilmap, _ => by unfold VR valOf; rfl
  | .map _, h => by cases h
  | .fn _ _ _, h => by cases h
  | .nilfn, _ => by unfold VR valOf; rfl
  | .nilif, _ => by unfold VR valOf; rfl
  | .ifc _ _, h => by cases h
  | .agg l, h => by unfold VR valOf; exact ⟨_, rfl, VRs.ofShut h⟩
  | .tup l, h => by unfold VR valOf; exact ⟨_, rfl, VRs.ofShut h⟩
theorem VRs.ofShut : ∀ {l : List AV}, AV.shuts l = true → VRs ρ l (valsOf Nums.σ l)
  | [], _ => by unfold valsOf; exact VRs.nil
  | v :: l, hs => by
    unfold AV.shuts at hs
    split at hs
    · rename_i hv
      unfold valsOf
      exact VRs.cons (VR.ofShut hv) (VRs.ofShut hs)
    · cases hs
end
/-- calls that are known -/
def OvOk (P : Program) (gs : List (Nat × List Int)) (σ : Nat → Int) (ov : Ov) : Prop := ∀ f xs v, (f, xs, v) ∈ ov →
  AV.shuts xs = true ∧ v.shut = true ∧ FnOk P f ∧ ∀ w, Tabs gs w → Calls P f (valsOf σ xs).toArray w fun e w' => e = .returned (valOf σ v) ∧ RowKit.Below w.heap.size w w'
omit [Nums] in
theorem ovAt_mem {f : FuncId} {args : List AV} {v : AV} : ∀ {ov : Ov}, ovAt f args ov = some v → (f, args, v) ∈ ov
  | [], h => by cases h
  | (g, xs, u) :: l, h => by
    unfold ovAt at h
    split at h
    · rename_i hg
      have hg := Nat.eq_of_beq_eq_true hg
      split at h
      · rename_i ha
        have ha := AV.beqs_eq ha
        simp only [Option.some.injEq] at h
        subst hg ha h
        exact List.mem_cons_self
      · exact List.mem_cons_of_mem _ (ovAt_mem h)
    · exact List.mem_cons_of_mem _ (ovAt_mem h)
theorem callN_sound (hm : P.follows .mixedOrders = true) {ov : Ov} (hov : OvOk P Fc.globs Nums.σ ov) : ∀ n, CallS P (callN P ov n)
  | 0 => fun f args h v h' he => by simp [callN] at he
  | n + 1 => fun f args h v h' he => by
    unfold callN at he
    split at he
    · rename_i u hf
      obtain ⟨ha, hu, h1, h2⟩ := hov _ _ _ (ovAt_mem hf)
      simp only [Option.some.injEq, Prod.mk.injEq] at he
      obtain ⟨rfl, rfl⟩ := he
      refine ⟨h1, fun ρ w args' hH hargs => ?_⟩
      have hargs := VRs.shut hargs ha
      have hargs : args' = (valsOf Nums.σ args).toArray := by rw [← hargs]
      subst hargs
      refine (h2 w hH.gl).mono ?_
      rintro e w' ⟨rfl, hb⟩
      exact ⟨ρ, _, rfl, VR.ofShut hu, Stp.left hH hb⟩
    split at he <;> first | (cases he; done) | skip
    rename_i fn hf
    split at he <;> first | (cases he; done) | skip
    rename_i hname
    split at he <;> first | (cases he; done) | skip
    rename_i c hb
    split at he <;> first | (cases he; done) | skip
    rename_i hle
    rw [Bool.and_eq_true] at hle
    have hle := Nat.le_of_ble_eq_true hle.1
    refine ⟨⟨fn, c, hf, hname, hb⟩, fun ρ w args' hH hargs => ?_⟩
    have hal : args.length = args'.size := by simpa using hargs.len
    have hE : ER ρ (envOf 0 args .e) fn.ntmps { tmps := args' ++ Array.replicate (fn.ntmps - args'.size) undef, defers := [] } := by
      refine ⟨rfl, by simp; omega, fun t v hv => ?_⟩
      rcases envOf_get hv with ⟨_, h1⟩ | h1
      · rw [Nat.sub_zero] at h1
        obtain ⟨x, hx, hr⟩ := hargs.get h1
        refine ⟨x, ?_, hr⟩
        have hlt := (List.getElem?_eq_some_iff.1 hx).1
        rw [Array.getElem?_append_left (by simpa using hlt)]
        simpa using hx
      · rw [T.get_e] at h1; cases h1
    split at he <;> first | (cases he; done) | skip
    rename_i x env' h1 hno hx
    split at he <;> first | (cases he; done) | skip
    rename_i vs hvs
    simp only [Option.some.injEq, Prod.mk.injEq] at he
    obtain ⟨rfl, rfl⟩ := he
    refine calls_of_wp hf hb (wp_mono (exec_wp hm (callN_sound hm hov n) c _ _ _ _ _ hx ρ w _ hE hH) ?_)
    rintro e a1 w1 ⟨rfl, ρ1, hst, hE1⟩
    obtain ⟨y, hy, hrun⟩ := results_sound (fn := fn) hst.hr hE1 hvs
    cases x with
    | exit id => exact absurd rfl (hno id)
    | normal => exact ⟨hE1.dz, y, hrun, ρ1, y, rfl, hy, hst⟩
    | ret => exact ⟨hE1.dz, y, hrun, ρ1, y, rfl, hy, hst⟩
omit [Nums] in
theorem AH.get_e {n k : Nat} : (AH.mk .e k).get n = none := T.getP_e _
/-- A CALL, BY THE RUNNER -/
theorem runs_calls (hm : P.follows .mixedOrders = true) {ov : Ov} (hov : OvOk P Fc.globs Nums.σ ov) {n : Nat} {f : FuncId} {args : List AV} {v : AV} (h : runs P ov n f args v = true) (ha : AV.shuts args = true) (hv : v.shut = true) (w : World) (hg : Tabs Fc.globs w) :
    Calls P f (valsOf Nums.σ args).toArray w fun e w' => e = .returned (valOf Nums.σ v) ∧ RowKit.Below w.heap.size w w' := by
  unfold runs at h
  split at h <;> first | (cases h; done) | skip
  rename_i u h' hc
  have h := AV.beq_eq h
  subst h
  have hH : HR (fun _ => none) (AH.mk .e 0).get (AH.mk .e 0).next w := ⟨fun _ _ => rfl, (fun n o hn => by rw [AH.get_e] at hn; cases hn), (fun n m b s s' hn => by rw [AH.get_e] at hn; cases hn), hg, (fun b l _ n s hn => by rw [AH.get_e] at hn; cases hn)⟩
  refine ((callN_sound hm hov n _ _ _ _ _ hc).2 (fun _ => none) w _ hH (VRs.ofShut ha)).mono ?_
  rintro e w' ⟨ρ', x, rfl, hx, hst⟩
  exact ⟨by rw [VR.shut hx hv], hst.os, hst.tape, hst.output, hst.size, fun b hb => hst.block b hb fun n s hn => by rw [AH.get_e] at hn; cases hn⟩
end
end
end Go.Proofs.Ytigakendeghoaaa.Ex
