/-
  The runner: an operation that looks at no memory gives what the model gives. No condition.
-/
import Derived.Test.YtigakendeghoaaaExD
namespace Go.Proofs.Ytigakendeghoaaa.Ex
open Go
section
variable {P : Program} {ρ : Ren}
theorem aggT_run {t : TypeId} {b : Bool} (h : aggT P t = some b) (w : World) : (isAgg t).run P w = .ok b w := by
  unfold aggT at h
  unfold isAgg
  split at h
  · rename_i hu; rw [Sem.run_bind, run_underlying hu w]; cases h; rfl
  · rename_i hu; rw [Sem.run_bind, run_underlying hu w]; cases h; rfl
  · rename_i d h1 h2 hu
    rw [Sem.run_bind, run_underlying hu w]
    cases h
    cases d <;> first | rfl | (exact absurd rfl (h1 _)) | (exact absurd rfl (h2 _ _))
  · cases h
theorem sizeT_run {t : TypeId} {s : Nat} (h : sizeT P t = some s) (w : World) : (sizeOf t).run P w = .ok s w := by
  unfold sizeT at h
  split at h
  · rename_i i hi
    cases h
    simp [sizeOf, typeInfo, hi]
  · cases h
theorem sizeT_info {t : TypeId} {s : Nat} (h : sizeT P t = some s) : (P.info? t).map (·.size) = some s := by
  unfold sizeT at h
  split at h
  · rename_i i hi
    cases h
    simp [hi]
  · cases h
theorem zeroT_run {t : TypeId} {z : AV} (h : zeroT P t = some z) : ∃ i v, P.info? t = some i ∧ i.zero = some v ∧ ofV v = some z ∧ ∀ w, (zeroValue t).run P w = .ok v w := by
  unfold zeroT at h
  split at h
  · rename_i i hi
    split at h
    · rename_i v hv
      exact ⟨i, v, hi, hv, h, fun w => by simp [zeroValue, typeInfo, hi, hv]⟩
    · cases h
  · cases h
theorem extract_list (a : Array Value) (i j : Nat) : (a.extract i j).toList = (a.toList.drop i).take (j - i) := by
  simp [List.extract_eq_take_drop]
theorem part_sound {t : TypeId} {cs : List AV} {off : Nat} {v : AV} {a : Array Value} (h : part P t cs off = some v) (hv : VRs ρ cs a.toList) :
    ∃ x, VR ρ v x ∧ ∀ w, (Go.part t a off).run P w = .ok x w := by
  unfold part at h
  split at h
  · rename_i hagg
    split at h
    · rename_i s hs
      simp only [Option.some.injEq] at h
      subst h
      refine ⟨.agg (a.extract off (off + s)), ?_, fun w => ?_⟩
      · unfold VR
        refine ⟨_, rfl, ?_⟩
        rw [extract_list, show off + s - off = s from by omega]
        exact (hv.drop off).take s
      · simp [Go.part, aggT_run hagg w, sizeT_run hs w]
    · cases h
  · rename_i hagg
    obtain ⟨x, hx, hr⟩ := hv.get h
    refine ⟨x, hr, fun w => ?_⟩
    rw [Array.getElem?_toList] at hx
    simp [Go.part, aggT_run hagg w, hx]
  · cases h
theorem abin_run {op : BinOp} {k : IntKind} {x y : Int} {v : AV} (h : abin op k x y = some v) (hs : op ≠ .shl) (hs' : op ≠ .shr) (t : TypeId) : ∃ u, VR ρ v u ∧ ∀ w, (binOp op t (.int k x) (.int k y)).run P w = .ok u w := by
  cases op <;> simp only [abin] at h <;> first
    | (exact absurd rfl hs)
    | (exact absurd rfl hs')
    | (simp only [Option.some.injEq] at h; subst h
       refine ⟨_, by unfold VR; rfl, fun w => ?_⟩
       simp [binOp, Op.intArith, Op.intBits, Op.intCmp])
    | (split at h
       · cases h
       · rename_i hd
         simp only [Option.some.injEq] at h; subst h
         have hy : ¬ y = 0 := by simpa using hd
         refine ⟨_, by unfold VR; rfl, fun w => ?_⟩
         simp [binOp, Op.intDiv, hy])
    | (cases h)
theorem ashift_run {op : BinOp} {k k' : IntKind} {x y : Int} {v : AV} (h : ashift op k x y = some v) (t : TypeId) : ∃ u, VR ρ v u ∧ ∀ w, (binOp op t (.int k x) (.int k' y)).run P w = .ok u w := by
  unfold ashift at h
  split at h
  · cases h
  · rename_i hd
    have hy : ¬ y < 0 := by simpa using hd
    split at h
    · simp only [Option.some.injEq] at h; subst h
      refine ⟨_, by unfold VR; rfl, fun w => ?_⟩
      simp only [binOp, Op.shift, hy, if_false]
      rfl
    · simp only [Option.some.injEq] at h; subst h
      refine ⟨_, by unfold VR; rfl, fun w => ?_⟩
      simp only [binOp, Op.shift, hy, if_false]
      rfl
    · cases h
theorem aun_run {op : UnOp} {x v : AV} {y : Value} (h : aun op x = some v) (hx : VR ρ x y) : ∃ u, VR ρ v u ∧ ∀ w, (Op.unary op y).run P w = .ok u w := by
  unfold aun at h
  split at h
  · unfold VR at hx; subst hx
    simp only [Option.some.injEq] at h; subst h
    refine ⟨_, by unfold VR; rfl, fun w => ?_⟩
    simp [Op.unary, Op.intArith]
  · unfold VR at hx; subst hx
    simp only [Option.some.injEq] at h; subst h
    refine ⟨_, by unfold VR; rfl, fun w => ?_⟩
    simp [Op.unary, Op.intBits]
  · unfold VR at hx; subst hx
    simp only [Option.some.injEq] at h; subst h
    exact ⟨_, by unfold VR; rfl, fun w => rfl⟩
  · cases h
theorem fields_of {t : TypeId} {fs : Array Field} (h : P.underlying t = some (.struct fs)) : P.fieldsOf t = fs := by simp [Program.fieldsOf, h]
/-- == -/
def EqR (P : Program) (ρ : Ren) (d : Nat) (rec : TypeId → AV → AV → Option Bool) : Prop :=
  ∀ t x y b u v, rec t x y = some b → VR ρ x u → VR ρ y v → ∀ w, (Op.equalIn d t u v).run P w = .ok b w
theorem aeqF_sound {d : Nat} {rec : TypeId → AV → AV → Option Bool} (hrec : EqR P ρ d rec) {xs ys : List AV} {a b : Array Value} (ha : VRs ρ xs a.toList) (hb : VRs ρ ys b.toList) :
    ∀ (fs : List Field) (r : Bool), aeqF P rec xs ys fs = some r → ∀ w, (Op.eqFields d a b fs).run P w = .ok r w
  | [], r, h, w => by simp [aeqF] at h; subst h; simp [Op.eqFields]
  | f :: fs, r, h, w => by
    unfold aeqF at h
    split at h
    · cases h
    · rename_i hn
      have hn : f.name ≠ "_" := by simpa using hn
      split at h
      · cases h
      · rename_i u hu
        split at h
        · cases h
        · rename_i v hv
          obtain ⟨x, hx, hxr⟩ := part_sound hu ha
          obtain ⟨y, hy, hyr⟩ := part_sound hv hb
          split at h
          · cases h
          · rename_i he
            simp only [Option.some.injEq] at h; subst h
            have := hrec _ _ _ _ _ _ he hx hy w
            simp [Op.eqFields, hn, hxr w, hyr w, this]
          · rename_i he
            have := hrec _ _ _ _ _ _ he hx hy w
            have ih := aeqF_sound hrec ha hb fs r h w
            simp [Op.eqFields, hn, hxr w, hyr w, this, ih]
theorem aeq_sound : ∀ (d e : Nat), EqR P ρ (d + e) (aeq P d)
  | 0, _, t, x, y, b, u, v, h, _, _, _ => by simp [aeq] at h
  | d + 1, e, t, x, y, b, u, v, h, hx, hy, w => by
    rw [show d + 1 + e = (d + e) + 1 from by omega]
    unfold aeq at h
    split at h
    · rename_i hu
      split at h
      · unfold VR at hx hy; subst hx; subst hy; cases h
        exact run_equalIn_bool w _ t _ _ hu
      · cases h
    · rename_i k0 hu
      split at h
      · unfold VR at hx hy; subst hx; subst hy
        split at h
        · rename_i hk
          have hk := of_decide_eq_true hk
          subst hk; cases h
          exact run_equalIn_int w _ t _ _ _ _ hu
        · cases h
      · cases h
    · rename_i e0 hu
      split at h
      · unfold VR at hx hy; subst hx; subst hy; cases h
        simp [Op.equalIn, run_underlying hu]
      · unfold VR at hx hy; subst hx; obtain ⟨_, _, _, rfl⟩ := hy; cases h
        simp [Op.equalIn, run_underlying hu]
      · unfold VR at hx hy; subst hy; obtain ⟨_, _, _, rfl⟩ := hx; cases h
        simp [Op.equalIn, run_underlying hu]
      · cases h
    · rename_i e0 hu
      split at h
      · unfold VR at hx hy; subst hx; subst hy; cases h
        simp [Op.equalIn, run_underlying hu]
      · unfold VR at hx hy; subst hx; obtain ⟨_, _, _, _, rfl, _⟩ := hy; cases h
        simp [Op.equalIn, run_underlying hu]
      · unfold VR at hx hy; subst hy; obtain ⟨_, _, _, _, rfl, _⟩ := hx; cases h
        simp [Op.equalIn, run_underlying hu]
      · unfold VR at hx hy; subst hx; obtain ⟨_, _, rfl⟩ := hy; cases h
        simp [Op.equalIn, run_underlying hu]
      · unfold VR at hx hy; subst hy; obtain ⟨_, _, rfl⟩ := hx; cases h
        simp [Op.equalIn, run_underlying hu]
      · cases h
    · rename_i e0 e1 hu
      split at h
      · unfold VR at hx hy; subst hx; subst hy; cases h
        simp [Op.equalIn, run_underlying hu]
      · unfold VR at hx hy; subst hx; obtain ⟨_, _, _, rfl⟩ := hy; cases h
        simp [Op.equalIn, run_underlying hu]
      · unfold VR at hx hy; subst hy; obtain ⟨_, _, _, rfl⟩ := hx; cases h
        simp [Op.equalIn, run_underlying hu]
      · cases h
    · rename_i e0 e1 e2 hu
      split at h
      · unfold VR at hx hy; subst hx; subst hy; cases h
        simp [Op.equalIn, run_underlying hu]
      · unfold VR at hx hy; subst hx; obtain ⟨_, _, rfl, _⟩ := hy; cases h
        simp [Op.equalIn, run_underlying hu]
      · unfold VR at hx hy; subst hy; obtain ⟨_, _, rfl, _⟩ := hx; cases h
        simp [Op.equalIn, run_underlying hu]
      · cases h
    · rename_i fs hu
      split at h
      · rename_i xs ys
        unfold VR at hx hy
        obtain ⟨a, rfl, ha⟩ := hx
        obtain ⟨b', rfl, hb⟩ := hy
        split at h
        · cases h
        · rename_i hst
          have hf := fields_of hu
          rw [run_equalIn_struct w _ t a b' (by rw [hf]; exact hu) hst, hf]
          exact aeqF_sound (aeq_sound d e) ha hb _ _ h w
      · cases h
    · cases h
theorem guard_run {op : BinOp} {t : TypeId} {x y : AV} {u v : Value} (h : guardOk P t x y = true) (hx : VR ρ x u) (hy : VR ρ y v) (ox oy : Operand) (w : World) : (eqGuard op t ox oy u v).run P w = .ok () w := by
  have key : ∀ (u v : Value), (∀ a b, u = .agg a → v = .agg b → False) → (u = .nilIface → v = .nilIface → False) → (eqGuard op t ox oy u v).run P w = .ok () w := by
    intro u v h1 h2
    unfold eqGuard
    cases op <;> first
      | rfl
      | (cases u <;> cases v <;> first
          | rfl
          | (exact (h1 _ _ rfl rfl).elim)
          | (exact (h2 rfl rfl).elim))
  have hagg : ∀ {z : AV} {q : Value} {c : Array Value}, VR ρ z q → q = .agg c → ∃ l, z = .agg l := by
    intro z q c hz hq
    subst hq
    cases z <;> simp [VR] at hz <;> exact ⟨_, rfl⟩
  have hnil : ∀ {z : AV} {q : Value}, VR ρ z q → q = .nilIface → z = .nilif := by
    intro z q hz hq
    subst hq
    cases z <;> simp [VR] at hz <;> rfl
  unfold guardOk at h
  split at h
  · rename_i l m
    split at h
    · cases h
    · rename_i hm
      unfold VR at hx hy
      obtain ⟨a, rfl, _⟩ := hx
      obtain ⟨b, rfl, _⟩ := hy
      exact run_eqGuard_agg w op t ox oy a b hm
  · cases h
  · rename_i h1 h2
    refine key u v ?_ ?_
    · intro a b ha hb
      obtain ⟨l, rfl⟩ := hagg hx ha
      obtain ⟨m, rfl⟩ := hagg hy hb
      exact h1 l m rfl rfl
    · intro ha hb
      exact h2 (hnil hx ha) (hnil hy hb)
end
end Go.Proofs.Ytigakendeghoaaa.Ex
