/-
  The runner: an operation that looks at no memory gives what the model gives. No condition.
-/
import Derived.Test.YtigakendeghoaaaExD
namespace Go.Proofs.Ytigakendeghoaaa.Ex
open Go
variable [Nums]
section
variable {P : Program} {ρ : Ren}
omit [Nums] in
theorem aggT_run {t : TypeId} {b : Bool} (h : aggT P t = some b) (w : World) : (isAgg t).run P w = .ok b w := by
  unfold aggT at h
  unfold isAgg
  split at h
  · rename_i hu; rw [Sem.run_bind, run_underlying hu w]; cases h; rfl
  · rename_i hu; rw [Sem.run_bind, run_underlying hu w]; cases h; rfl
  · rename_i d h1 h2 hu
    rw [Sem.run_bind, run_underlying hu w]
    cases h
    cases d <;> first | rfl | (exact absurd rfl (h1 _)) | (exact absurd rfl (h2 _ _))
  · cases h
omit [Nums] in
theorem sizeT_run {t : TypeId} {s : Nat} (h : sizeT P t = some s) (w : World) : (sizeOf t).run P w = .ok s w := by
  unfold sizeT at h
  split at h
  · rename_i i hi
    cases h
    simp [sizeOf, typeInfo, hi]
  · cases h
omit [Nums] in
theorem sizeT_info {t : TypeId} {s : Nat} (h : sizeT P t = some s) : (P.info? t).map (·.size) = some s := by
  unfold sizeT at h
  split at h
  · rename_i i hi
    cases h
    simp [hi]
  · cases h
omit [Nums] in
theorem zeroT_run {t : TypeId} {z : AV} (h : zeroT P t = some z) : ∃ i v, P.info? t = some i ∧ i.zero = some v ∧ ofV v = some z ∧ ∀ w, (zeroValue t).run P w = .ok v w := by
  unfold zeroT at h
  split at h
  · rename_i i hi
    split at h
    · rename_i v hv
      exact ⟨i, v, hi, hv, h, fun w => by simp [zeroValue, typeInfo, hi, hv]⟩
    · cases h
  · cases h
omit [Nums] in
theorem extract_list (a : Array Value) (i j : Nat) : (a.extract i j).toList = (a.toList.drop i).take (j - i) := by
  simp [List.extract_eq_take_drop]
theorem part_sound {t : TypeId} {cs : List AV} {off : Nat} {v : AV} {a : Array Value} (h : part P t cs off = some v) (hv : VRs ρ cs a.toList) :
    ∃ x, VR ρ v x ∧ ∀ w, (Go.part t a off).run P w = .ok x w := by
  unfold part at h
  split at h
  · rename_i hagg
    split at h
    · rename_i s hs
      simp only [Option.some.injEq] at h
      subst h
      refine ⟨.agg (a.extract off (off + s)), ?_, fun w => ?_⟩
      · unfold VR
        refine ⟨_, rfl, ?_⟩
        rw [extract_list, show off + s - off = s from by omega]
        exact (hv.drop off).take s
      · simp [Go.part, aggT_run hagg w, sizeT_run hs w]
    · cases h
  · rename_i hagg
    obtain ⟨x, hx, hr⟩ := hv.get h
    refine ⟨x, hr, fun w => ?_⟩
    rw [Array.getElem?_toList] at hx
    simp [Go.part, aggT_run hagg w, hx]
  · cases h
theorem abin_run {op : BinOp} {k : IntKind} {x y : Int} {v : AV} (h : abin op k x y = some v) (hs : op ≠ .shl) (hs' : op ≠ .shr) (t : TypeId) : ∃ u, VR ρ v u ∧ ∀ w, (binOp op t (.int k x) (.int k y)).run P w = .ok u w := by
  cases op <;> simp only [abin] at h <;> first
    | (exact absurd rfl hs)
    | (exact absurd rfl hs')
    | (simp only [Option.some.injEq] at h; subst h
       refine ⟨_, by unfold VR; rfl, fun w => ?_⟩
       simp [binOp, Op.intArith, Op.intBits, Op.intCmp])
    | (split at h
       · cases h
       · rename_i hd
         simp only [Option.some.injEq] at h; subst h
         have hy : ¬ y = 0 := by simpa using hd
         refine ⟨_, by unfold VR; rfl, fun w => ?_⟩
         simp [binOp, Op.intDiv, hy])
    | (cases h)
theorem ashift_run {op : BinOp} {k k' : IntKind} {x y : Int} {v : AV} (h : ashift op k x y = some v) (t : TypeId) : ∃ u, VR ρ v u ∧ ∀ w, (binOp op t (.int k x) (.int k' y)).run P w = .ok u w := by
  unfold ashift at h
  split at h
  · cases h
  · rename_i hd
    have hy : ¬ y < 0 := by simpa using hd
    split at h
    · simp only [Option.some.injEq] at h; subst h
      refine ⟨_, by unfold VR; rfl, fun w => ?_⟩
      simp only [binOp, Op.shift, hy, if_false]
      rfl
    · simp only [Option.some.injEq] at h; subst h
      refine ⟨_, by unfold VR; rfl, fun w => ?_⟩
      simp only [binOp, Op.shift, hy, if_false]
      rfl
    · cases h
/-! numbers that are not known -/
omit [Nums] in
theorem SO.beq_eq : ∀ {a b : SO}, SO.beq a b = true → a = b := by
  intro a b h
  cases a <;> cases b <;> first | rfl | cases h
omit [Nums] in
theorem SE.beq_eq : ∀ {a b : SE}, SE.beq a b = true → a = b
  | .var i, b, h => by cases b <;> simp [SE.beq] at h; rw [h]
  | .lit n, b, h => by cases b <;> simp [SE.beq] at h; rw [h]
  | .bin o x y, b, h => by
    cases b <;> simp [SE.beq] at h
    rw [SO.beq_eq h.1, SE.beq_eq h.2.1, SE.beq_eq h.2.2]
  | .ubin o x y, b, h => by
    cases b <;> simp [SE.beq] at h
    rw [SO.beq_eq h.1, SE.beq_eq h.2.1, SE.beq_eq h.2.2]
  | .cv k x, b, h => by
    cases b <;> simp [SE.beq] at h
    rw [h.1, SE.beq_eq h.2]
omit [Nums] in
theorem findLt_ok {σ : Nat → Int} {a b : SE} : ∀ {l : List (Cnd × Bool)} {r : Bool}, (∀ f ∈ l, f.1.ev σ = f.2) → findLt a b l = some r → decide (a.ev σ < b.ev σ) = r
  | [], r, _, h => by simp [findLt] at h
  | (.lt x y, q) :: l, r, hl, h => by
    unfold findLt at h
    split at h
    · rename_i hb
      rw [Bool.and_eq_true] at hb
      have e1 := SE.beq_eq hb.1
      have e2 := SE.beq_eq hb.2
      subst e1; subst e2
      cases h
      exact hl _ List.mem_cons_self
    · exact findLt_ok (fun f hf => hl f (List.mem_cons_of_mem _ hf)) h
  | (.eq x y, q) :: l, r, hl, h => by
    unfold findLt at h
    exact findLt_ok (fun f hf => hl f (List.mem_cons_of_mem _ hf)) h
omit [Nums] in
theorem findEq_ok {σ : Nat → Int} {a b : SE} : ∀ {l : List (Cnd × Bool)} {r : Bool}, (∀ f ∈ l, f.1.ev σ = f.2) → findEq a b l = some r → (a.ev σ == b.ev σ) = r
  | [], r, _, h => by simp [findEq] at h
  | (.eq x y, q) :: l, r, hl, h => by
    unfold findEq at h
    split at h
    · rename_i hb
      rw [Bool.and_eq_true] at hb
      have e1 := SE.beq_eq hb.1
      have e2 := SE.beq_eq hb.2
      subst e1; subst e2
      cases h
      exact hl _ List.mem_cons_self
    · exact findEq_ok (fun f hf => hl f (List.mem_cons_of_mem _ hf)) h
  | (.lt x y, q) :: l, r, hl, h => by
    unfold findEq at h
    exact findEq_ok (fun f hf => hl f (List.mem_cons_of_mem _ hf)) h
omit [Nums] in
theorem lowOf_ok {σ : Nat → Int} {a : SE} : ∀ (l : List (Cnd × Bool)) (m : Int), (∀ f ∈ l, f.1.ev σ = f.2) → lowOf a l = some m → m ≤ a.ev σ := by
  intro l
  induction l with
  | nil => intro m _ h; simp [lowOf] at h
  | cons f l ih =>
    intro m hl h
    have hl' : ∀ f ∈ l, f.1.ev σ = f.2 := fun f hf => hl f (List.mem_cons_of_mem _ hf)
    have h0 := hl f List.mem_cons_self
    unfold lowOf at h
    split at h
    · cases h
    · rename_i x n l' he
      cases he
      split at h
      · rename_i hb
        have e1 := SE.beq_eq hb
        subst e1
        have h1 : ¬ x.ev σ < n := of_decide_eq_false (show decide (x.ev σ < n) = false from h0)
        split at h
        · cases h; omega
        · rename_i q hq
          have h2 := ih _ hl' hq
          cases h
          split <;> omega
      · exact ih _ hl' h
    · rename_i n x l' he
      cases he
      split at h
      · rename_i hb
        have e1 := SE.beq_eq hb
        subst e1
        have h1 : n < x.ev σ := of_decide_eq_true (show decide (n < x.ev σ) = true from h0)
        split at h
        · cases h; omega
        · rename_i q hq
          have h2 := ih _ hl' hq
          cases h
          split <;> omega
      · exact ih _ hl' h
    · rename_i x n l' he
      cases he
      split at h
      · rename_i hb
        have e1 := SE.beq_eq hb
        subst e1
        have h1 : x.ev σ = n := eq_of_beq (show (x.ev σ == n) = true from h0)
        cases h
        omega
      · exact ih _ hl' h
    · rename_i q l' _ _ _ he
      cases he
      exact ih _ hl' h
omit [Nums] in
theorem highOf_ok {σ : Nat → Int} {a : SE} : ∀ (l : List (Cnd × Bool)) (m : Int), (∀ f ∈ l, f.1.ev σ = f.2) → highOf a l = some m → a.ev σ ≤ m := by
  intro l
  induction l with
  | nil => intro m _ h; simp [highOf] at h
  | cons f l ih =>
    intro m hl h
    have hl' : ∀ f ∈ l, f.1.ev σ = f.2 := fun f hf => hl f (List.mem_cons_of_mem _ hf)
    have h0 := hl f List.mem_cons_self
    unfold highOf at h
    split at h
    · cases h
    · rename_i x n l' he
      cases he
      split at h
      · rename_i hb
        have e1 := SE.beq_eq hb
        subst e1
        have h1 : x.ev σ < n := of_decide_eq_true (show decide (x.ev σ < n) = true from h0)
        split at h
        · cases h; omega
        · rename_i q hq
          have h2 := ih _ hl' hq
          cases h
          split <;> omega
      · exact ih _ hl' h
    · rename_i n x l' he
      cases he
      split at h
      · rename_i hb
        have e1 := SE.beq_eq hb
        subst e1
        have h1 : ¬ n < x.ev σ := of_decide_eq_false (show decide (n < x.ev σ) = false from h0)
        split at h
        · cases h; omega
        · rename_i q hq
          have h2 := ih _ hl' hq
          cases h
          split <;> omega
      · exact ih _ hl' h
    · rename_i x n l' he
      cases he
      split at h
      · rename_i hb
        have e1 := SE.beq_eq hb
        subst e1
        have h1 : x.ev σ = n := eq_of_beq (show (x.ev σ == n) = true from h0)
        cases h
        omega
      · exact ih _ hl' h
    · rename_i q l' _ _ _ he
      cases he
      exact ih _ hl' h
omit [Nums] in
theorem inI64_ok {lo hi a b x : Int} (h : inI64 lo hi = some (a, b)) (h1 : lo ≤ x) (h2 : x ≤ hi) : a ≤ IntKind.i64.wrap x ∧ IntKind.i64.wrap x ≤ b := by
  unfold inI64 at h
  split at h <;> first | (cases h; done) | skip
  rename_i hc
  rw [Bool.and_eq_true] at hc
  have c1 := of_decide_eq_true hc.1
  have c2 := of_decide_eq_true hc.2
  cases h
  rw [IntKind.wrap_i64]
  omega
omit [Nums] in
theorem ivOf_ok {σ : Nat → Int} {l : List (Cnd × Bool)} (hl : ∀ f ∈ l, f.1.ev σ = f.2) : ∀ {e : SE} {lo hi : Int}, ivOf l e = some (lo, hi) → lo ≤ e.ev σ ∧ e.ev σ ≤ hi
  | .lit n, lo, hi, h => by
    simp only [ivOf, Option.some.injEq, Prod.mk.injEq] at h
    obtain ⟨rfl, rfl⟩ := h
    exact ⟨Int.le_refl _, Int.le_refl _⟩
  | .var i, lo, hi, h => by
    unfold ivOf at h
    split at h <;> first | (cases h; done) | skip
    rename_i m hm
    split at h <;> first | (cases h; done) | skip
    rename_i q hq
    cases h
    exact ⟨lowOf_ok l _ hl hm, highOf_ok l _ hl hq⟩
  | .bin o a b, lo, hi, h => by
    unfold ivOf at h
    split at h <;> first | (cases h; done) | skip
    rename_i la ha hia
    split at h <;> first | (cases h; done) | skip
    rename_i lb hb hib
    have k1 := ivOf_ok hl hia
    have k2 := ivOf_ok hl hib
    cases o with
    | add => exact inI64_ok h (by omega) (by omega)
    | sub => exact inI64_ok h (by omega) (by omega)
    | mul =>
      dsimp only at h
      split at h <;> first | (cases h; done) | skip
      rename_i hc
      rw [Bool.and_eq_true] at hc
      have c1 := of_decide_eq_true hc.1
      have c2 := of_decide_eq_true hc.2
      refine inI64_ok h ?_ ?_
      · exact Int.mul_le_mul k1.1 k2.1 c2 (by omega)
      · exact Int.mul_le_mul k1.2 k2.2 (by omega) (by omega)
  | .cv k a, lo, hi, h => by simp [ivOf] at h
theorem askLt_ok {a b : SE} {r : Bool} (h : askLt a b = some r) : decide (a.ev Nums.σ < b.ev Nums.σ) = r := by
  unfold askLt at h
  split at h
  · rename_i hb
    have e1 := SE.beq_eq hb
    subst e1
    cases h
    simp
  · split at h
    · rename_i q hq
      cases h
      exact findLt_ok Nums.ok hq
    · split at h <;> first | (cases h; done) | skip
      rename_i la ha hia
      split at h <;> first | (cases h; done) | skip
      rename_i lb hb hib
      have k1 := ivOf_ok Nums.ok hia
      have k2 := ivOf_ok Nums.ok hib
      split at h
      · rename_i hc
        have := of_decide_eq_true hc
        cases h
        exact decide_eq_true (by omega)
      · split at h <;> first | (cases h; done) | skip
        rename_i hc
        have := of_decide_eq_true hc
        cases h
        exact decide_eq_false (by omega)
theorem askEq_ok {a b : SE} {r : Bool} (h : askEq a b = some r) : (a.ev Nums.σ == b.ev Nums.σ) = r := by
  unfold askEq at h
  split at h
  · rename_i hb
    have e1 := SE.beq_eq hb
    subst e1
    cases h
    simp
  · split at h
    · rename_i q hq
      cases h
      exact findEq_ok Nums.ok hq
    · split at h <;> first | (cases h; done) | skip
      rename_i la ha hia
      split at h <;> first | (cases h; done) | skip
      rename_i lb hb hib
      have k1 := ivOf_ok Nums.ok hia
      have k2 := ivOf_ok Nums.ok hib
      split at h <;> first | (cases h; done) | skip
      rename_i hc
      cases h
      rw [beq_eq_false_iff_ne]
      rw [Bool.or_eq_true] at hc
      rcases hc with hc | hc
      · have := of_decide_eq_true hc; omega
      · have := of_decide_eq_true hc; omega
theorem toSE_ok {x : AV} {k : IntKind} {a : SE} {u : Value} (h : toSE x = some (k, a)) (hx : VR ρ x u) : u = .int k (a.ev Nums.σ) := by
  unfold toSE at h
  split at h
  · cases h
    unfold VR at hx
    exact hx
  · cases h
    unfold VR at hx
    exact hx
  · cases h
omit [Nums] in
theorem le_not (x y : Int) : decide (x ≤ y) = !decide (y < x) := by
  by_cases h : y < x <;> simp [h] <;> omega
theorem symOp_run {op : BinOp} {x y v : AV} {u1 u2 : Value} (h : symOp op x y = some v) (hx : VR ρ x u1) (hy : VR ρ y u2) (t : TypeId) : ∃ u, VR ρ v u ∧ (∃ k a b, u1 = .int k a ∧ u2 = .int k b) ∧ ∀ w, (binOp op t u1 u2).run P w = .ok u w := by
  unfold symOp at h
  split at h <;> first | (cases h; done) | skip
  rename_i k a h1
  split at h <;> first | (cases h; done) | skip
  rename_i k' b h2
  have e1 := toSE_ok h1 hx
  have e2 := toSE_ok h2 hy
  subst e1; subst e2
  split at h <;> first | (cases h; done) | skip
  rename_i hk
  have hk := of_decide_eq_true hk
  subst hk
  split at h
  · split at h
    · rename_i hk
      have hk := of_decide_eq_true hk
      subst hk
      cases h
      exact ⟨_, by unfold VR; rfl, ⟨_, _, _, rfl, rfl⟩, fun w => by simp [binOp, Op.intArith, SE.ev]⟩
    · split at h <;> first | (cases h; done) | skip
      rename_i hk
      have hk := of_decide_eq_true hk
      subst hk
      cases h
      exact ⟨_, by unfold VR; rfl, ⟨_, _, _, rfl, rfl⟩, fun w => by simp [binOp, Op.intArith, SE.ev]⟩
  · split at h
    · rename_i hk
      have hk := of_decide_eq_true hk
      subst hk
      cases h
      exact ⟨_, by unfold VR; rfl, ⟨_, _, _, rfl, rfl⟩, fun w => by simp [binOp, Op.intArith, SE.ev]⟩
    · split at h <;> first | (cases h; done) | skip
      rename_i hk
      have hk := of_decide_eq_true hk
      subst hk
      cases h
      exact ⟨_, by unfold VR; rfl, ⟨_, _, _, rfl, rfl⟩, fun w => by simp [binOp, Op.intArith, SE.ev]⟩
  · split at h
    · rename_i hk
      have hk := of_decide_eq_true hk
      subst hk
      cases h
      exact ⟨_, by unfold VR; rfl, ⟨_, _, _, rfl, rfl⟩, fun w => by simp [binOp, Op.intArith, SE.ev]⟩
    · split at h <;> first | (cases h; done) | skip
      rename_i hk
      have hk := of_decide_eq_true hk
      subst hk
      cases h
      exact ⟨_, by unfold VR; rfl, ⟨_, _, _, rfl, rfl⟩, fun w => by simp [binOp, Op.intArith, SE.ev]⟩
  · split at h <;> first | (cases h; done) | skip
    rename_i r hr
    cases h
    have := askEq_ok hr
    exact ⟨_, by unfold VR; rfl, ⟨_, _, _, rfl, rfl⟩, fun w => by simp [binOp, Op.intCmp, ← this]⟩
  · split at h <;> first | (cases h; done) | skip
    rename_i r hr
    cases h
    have := askEq_ok hr
    exact ⟨_, by unfold VR; rfl, ⟨_, _, _, rfl, rfl⟩, fun w => by simp [binOp, Op.intCmp, ← this, bne]⟩
  · split at h <;> first | (cases h; done) | skip
    rename_i r hr
    cases h
    have := askLt_ok hr
    exact ⟨_, by unfold VR; rfl, ⟨_, _, _, rfl, rfl⟩, fun w => by simp [binOp, Op.intCmp, ← this]⟩
  · split at h <;> first | (cases h; done) | skip
    rename_i r hr
    cases h
    have := askLt_ok hr
    exact ⟨_, by unfold VR; rfl, ⟨_, _, _, rfl, rfl⟩, fun w => by simp [binOp, Op.intCmp, ← this, le_not]⟩
  · split at h <;> first | (cases h; done) | skip
    rename_i r hr
    cases h
    have := askLt_ok hr
    exact ⟨_, by unfold VR; rfl, ⟨_, _, _, rfl, rfl⟩, fun w => by simp [binOp, Op.intCmp, ← this]⟩
  · split at h <;> first | (cases h; done) | skip
    rename_i r hr
    cases h
    have := askLt_ok hr
    exact ⟨_, by unfold VR; rfl, ⟨_, _, _, rfl, rfl⟩, fun w => by simp [binOp, Op.intCmp, ← this, le_not]⟩
  · cases h
theorem aun_run {op : UnOp} {x v : AV} {y : Value} (h : aun op x = some v) (hx : VR ρ x y) : ∃ u, VR ρ v u ∧ ∀ w, (Op.unary op y).run P w = .ok u w := by
  unfold aun at h
  split at h
  · unfold VR at hx; subst hx
    simp only [Option.some.injEq] at h; subst h
    refine ⟨_, by unfold VR; rfl, fun w => ?_⟩
    simp [Op.unary, Op.intArith]
  · unfold VR at hx; subst hx
    simp only [Option.some.injEq] at h; subst h
    refine ⟨_, by unfold VR; rfl, fun w => ?_⟩
    simp [Op.unary, Op.intBits]
  · unfold VR at hx; subst hx
    simp only [Option.some.injEq] at h; subst h
    exact ⟨_, by unfold VR; rfl, fun w => rfl⟩
  · cases h
omit [Nums] in
theorem fields_of {t : TypeId} {fs : Array Field} (h : P.underlying t = some (.struct fs)) : P.fieldsOf t = fs := by simp [Program.fieldsOf, h]
/-- == -/
def EqR (P : Program) (ρ : Ren) (d : Nat) (rec : TypeId → AV → AV → Option Bool) : Prop :=
  ∀ t x y b u v, rec t x y = some b → VR ρ x u → VR ρ y v → ∀ w, (Op.equalIn d t u v).run P w = .ok b w
theorem aeqF_sound {d : Nat} {rec : TypeId → AV → AV → Option Bool} (hrec : EqR P ρ d rec) {xs ys : List AV} {a b : Array Value} (ha : VRs ρ xs a.toList) (hb : VRs ρ ys b.toList) :
    ∀ (fs : List Field) (r : Bool), aeqF P rec xs ys fs = some r → ∀ w, (Op.eqFields d a b fs).run P w = .ok r w
  | [], r, h, w => by simp [aeqF] at h; subst h; simp [Op.eqFields]
  | f :: fs, r, h, w => by
    unfold aeqF at h
    split at h
    · cases h
    · rename_i hn
      have hn : f.name ≠ "_" := by simpa using hn
      split at h
      · cases h
      · rename_i u hu
        split at h
        · cases h
        · rename_i v hv
          obtain ⟨x, hx, hxr⟩ := part_sound hu ha
          obtain ⟨y, hy, hyr⟩ := part_sound hv hb
          split at h
          · cases h
          · rename_i he
            simp only [Option.some.injEq] at h; subst h
            have := hrec _ _ _ _ _ _ he hx hy w
            simp [Op.eqFields, hn, hxr w, hyr w, this]
          · rename_i he
            have := hrec _ _ _ _ _ _ he hx hy w
            have ih := aeqF_sound hrec ha hb fs r h w
            simp [Op.eqFields, hn, hxr w, hyr w, this, ih]
theorem aeq_sound : ∀ (d e : Nat), EqR P ρ (d + e) (aeq P d)
  | 0, _, t, x, y, b, u, v, h, _, _, _ => by simp [aeq] at h
  | d + 1, e, t, x, y, b, u, v, h, hx, hy, w => by
    rw [show d + 1 + e = (d + e) + 1 from by omega]
    unfold aeq at h
    split at h
    · rename_i hu
      split at h
      · unfold VR at hx hy; subst hx; subst hy; cases h
        exact run_equalIn_bool w _ t _ _ hu
      · cases h
    · rename_i k0 hu
      split at h
      · unfold VR at hx hy; subst hx; subst hy
        split at h
        · rename_i hk
          have hk := of_decide_eq_true hk
          subst hk; cases h
          exact run_equalIn_int w _ t _ _ _ _ hu
        · cases h
      · split at h <;> first | (cases h; done) | skip
        rename_i k a k' b h1 h2
        have e1 := toSE_ok h1 hx
        have e2 := toSE_ok h2 hy
        subst e1; subst e2
        split at h <;> first | (cases h; done) | skip
        rename_i hk
        have hk := of_decide_eq_true hk
        subst hk
        rw [← askEq_ok h]
        exact run_equalIn_int w _ t _ _ _ _ hu
    · rename_i e0 hu
      split at h
      · unfold VR at hx hy; subst hx; subst hy; cases h
        simp [Op.equalIn, run_underlying hu]
      · unfold VR at hx hy; subst hx; obtain ⟨_, _, _, rfl⟩ := hy; cases h
        simp [Op.equalIn, run_underlying hu]
      · unfold VR at hx hy; subst hy; obtain ⟨_, _, _, rfl⟩ := hx; cases h
        simp [Op.equalIn, run_underlying hu]
      · cases h
    · rename_i e0 hu
      split at h
      · unfold VR at hx hy; subst hx; subst hy; cases h
        simp [Op.equalIn, run_underlying hu]
      · unfold VR at hx hy; subst hx; obtain ⟨_, _, _, _, rfl, _⟩ := hy; cases h
        simp [Op.equalIn, run_underlying hu]
      · unfold VR at hx hy; subst hy; obtain ⟨_, _, _, _, rfl, _⟩ := hx; cases h
        simp [Op.equalIn, run_underlying hu]
      · unfold VR at hx hy; subst hx; obtain ⟨_, _, rfl⟩ := hy; cases h
        simp [Op.equalIn, run_underlying hu]
      · unfold VR at hx hy; subst hy; obtain ⟨_, _, rfl⟩ := hx; cases h
        simp [Op.equalIn, run_underlying hu]
      · cases h
    · rename_i e0 e1 hu
      split at h
      · unfold VR at hx hy; subst hx; subst hy; cases h
        simp [Op.equalIn, run_underlying hu]
      · unfold VR at hx hy; subst hx; obtain ⟨_, _, _, rfl⟩ := hy; cases h
        simp [Op.equalIn, run_underlying hu]
      · unfold VR at hx hy; subst hy; obtain ⟨_, _, _, rfl⟩ := hx; cases h
        simp [Op.equalIn, run_underlying hu]
      · cases h
    · rename_i e0 e1 e2 hu
      split at h
      · unfold VR at hx hy; subst hx; subst hy; cases h
        simp [Op.equalIn, run_underlying hu]
      · unfold VR at hx hy; subst hx; obtain ⟨_, _, rfl, _⟩ := hy; cases h
        simp [Op.equalIn, run_underlying hu]
      · unfold VR at hx hy; subst hy; obtain ⟨_, _, rfl, _⟩ := hx; cases h
        simp [Op.equalIn, run_underlying hu]
      · cases h
    · rename_i fs hu
      split at h
      · rename_i xs ys
        unfold VR at hx hy
        obtain ⟨a, rfl, ha⟩ := hx
        obtain ⟨b', rfl, hb⟩ := hy
        split at h
        · cases h
        · rename_i hst
          have hf := fields_of hu
          rw [run_equalIn_struct w _ t a b' (by rw [hf]; exact hu) hst, hf]
          exact aeqF_sound (aeq_sound d e) ha hb _ _ h w
      · cases h
    · cases h
theorem guard_run {op : BinOp} {t : TypeId} {x y : AV} {u v : Value} (h : guardOk P t x y = true) (hx : VR ρ x u) (hy : VR ρ y v) (ox oy : Operand) (w : World) : (eqGuard op t ox oy u v).run P w = .ok () w := by
  have key : ∀ (u v : Value), (∀ a b, u = .agg a → v = .agg b → False) → (u = .nilIface → v = .nilIface → False) → (eqGuard op t ox oy u v).run P w = .ok () w := by
    intro u v h1 h2
    unfold eqGuard
    cases op <;> first
      | rfl
      | (cases u <;> cases v <;> first
          | rfl
          | (exact (h1 _ _ rfl rfl).elim)
          | (exact (h2 rfl rfl).elim))
  have hagg : ∀ {z : AV} {q : Value} {c : Array Value}, VR ρ z q → q = .agg c → ∃ l, z = .agg l := by
    intro z q c hz hq
    subst hq
    cases z <;> simp [VR] at hz <;> exact ⟨_, rfl⟩
  have hnil : ∀ {z : AV} {q : Value}, VR ρ z q → q = .nilIface → z = .nilif := by
    intro z q hz hq
    subst hq
    cases z <;> simp [VR] at hz <;> rfl
  unfold guardOk at h
  split at h
  · rename_i l m
    split at h
    · cases h
    · rename_i hm
      unfold VR at hx hy
      obtain ⟨a, rfl, _⟩ := hx
      obtain ⟨b, rfl, _⟩ := hy
      exact run_eqGuard_agg w op t ox oy a b hm
  · cases h
  · rename_i h1 h2
    refine key u v ?_ ?_
    · intro a b ha hb
      obtain ⟨l, rfl⟩ := hagg hx ha
      obtain ⟨m, rfl⟩ := hagg hy hb
      exact h1 l m rfl rfl
    · intro ha hb
      exact h2 (hnil hx ha) (hnil hy hb)
end
end Go.Proofs.Ytigakendeghoaaa.Ex
