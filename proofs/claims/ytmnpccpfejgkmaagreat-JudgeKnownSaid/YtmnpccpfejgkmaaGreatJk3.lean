/-
  Texts of this claim, joined. No condition.
-/
import Derived.Test.YtmnpccpfejgkmaaGreatJk2
/-
  The runner: reads, and what makes a block. No condition.
-/
namespace Go.Proofs.YtmnpccpfejgkmaaGreat.Ex
open Go
variable [Nums]
section
variable {P : Program} {ρ ρ' : Ren}
omit [Nums] in
theorem getN_len {cs : T AV} : ∀ {n i : Nat} {l : List AV}, getN cs i n = some l → l.length = n
  | 0, _, l, h => by simp only [getN, Option.some.injEq] at h; subst h; rfl
  | n + 1, i, l, h => by
    unfold getN at h
    split at h <;> first | (cases h; done) | skip
    split at h <;> first | (cases h; done) | skip
    rename_i m hm
    simp only [Option.some.injEq] at h; subst h
    simp [getN_len hm]
def CellsOk (ρ : Ren) (cs : T AV) (cur : Array Value) : Prop := ∀ i v, cs.get i = some v → v.one = true ∧ ∃ y, cur[i]? = some y ∧ VR ρ v y
theorem getN_sound {cs : T AV} {cur : Array Value} (hc : CellsOk ρ cs cur) : ∀ {n i : Nat} {l : List AV}, getN cs i n = some l → ∃ ys : List Value, ys.length = n ∧ VRs ρ l ys ∧ (∀ (j : Nat) y, ys[j]? = some y → cur[i + j]? = some y) ∧ ∀ y ∈ ys, y.oneCell' = true
  | 0, _, l, h => by simp only [getN, Option.some.injEq] at h; subst h; exact ⟨[], rfl, VRs.nil, by simp, by simp⟩
  | n + 1, i, l, h => by
    unfold getN at h
    split at h <;> first | (cases h; done) | skip
    rename_i v hv
    split at h <;> first | (cases h; done) | skip
    rename_i m hm
    simp only [Option.some.injEq] at h; subst h
    obtain ⟨h1, y, hy, hr⟩ := hc _ _ hv
    obtain ⟨ys, hl, hrs, hg, ho⟩ := getN_sound hc hm
    refine ⟨y :: ys, by simp [hl], VRs.cons hr hrs, fun j z hz => ?_, fun z hz => ?_⟩
    · cases j with
      | zero => simp at hz; subst hz; simpa using hy
      | succ j =>
        have := hg j z (by simpa using hz)
        rwa [show Nat.add i 1 + j = i + (j + 1) from by show i + 1 + j = _; omega] at this
    · rcases List.mem_cons.1 hz with rfl | hz
      · exact hr.oneCell h1
      · exact ho z hz
omit [Nums] in
theorem setN_get : ∀ {l : List AV} {cs : T AV} {i j : Nat} {v : AV}, (setN cs i l).get j = some v → (i ≤ j ∧ j < i + l.length ∧ l[j - i]? = some v) ∨ ((j < i ∨ i + l.length ≤ j) ∧ cs.get j = some v)
  | [], cs, i, j, v, h => .inr ⟨by simp; omega, h⟩
  | x :: l, cs, i, j, v, h => by
    unfold setN at h
    rcases setN_get h with ⟨h1, h2, h3⟩ | ⟨h1, h2⟩
    · have h1 : i + 1 ≤ j := h1
      have h2 : j < i + 1 + l.length := h2
      refine .inl ⟨by omega, by simp; omega, ?_⟩
      have h3 : l[j - (i + 1)]? = some v := h3
      rw [show j - i = (j - (i + 1)) + 1 from by omega, List.getElem?_cons_succ]
      exact h3
    · have h1 : j < i + 1 ∨ i + 1 + l.length ≤ j := h1
      rcases T.get_put h2 with ⟨h3, h4⟩ | ⟨h3, h4⟩
      · subst h3
        refine .inl ⟨Nat.le_refl _, by simp, ?_⟩
        rw [Nat.sub_self]
        simpa using h4
      · refine .inr ⟨?_, h4⟩
        simp only [List.length_cons]
        omega
omit [Nums] in
theorem T.get_e {α : Type} (j : Nat) : (T.e : T α).get j = none := T.getP_e _
theorem cellsOf_or {l : List AV} {ys : List Value} (h : VRs ρ l ys) (h1 : allOne l = true) (e : TypeId) : OR ρ (cellsOf e l) ys.length (some (.cells ys.toArray e (0, 0))) := by
  refine ⟨ys.toArray, rfl, by simp, by rw [h.len]; exact Nat.le_refl _, fun i v hv => ?_⟩
  rcases setN_get hv with ⟨_, _, h3⟩ | ⟨_, h3⟩
  · rw [Nat.sub_zero] at h3
    refine ⟨allOne_mem h1 v (List.mem_of_getElem? h3), ?_⟩
    obtain ⟨y, hy, hr⟩ := h.get h3
    exact ⟨y, by simpa using hy, hr⟩
  · rw [T.get_e] at h3; cases h3

theorem toSE_sound {y : AV} {k : IntKind} {e : SE} {u : Value} (h : toSE y = some (k, e)) (hv : VR ρ y u) : u = .int k (e.ev Nums.σ) := by
  unfold toSE at h
  split at h <;> first | (cases h; done) | skip
  · simp only [Option.some.injEq, Prod.mk.injEq] at h
    obtain ⟨rfl, rfl⟩ := h
    exact hv.int_inv
  · simp only [Option.some.injEq, Prod.mk.injEq] at h
    obtain ⟨rfl, rfl⟩ := h
    unfold VR at hv
    exact hv
theorem lookE_sound {d k : IntKind} {e : SE} : ∀ {es : List (AV × AV)} {xs : List MapEntry} {r : Option (Nat × AV)} (idx : Nat), lookE k e es = some r → MR ρ es xs →
    (r = none ∧ Instr.findNow (.int d) (.int k (e.ev Nums.σ)) xs idx = some none) ∨ ∃ j v x, r = some (j, v) ∧ Instr.findNow (.int d) (.int k (e.ev Nums.σ)) xs idx = some (some (idx + j, x.val)) ∧ xs[j]? = some x ∧ x.key = .int k (e.ev Nums.σ) ∧ VR ρ v x.val
  | [], xs, r, idx, h, hm => by
    unfold lookE at h
    simp only [Option.some.injEq] at h; subst h
    have : xs = [] := hm
    subst this
    exact .inl ⟨rfl, rfl⟩
  | (a, v) :: es, xs, r, idx, h, hm => by
    obtain ⟨x, xs', rfl, h1, h2, h3⟩ := hm
    unfold lookE at h
    split at h <;> first | (cases h; done) | skip
    rename_i k' e' hse
    have hk := toSE_sound hse h1
    split at h <;> first | (cases h; done) | skip
    rename_i hkk
    have hkk := of_decide_eq_true hkk
    subst hkk
    split at h <;> first | (cases h; done) | skip
    · rename_i hq
      have hq := askEq_ok hq
      simp only [Option.some.injEq] at h; subst h
      have he : e.ev Nums.σ = e'.ev Nums.σ := eq_of_beq hq
      refine .inr ⟨0, v, x, rfl, ?_, rfl, by rw [hk, he], h2⟩
      simp [Instr.findNow, Instr.sameNow, hk, he]
    · rename_i hq
      have hq := askEq_ok hq
      have step : ∀ r', Instr.findNow (.int d) (.int k (e.ev Nums.σ)) xs' (idx + 1) = r' → Instr.findNow (.int d) (.int k (e.ev Nums.σ)) (x :: xs') idx = r' := fun r' hr' => by
        simp only [Instr.findNow, Instr.sameNow, hk, if_true, hq]
        exact hr'
      split at h
      · rename_i n u hn
        simp only [Option.some.injEq] at h; subst h
        rcases lookE_sound (d := d) (idx + 1) hn h3 with ⟨h4, _⟩ | ⟨j, v', x', h4, h5, h6, h7, h8⟩
        · cases h4
        · cases h4
          exact .inr ⟨n + 1, u, x', rfl, by rw [step _ h5, show idx + 1 + n = idx + (n + 1) by omega], by simpa using h6, h7, h8⟩
      · rename_i hne
        rcases lookE_sound (d := d) (idx + 1) h h3 with ⟨h4, h5⟩ | ⟨j, v', x', h4, h5, h6, h7, h8⟩
        · exact .inl ⟨h4, step _ h5⟩
        · exact absurd (h.trans (congrArg some h4)) (hne _ _)
theorem lookAV_sound {d : IntKind} {es : List (AV × AV)} {xs : List MapEntry} {y : AV} {y2 : Value} {r : Option (Nat × AV)} (h : lookAV es y = some r) (hm : MR ρ es xs) (hy : VR ρ y y2) :
    ∃ k i, y2 = .int k i ∧ ((r = none ∧ Instr.findNow (.int d) (.int k i) xs 0 = some none) ∨ ∃ j v x, r = some (j, v) ∧ Instr.findNow (.int d) (.int k i) xs 0 = some (some (j, x.val)) ∧ xs[j]? = some x ∧ x.key = .int k i ∧ VR ρ v x.val) := by
  unfold lookAV at h
  split at h <;> first | (cases h; done) | skip
  rename_i k e hse
  refine ⟨k, _, toSE_sound hse hy, ?_⟩
  rcases lookE_sound (d := d) 0 h hm with h1 | ⟨j, v, x, h1, h2, h3⟩
  · exact .inl h1
  · exact .inr ⟨j, v, x, h1, by rw [h2, Nat.zero_add], h3⟩
omit [Nums] in
theorem checkKey_int (b : Bool) (n : Nat) {kt : TypeId} {d k : IntKind} {i : Int} (hu : P.underlying kt = some (.int d)) (w : World) : (Instr.checkKey b (n + 1) kt (.int k i)).run P w = .ok () w := by
  unfold Instr.checkKey
  rw [Sem.run_bind, run_underlying hu w]
  rfl
omit [Nums] in
theorem findKey_run {es : List MapEntry} {kt : TypeId} {d k : IntKind} {i : Int} {r : Option (Nat × Value)} (hu : P.underlying kt = some (.int d)) (h : Instr.findNow (.int d) (.int k i) es 0 = some r) (w : World) :
    (Instr.findKey kt (.int k i) es).run P w = .ok r w := by
  unfold Instr.findKey
  rw [Sem.run_bind, run_underlying hu w]
  simp only [Result.andThen_ok, h]
  rfl
omit [Nums] in
theorem getObj_map {r : Nat} {w : World} {xs : Array MapEntry} {c : Nat} (h : w.heap[r]? = some (.map xs c)) : (getObj r).run P w = .ok (.map xs c) w := by
  simp only [getObj, Sem.run, h]
theorem litV1_sound {y : AV} {v x : Value} (h : litV1 y = some v) (hx : VR ρ y x) : x = v := by
  unfold litV1 at h
  split at h <;> first | (cases h; done) | skip
  · cases h; unfold VR at hx; exact hx
  · cases h; unfold VR at hx; exact hx
theorem litVs_sound : ∀ {l : List AV} {vs xs : List Value}, litVs l = some vs → VRs ρ l xs → xs = vs
  | [], vs, xs, h, hx => by
    unfold litVs at h
    cases h
    have := VRs.len hx
    exact List.length_eq_zero_iff.1 this.symm
  | v :: l, vs, xs, h, hx => by
    unfold litVs at h
    split at h <;> first | (cases h; done) | skip
    rename_i x hv
    split at h <;> first | (cases h; done) | skip
    rename_i ys hvs
    cases h
    obtain ⟨y, zs, rfl, h1, h2⟩ := hx.uncons
    rw [litV1_sound hv h1, litVs_sound hvs h2]
theorem litV_sound {y : AV} {v x : Value} (h : litV y = some v) (hx : VR ρ y x) : x = v := by
  unfold litV at h
  split at h <;> first | (cases h; done) | skip
  split at h <;> first | (cases h; done) | skip
  rename_i vs hvs
  cases h
  unfold VR at hx
  obtain ⟨a, rfl, ha⟩ := hx
  have := litVs_sound hvs ha
  subst this
  rfl
theorem litEq_go : ∀ {a b : List AV} {ys zs : List Value}, litEq.go a b = true → VRs ρ a ys → VRs ρ b zs → ys = zs
  | [], [], ys, zs, _, h1, h2 => by
    have := VRs.len h1
    have e1 := List.length_eq_zero_iff.1 this.symm
    have := VRs.len h2
    have e2 := List.length_eq_zero_iff.1 this.symm
    rw [e1, e2]
  | x :: a, y :: b, ys, zs, h, h1, h2 => by
    unfold litEq.go at h
    split at h <;> first | (cases h; done) | skip
    · rename_i e1 e2
      cases e1
    · rename_i k n a' k' n' b' e1 e2
      cases e1
      cases e2
      rw [Bool.and_eq_true, Bool.and_eq_true] at h
      obtain ⟨hk, hn, hr⟩ := h
      obtain ⟨u, us, rfl, g1, g2⟩ := h1.uncons
      obtain ⟨v, vs, rfl, g3, g4⟩ := h2.uncons
      unfold VR at g1 g3
      rw [g1, g3, of_decide_eq_true hk, eq_of_beq hn, litEq_go hr g2 g4]
  | [], _ :: _, _, _, h, _, _ => by unfold litEq.go at h; cases h
  | x :: _, [], _, _, h, _, _ => by cases x <;> (unfold litEq.go at h; cases h)
theorem litEq_sound {x y : AV} {u v : Value} (h : litEq y x = true) (hy : VR ρ y v) (hx : VR ρ x u) : u = v := by
  unfold litEq at h
  split at h <;> first | (cases h; done) | skip
  unfold VR at hx hy
  obtain ⟨a, rfl, ha⟩ := hy
  obtain ⟨b, rfl, hb⟩ := hx
  have := litEq_go h ha hb
  rw [Array.ext' this]
omit [Nums] in
theorem findAsk_cons {kt : TypeId} {k : Value} {e : MapEntry} {es : List MapEntry} {i : Nat} {b : Bool} (w : World) (h : (Op.equal kt k e.key).run P w = .ok b w) :
    (Instr.findAsking kt k (e :: es) i).run P w = if b then .ok (some (i, e.val)) w else (Instr.findAsking kt k es (i + 1)).run P w := by
  rw [Instr.findAsking, Sem.run_bind, h, Result.andThen_ok]
  cases b <;> rfl
theorem lookA_sound {kt : TypeId} {y : AV} {y2 : Value} (hy : VR ρ y y2) : ∀ {es : List (AV × AV)} {xs : List MapEntry} {r : Option (Nat × AV)} (idx : Nat), lookA P litEq kt y es = some r → MR ρ es xs →
    (r = none ∧ ∀ w, (Instr.findAsking kt y2 xs idx).run P w = .ok none w) ∨ ∃ j v x, r = some (j, v) ∧ (∀ w, (Instr.findAsking kt y2 xs idx).run P w = .ok (some (idx + j, x.val)) w) ∧ xs[j]? = some x ∧ x.key = y2 ∧ VR ρ v x.val
  | [], xs, r, idx, h, hm => by
    unfold lookA at h
    simp only [Option.some.injEq] at h; subst h
    have : xs = [] := hm
    subst this
    exact .inl ⟨rfl, fun w => rfl⟩
  | (a, v) :: es, xs, r, idx, h, hm => by
    obtain ⟨x, xs', rfl, h1, h2, h3⟩ := hm
    unfold lookA at h
    split at h <;> first | (cases h; done) | skip
    · rename_i hq
      have hq := fun w => aeq_sound (P := P) (ρ := ρ) 40 9960 _ _ _ _ _ _ hq hy h1 w
      split at h <;> first | (cases h; done) | skip
      rename_i hl
      simp only [Option.some.injEq] at h; subst h
      exact .inr ⟨0, v, x, rfl, fun w => by rw [findAsk_cons w (hq w)]; rfl, rfl, litEq_sound hl hy h1, h2⟩
    · rename_i hq
      have hq := fun w => aeq_sound (P := P) (ρ := ρ) 40 9960 _ _ _ _ _ _ hq hy h1 w
      have step : ∀ w, (Instr.findAsking kt y2 (x :: xs') idx).run P w = (Instr.findAsking kt y2 xs' (idx + 1)).run P w := fun w => by rw [findAsk_cons w (hq w)]; rfl
      split at h
      · rename_i n u hn
        simp only [Option.some.injEq] at h; subst h
        rcases lookA_sound hy (idx + 1) hn h3 with ⟨h4, _⟩ | ⟨j, v', x', h4, h5, h6, h7, h8⟩
        · cases h4
        · cases h4
          exact .inr ⟨n + 1, u, x', rfl, fun w => by rw [step w, h5 w, show idx + 1 + n = idx + (n + 1) by omega], by simpa using h6, h7, h8⟩
      · rename_i hne
        rcases lookA_sound hy (idx + 1) h h3 with ⟨h4, h5⟩ | ⟨j, v', x', h4, h5, h6, h7, h8⟩
        · exact .inl ⟨h4, fun w => (step w).trans (h5 w)⟩
        · exact absurd (h.trans (congrArg some h4)) (hne _ _)
omit [Nums] in
theorem sameBits_int (n : Nat) (k : IntKind) (i : Int) : Instr.sameBits n (.int k i) (.int k i) = true := by
  cases n <;> simp [Instr.sameBits]
omit [Nums] in
theorem sameBits_all (n : Nat) : ∀ {l : List AV} {vs : List Value}, litVs l = some vs → (vs.zip vs).all (fun p => Instr.sameBits n p.1 p.2) = true
  | [], vs, h => by unfold litVs at h; cases h; rfl
  | v :: l, vs, h => by
    unfold litVs at h
    split at h <;> first | (cases h; done) | skip
    rename_i x hv
    split at h <;> first | (cases h; done) | skip
    rename_i ys hvs
    cases h
    have h1 : Instr.sameBits n x x = true := by
      unfold litV1 at hv
      split at hv <;> first | (cases hv; done) | skip
      · cases hv; cases n <;> simp [Instr.sameBits]
      · cases hv; exact sameBits_int _ _ _
    simp only [List.zip_cons_cons, List.all_cons, h1, Bool.true_and]
    exact sameBits_all n hvs
omit [Nums] in
theorem sameBits_lits (n : Nat) {y : AV} {v : Value} (h : litV y = some v) : Instr.sameBits (n + 1) v v = true := by
  unfold litV at h
  split at h <;> first | (cases h; done) | skip
  split at h <;> first | (cases h; done) | skip
  rename_i vs hvs
  cases h
  simp only [Instr.sameBits, beq_self_eq_true, Bool.true_and]
  exact sameBits_all n hvs
/-- what a look for a key comes to -/
theorem lookM_sound {kt : TypeId} {es : List (AV × AV)} {xs : List MapEntry} {y : AV} {y2 : Value} {r : Option (Nat × AV)} (h : lookM P kt es y = some r) (hm : MR ρ es xs) (hy : VR ρ y y2) :
    (∀ b w, (Instr.checkKey b 10000 kt y2).run P w = .ok () w) ∧ (∀ w, (Instr.keyThatStays y2 y2).run P w = .ok y2 w) ∧
    ((r = none ∧ ∀ w, (Instr.findKey kt y2 xs).run P w = .ok none w) ∨ ∃ j v x, r = some (j, v) ∧ (∀ w, (Instr.findKey kt y2 xs).run P w = .ok (some (j, x.val)) w) ∧ xs[j]? = some x ∧ x.key = y2 ∧ VR ρ v x.val) := by
  unfold lookM at h
  split at h <;> first | (cases h; done) | skip
  · rename_i d hku
    obtain ⟨k, i, rfl, hf⟩ := lookAV_sound (d := d) h hm hy
    refine ⟨fun b w => checkKey_int b 9999 hku w, fun w => ?_, ?_⟩
    · unfold Instr.keyThatStays
      rw [sameBits_int, if_pos rfl]
      rfl
    · rcases hf with ⟨h1, h2⟩ | ⟨j, v, x, h1, h2, h3, h4, h5⟩
      · exact .inl ⟨h1, fun w => findKey_run hku h2 w⟩
      · exact .inr ⟨j, v, x, h1, fun w => findKey_run hku h2 w, h3, h4, h5⟩
  · rename_i fs hku
    split at h <;> first | (cases h; done) | skip
    rename_i hk
    unfold keyA at hk
    split at hk <;> first | (cases hk; done) | skip
    rename_i v0 hv0
    have e0 := litV_sound hv0 hy
    subst e0
    rw [Bool.and_eq_true, Bool.and_eq_true] at hk
    obtain ⟨k1, k2, k3⟩ := hk
    obtain ⟨la, hla⟩ := Option.isSome_iff_exists.1 k3
    have hfk : ∀ r', (∀ w, (Instr.findAsking kt y2 xs 0).run P w = .ok r' w) → ∀ w, (Instr.findKey kt y2 xs).run P w = .ok r' w := fun r' hr' w => by
      unfold Instr.findKey
      rw [Sem.run_bind, run_underlying hku w, Result.andThen_ok]
      cases xs with
      | nil =>
        have := hr' w
        simpa [Instr.findNow, Instr.findAsking] using this
      | cons e es' =>
        have hn : Instr.findNow (.struct fs) y2 (e :: es') 0 = none := by simp [Instr.findNow, Instr.sameNow]
        rw [hn]
        exact hr' w
    refine ⟨fun b w => run_checkKey_deep b 9980 20 kt k1 w 20 y2 la k2 hla, fun w => ?_, ?_⟩
    · unfold Instr.keyThatStays
      rw [show Instr.sameBits 10000 y2 y2 = true from sameBits_lits 9999 hv0, if_pos rfl]
      rfl
    · rcases lookA_sound hy 0 h hm with ⟨h1, h2⟩ | ⟨j, v, x, h1, h2, h3, h4, h5⟩
      · exact .inl ⟨h1, hfk _ h2⟩
      · exact .inr ⟨j, v, x, h1, hfk _ (fun w => by rw [h2 w, Nat.zero_add]), h3, h4, h5⟩
theorem MR.len : ∀ {es : List (AV × AV)} {xs : List MapEntry}, MR ρ es xs → es.length = xs.length
  | [], xs, h => by have : xs = [] := h; subst this; rfl
  | _ :: es, xs, h => by
    obtain ⟨e, xs', rfl, _, _, h3⟩ := h
    simp [MR.len h3]
/-! records -/
omit [Nums] in
theorem CK.one (k : CK) (n : Int) : (k.val n).oneCell' = true := by cases k <;> rfl
theorem ofCK_rel (k : CK) (e : SE) : VR ρ (ofCK k e) (k.val (e.ev Nums.σ)) := by
  cases k with
  | int k => unfold ofCK VR CK.val; rfl
  | bool =>
    unfold ofCK VR CK.val Cnd.ev
    simp only [SE.ev]
    cases h : (e.ev Nums.σ == 0) <;> rfl
omit [Nums] in
theorem ofCK_one (k : CK) (e : SE) : (ofCK k e).one = true := by cases k <;> rfl
omit [Nums] in
theorem aggT_row {t : TypeId} (h : aggT P t = some true) : ∃ d, P.underlying t = some d ∧ d.isRow = true := by
  unfold aggT at h
  split at h
  · rename_i hu; exact ⟨_, hu, rfl⟩
  · rename_i hu; exact ⟨_, hu, rfl⟩
  · cases h
  · cases h
theorem atE_ev {e : SE} {j : Nat} (he : e.ev Nums.σ ≥ 0) : ∀ l : SE, (atE e j l).ev Nums.σ = l.evA Nums.σ (e.ev Nums.σ).toNat j
  | .lset l x k v => by
    have ih := atE_ev (j := j) he l
    unfold atE
    simp only [SE.evA]
    split
    · rename_i hjk
      have hjk : j ≠ k := Nat.ne_of_beq_eq_false hjk
      rw [ih, if_neg (by omega)]
    · rename_i hjk
      have hjk : j = k := Nat.eq_of_beq_eq_true hjk
      split
      · rename_i hq
        have hq := eq_of_beq (askEq_ok hq)
        rw [hq, if_pos ⟨rfl, hjk⟩]
      · rename_i hq
        have hq := ne_of_beq_false (askEq_ok hq)
        split
        · rename_i hx
          have hx := of_decide_eq_false (askLt_ok hx)
          simp only [SE.ev] at hx
          rw [ih, if_neg (by omega)]
        · simp only [SE.ev, SE.evA]
      · simp only [SE.ev, SE.evA]
  | .lvar _ | .lsnoc _ _ | .rcons _ _ | .rnil | .at _ _ _ | .len _ | .var _ | .lit _ | .bin _ _ _ | .ubin _ _ _ | .cv _ _ => by simp only [atE, SE.ev]
  | .rep _ => by simp only [atE, SE.ev, SE.evA]
theorem recGet_sound {l e : SE} {ks : List CK} {cur : Array Value} (he : e.ev Nums.σ ≥ 0) (hcur : ∀ j k, ks[j]? = some k → cur[(e.ev Nums.σ).toNat * ks.length + j]? = some (k.val (l.evA Nums.σ (e.ev Nums.σ).toNat j))) :
    ∀ {n j : Nat} {r : List AV}, recGet l e ks j n = some r → ∃ ys : List Value, ys.length = n ∧ VRs ρ r ys ∧ ∀ (i : Nat) y, ys[i]? = some y → cur[(e.ev Nums.σ).toNat * ks.length + j + i]? = some y
  | 0, j, r, h => by
    simp only [recGet, Option.some.injEq] at h
    subst h
    exact ⟨[], rfl, VRs.nil, by simp⟩
  | n + 1, j, r, h => by
    unfold recGet at h
    split at h <;> first | (cases h; done) | skip
    rename_i k hk
    split at h <;> first | (cases h; done) | skip
    rename_i r' hr
    simp only [Option.some.injEq] at h
    subst h
    obtain ⟨ys, h1, h2, h3⟩ := recGet_sound he hcur hr
    refine ⟨k.val (l.evA Nums.σ (e.ev Nums.σ).toNat j) :: ys, by simp [h1], VRs.cons ?_ h2, fun i y hy => ?_⟩
    · have := ofCK_rel (ρ := ρ) k (atE e j l)
      rwa [atE_ev he] at this
    · cases i with
      | zero =>
        simp only [List.getElem?_cons_zero, Option.some.injEq] at hy
        subst hy
        exact hcur j k hk
      | succ i =>
        have := h3 i y (by simpa using hy)
        rwa [show (e.ev Nums.σ).toNat * ks.length + Nat.add j 1 + i = (e.ev Nums.σ).toNat * ks.length + j + (i + 1) from by show _ + (j + 1) + i = _; omega] at this
theorem recLoad_sound {t : TypeId} {b : Bool} {s : Nat} {l e : SE} {ks : List CK} {j blk : Nat} {v : AV} {w : World} {z : Nat} {et : TypeId} (hb : aggT P t = some b) (hs : sizeT P t = some s) (h : recLoad b s l e ks j = some v)
    (hO : OR ρ (.recs l ks et) z w.heap[blk]?) {off : Nat} (hoff : off = (e.ev Nums.σ).toNat * ks.length + j) : ∃ x, VR ρ v x ∧ (loadVar t ⟨blk, off, none⟩).run P w = .ok x w := by
  subst hoff
  obtain ⟨cur, hcur, hsz, hle, hat⟩ := hO
  unfold recLoad at h
  split at h <;> first | (cases h; done) | skip
  rename_i hw
  obtain ⟨w1, w2⟩ := within_ok hw
  rw [lenE_ev] at w2
  have hr : (e.ev Nums.σ).toNat < l.evN Nums.σ := by omega
  split at h
  · split at h <;> first | (cases h; done) | skip
    rename_i r hg
    simp only [Option.some.injEq] at h
    subst h
    obtain ⟨ys, h1, h2, h3⟩ := recGet_sound (ρ := ρ) (cur := cur) w1 (fun j k hk => hat _ j k hr hk) hg
    have hrange : w.rangeAt blk ((e.ev Nums.σ).toNat * ks.length + j) ys := fun i y hy => by
      have := h3 i y hy
      simp [World.cell?, hcur, this]
    obtain ⟨d, hu, hd⟩ := aggT_row hb
    have := run_loadAt_mid (P := P) w blk ((e.ev Nums.σ).toNat * ks.length + j) t ys d hrange hu hd (by rw [sizeT_info hs, h1])
    refine ⟨.agg ys.toArray, by unfold VR; exact ⟨_, rfl, by simpa using h2⟩, ?_⟩
    simpa [Instr.loadAt, Instr.sureAddr] using this
  · split at h <;> first | (cases h; done) | skip
    rename_i k hk
    simp only [Option.some.injEq] at h
    subst h
    refine ⟨k.val (l.evA Nums.σ (e.ev Nums.σ).toNat j), ?_, ?_⟩
    · have := ofCK_rel (ρ := ρ) k (atE e j l)
      rwa [atE_ev w1] at this
    · have hc : w.cell? ⟨blk, (e.ev Nums.σ).toNat * ks.length + j, none⟩ = some (k.val (l.evA Nums.σ (e.ev Nums.σ).toNat j)) := by
        simp [World.cell?, hcur, hat _ j k hr hk]
      simp [loadVar, aggT_run hb w, hc]
omit [Nums] in
theorem recAt_eq {ks : List CK} (off : Nat) : off = (recAt ks off).1 * ks.length + (recAt ks off).2 := by
  unfold recAt
  show off = off / ks.length * ks.length + off % ks.length
  rw [Nat.mul_comm]
  exact (Nat.div_add_mod _ _).symm
omit [Nums] in
theorem getObj_iterH {r : Nat} {w : World} {m : Option Nat} {since last : Nat} {seen : Array Nat} (h : w.heap[r]? = some (.mapIter m since seen last)) : (getObj r).run P w = .ok (.mapIter m since seen last) w := by
  simp [getObj, Sem.run, h]
omit [Nums] in
theorem lastOf_back : ∀ {l : List Nat} {b : Nat}, lastOf l = some b → l.getLast? = some b
  | a :: l, b, h => by
    unfold lastOf at h
    split at h
    · rename_i c hc
      have := lastOf_back hc
      cases l with
      | nil => cases this
      | cons x l => rw [List.getLast?_cons_cons, this]; exact h
    · rename_i hc
      cases l with
      | nil => exact h
      | cons x l =>
        unfold lastOf at hc
        split at hc <;> cases hc
theorem atStamp_sound {b : Nat} {k v : AV} : ∀ {es : List (AV × AV)} {bs : List Nat} {xs : List MapEntry}, atStamp b es bs = some (k, v) → MR ρ es xs → xs.map (·.born) = bs → ∃ e, xs.find? (·.born == b) = some e ∧ VR ρ k e.key ∧ VR ρ v e.val
  | p :: es, c :: bs, xs, h, hm, hb => by
    obtain ⟨e, xs', rfl, h1, h2, h3⟩ := hm
    rw [List.map_cons, List.cons.injEq] at hb
    obtain ⟨rfl, hb⟩ := hb
    unfold atStamp at h
    split at h
    · rename_i hc
      have hc := Nat.eq_of_beq_eq_true hc
      simp only [Option.some.injEq] at h
      subst h
      refine ⟨e, ?_, h1, h2⟩
      rw [List.find?_cons, show (e.born == b) = true by simpa using hc]
    · rename_i hc
      have hc := Nat.ne_of_beq_eq_false hc
      obtain ⟨e', h4, h5⟩ := atStamp_sound h h3 hb
      refine ⟨e', ?_, h5⟩
      rw [List.find?_cons, show (e.born == b) = false by simpa using hc]
      exact h4
  | [], _, _, h, _, _ => by simp [atStamp] at h
  | _ :: _, [], _, h, _, _ => by simp [atStamp] at h
theorem read_sound {o : Oper} {a : Act} {vs : List AV} {v : AV} {h : AH} {nx : Nat} {w : World} (hr : HR ρ h.get nx w) (hread : aread P o.op vs h = some v) (hv : VRs ρ vs (o.op.operands.toList.map a.eval)) :
    ∃ x, VR ρ v x ∧ (execOp a.eval o).run P w = .ok (.value x) w := by
  unfold execOp
  generalize o.op = op at hread hv
  cases op with
  | load t p =>
    simp only [aread] at hread
    split at hread <;> first | (cases hread; done) | skip
    case h_2 =>
      rename_i n e z j
      split at hread <;> first | (cases hread; done) | skip
      rename_i l ks et hg
      split at hread <;> first | (cases hread; done) | skip
      rename_i hz
      have hz := Nat.eq_of_beq_eq_true hz
      subst hz
      split at hread <;> first | (cases hread; done) | skip
      rename_i bb hagg
      split at hread <;> first | (cases hread; done) | skip
      rename_i s hs
      obtain ⟨y, hy, hp⟩ := hv.one
      simp [Op.operands] at hy
      unfold VR at hp
      obtain ⟨b, z, hb, rfl⟩ := hp
      obtain ⟨b', s', hb', hO⟩ := hr.obj _ _ hg
      rw [hb] at hb'
      cases hb'
      obtain ⟨x, hx, hrun⟩ := recLoad_sound hagg hs hread hO rfl
      exact ⟨x, hx, by simp [hy, Instr.loadAt, Instr.sureAddr, hrun]⟩
    case h_3 =>
      rename_i i e
      split at hread <;> first | (cases hread; done) | skip
      rename_i hagg
      split at hread <;> first | (cases hread; done) | skip
      rename_i k hk
      simp only [Option.some.injEq] at hread; subst hread
      obtain ⟨y, hy, hp⟩ := hv.one
      simp [Op.operands] at hy
      unfold VR at hp
      obtain ⟨A, len, c, hro, rfl, hlt⟩ := hp
      have hc := ((hr.rl i k (some A) len c hk hro).2 A rfl (by omega)).2 _ hlt
      refine ⟨k.val (Nums.σ (lc i (e.ev Nums.σ).toNat 0)), ?_, ?_⟩
      · have := ofCK_rel (ρ := ρ) k (.at (.lvar i) e 0)
        simpa only [SE.ev, SE.evA] using this
      · simp [hy, Instr.loadAt, Instr.sureAddr, loadVar, aggT_run hagg w, hc]
    case h_4 =>
      rename_i b off
      split at hread <;> first | (cases hread; done) | skip
      rename_i l hl
      split at hread <;> first | (cases hread; done) | skip
      rename_i hagg
      split at hread <;> first | (cases hread; done) | skip
      rename_i c hc
      simp only [Option.some.injEq] at hread; subst hread
      obtain ⟨y, hy, hp⟩ := hv.one
      simp [Op.operands] at hy
      unfold VR at hp
      subst hp
      obtain ⟨e, q, hcur⟩ := hr.gl b l hl
      refine ⟨.int .i64 c, by unfold VR; rfl, ?_⟩
      have hc' : w.cell? ⟨b, off, none⟩ = some (.int .i64 c) := by simp [World.cell?, hcur, hc]
      simp [hy, Instr.loadAt, Instr.sureAddr, loadVar, aggT_run hagg w, hc']
    rename_i n off
    split at hread <;> first | (cases hread; done) | skip
    rotate_left
    · rename_i l ks et hg
      split at hread <;> first | (cases hread; done) | skip
      rename_i bb hagg
      split at hread <;> first | (cases hread; done) | skip
      rename_i s hs
      split at hread <;> first | (cases hread; done) | skip
      obtain ⟨y, hy, hp⟩ := hv.one
      simp [Op.operands] at hy
      obtain ⟨b, z, hb, rfl⟩ := hp.ptr_inv
      obtain ⟨b', s', hb', hO⟩ := hr.obj _ _ hg
      rw [hb] at hb'
      cases hb'
      obtain ⟨x, hx, hrun⟩ := recLoad_sound (off := off) hagg hs hread hO (by simp only [SE.ev]; exact recAt_eq off)
      exact ⟨x, hx, by simp [hy, Instr.loadAt, Instr.sureAddr, hrun]⟩
    rename_i cs k e hg
    obtain ⟨y, hy, hp⟩ := hv.one
    simp [Op.operands] at hy
    obtain ⟨b, s, hb, rfl⟩ := hp.ptr_inv
    obtain ⟨b', s', hb', hO⟩ := hr.obj _ _ hg
    rw [hb] at hb'
    cases hb'
    obtain ⟨cur, hcur, hs, hk, hcells⟩ := hO
    split at hread
    · rename_i hagg
      split at hread <;> first | (cases hread; done) | skip
      rename_i sz hsz
      split at hread <;> first | (cases hread; done) | skip
      rename_i l hl
      simp only [Option.some.injEq] at hread; subst hread
      obtain ⟨ys, hyl, hrs, hat, _⟩ := getN_sound hcells hl
      refine ⟨.agg ys.toArray, by unfold VR; exact ⟨_, rfl, by simpa using hrs⟩, ?_⟩
      have hrange : w.rangeAt b off ys := fun j z hz => by
        have := hat j z hz
        simp [World.cell?, hcur, this]
      obtain ⟨d, hu, hd⟩ : ∃ d, P.underlying t = some d ∧ d.isRow = true := by
        unfold aggT at hagg
        split at hagg
        · rename_i hu; exact ⟨_, hu, rfl⟩
        · rename_i hu; exact ⟨_, hu, rfl⟩
        · cases hagg
        · cases hagg
      have := run_loadAt_mid (P := P) w b off t ys d hrange hu hd (by rw [sizeT_info hsz, hyl])
      simp [hy, this]
    · rename_i hagg
      obtain ⟨h1, z, hz, hzr⟩ := hcells _ _ hread
      refine ⟨z, hzr, ?_⟩
      have hc : w.cell? ⟨b, off, none⟩ = some z := by simp [World.cell?, hcur, hz]
      simp [hy, Instr.loadAt, Instr.sureAddr, loadVar, aggT_run hagg w, hc]
    · cases hread
  | lookup t m ix ok =>
    simp only [aread] at hread
    split at hread <;> first | (cases hread; done) | skip
    rename_i kt e hu
    split at hread <;> first | (cases hread; done) | skip
    rename_i x y
    obtain ⟨y1, y2, hy, hr1, hr2⟩ := hv.two
    simp [Op.operands] at hy
    obtain ⟨e1, e2⟩ := hy
    split at hread <;> first | (cases hread; done) | skip
    rename_i es hes
    have hcase : ∃ xs : Array MapEntry, MR ρ es xs.toList ∧ ((y1 = .map none ∧ xs = #[]) ∨ ∃ b c, y1 = .map (some b) ∧ w.heap[b]? = some (.map xs c)) := by
      split at hes
      · simp only [Option.some.injEq] at hes; subst hes
        unfold VR at hr1
        subst hr1
        exact ⟨#[], rfl, .inl ⟨rfl, rfl⟩⟩
      · rename_i n
        split at hes <;> first | (cases hes; done) | skip
        rename_i es' bs' ck' hg
        simp only [Option.some.injEq] at hes; subst hes
        unfold VR at hr1
        obtain ⟨b, s, hb, rfl⟩ := hr1
        obtain ⟨b', s', hb', hO⟩ := hr.obj _ _ hg
        rw [hb] at hb'
        cases hb'
        obtain ⟨xs, hx, hm, -⟩ := hO
        exact ⟨xs, hm, .inr ⟨b, _, rfl, hx⟩⟩
      · cases hes
    obtain ⟨xs, hm, hcase⟩ := hcase
    obtain ⟨r0, hl0⟩ : ∃ r0, lookM P kt es y = some r0 := by
      cases hl : lookM P kt es y with
      | none => rw [hl] at hread; cases hread
      | some r => exact ⟨r, rfl⟩
    obtain ⟨hck0, -, hfound⟩ := lookM_sound hl0 hm hr2
    have run_all : ∀ {r : Option (Nat × Value)}, (∀ w, (Instr.findKey kt y2 xs.toList).run P w = .ok r w) →
        (Instr.lookup t y1 y2 ok).run P w = (match r with | some (_, v) => (Result.ok (v, true) w) | none => ((zeroValue e).run P w).andThen fun z w' => .ok (z, false) w').andThen fun p w' => .ok (if ok then .tuple #[p.1, .bool p.2] else p.1) w' := by
      intro r hf
      have hck := hck0 xs.isEmpty w
      have hfk := hf w
      unfold Instr.lookup
      rcases hcase with ⟨rfl, rfl⟩ | ⟨b, c, rfl, hx⟩
      · simp only [Sem.run_bind, run_underlying hu w, Result.andThen_ok, Sem.run_pure, hck, hfk]
        cases r with
        | none => cases hz : (zeroValue e).run P w <;> simp [hz]
        | some p => simp
      · simp only [Sem.run_bind, run_underlying hu w, Result.andThen_ok, Sem.run_pure, getObj_map hx, hck, hfk]
        cases r with
        | none => cases hz : (zeroValue e).run P w <;> simp [hz]
        | some p => simp
    split at hread <;> first | (cases hread; done) | skip
    · rename_i j0 v0 hl
      rw [hl0] at hl
      cases hl
      rcases hfound with ⟨h1, _⟩ | ⟨j, v', xe, h1, h2, -, -, h3⟩
      · cases h1
      · cases h1
        obtain ⟨x', hx'⟩ : ∃ x', xe.val = x' := ⟨_, rfl⟩
        simp only [hx'] at h2 h3
        have := run_all h2
        split at hread <;> (simp only [Option.some.injEq] at hread; subst hread)
        · refine ⟨.tuple #[x', .bool true], by unfold VR; exact ⟨_, rfl, VRs.cons h3 (VRs.cons (by unfold VR; rfl) VRs.nil)⟩, ?_⟩
          simp [e1, e2, this]
        · refine ⟨x', h3, ?_⟩
          simp [e1, e2, this]
    · rename_i hl
      rw [hl0] at hl
      cases hl
      rcases hfound with ⟨_, h2⟩ | ⟨j, v', x', h1, _⟩
      · split at hread <;> first | (cases hread; done) | skip
        rename_i z hz
        obtain ⟨_, zv, _, _, hof, hzr⟩ := zeroT_run hz
        have hzv := ofV_sound ρ hof
        have := run_all h2
        simp only [hzr w, Result.andThen_ok] at this
        split at hread <;> (simp only [Option.some.injEq] at hread; subst hread)
        · refine ⟨.tuple #[zv, .bool false], by unfold VR; exact ⟨_, rfl, VRs.cons hzv (VRs.cons (by unfold VR; rfl) VRs.nil)⟩, ?_⟩
          simp [e1, e2, this]
        · refine ⟨zv, hzv, ?_⟩
          simp [e1, e2, this]
      · cases h1
  | call c =>
    simp only [aread] at hread
    obtain ⟨callee, args, argTypes⟩ := c
    cases callee with
    | builtin b =>
      have hop : (Op.call ⟨.builtin b, args, argTypes⟩).operands = args := by simp [Op.operands, Call.operands]
      rw [hop] at hv
      cases b <;> first
        | (cases hread; done)
        | skip
      dsimp only at hread
      split at hread <;> first | (cases hread; done) | skip
      rename_i x t hat
      obtain ⟨y, hy, hx⟩ := hv.one
      have hy' : (args.map a.eval)[0]? = some y := by
        rw [← Array.getElem?_toList, Array.toList_map, hy]; rfl
      have fin : ∀ {n : Int}, (Builtin.len_ argTypes o.type (args.map a.eval)).run P w = .ok (.int .i64 n) w → ∃ x, VR ρ (.int .i64 n) x ∧
          ((do let d ← resolve a.eval { callee := .builtin .len, args := args, argTypes := argTypes } o.type; invoke d.target d.args : Sem Next)).run P w = .ok (.value x) w := by
        intro n hn
        refine ⟨_, by unfold VR; rfl, ?_⟩
        simp [resolve, invoke, builtin, hn]
      have fin' : ∀ {e : SE}, (Builtin.len_ argTypes o.type (args.map a.eval)).run P w = .ok (.int .i64 (e.ev Nums.σ)) w → ∃ x, VR ρ (.sym .i64 e) x ∧
          ((do let d ← resolve a.eval { callee := .builtin .len, args := args, argTypes := argTypes } o.type; invoke d.target d.args : Sem Next)).run P w = .ok (.value x) w := by
        intro e hn
        refine ⟨_, by unfold VR; rfl, ?_⟩
        simp [resolve, invoke, builtin, hn]
      split at hread <;> first | (cases hread; done) | skip
      · rename_i e hu
        split at hread <;> first | (cases hread; done) | skip
        all_goals (simp only [Option.some.injEq] at hread; subst hread; unfold VR at hx)
        · subst hx
          exact fin (by simp [Builtin.len_, hat, hy', run_underlying hu w, goInt])
        · obtain ⟨_, _, rfl⟩ := hx
          exact fin (by simp [Builtin.len_, hat, hy', run_underlying hu w, goInt])
        · obtain ⟨_, _, rfl, _⟩ := hx
          exact fin (by simp [Builtin.len_, hat, hy', run_underlying hu w, goInt])
        · obtain ⟨_, l, _, rfl, _, _, hl⟩ := hx
          refine fin' ?_
          rw [hl]
          simp [Builtin.len_, hat, hy', run_underlying hu w, goInt]
        · obtain ⟨_, _, _, _, rfl, _⟩ := hx
          exact fin (by simp [Builtin.len_, hat, hy', run_underlying hu w, goInt])
        · obtain ⟨_, _, l, _, _, rfl, _, _, _, hl⟩ := hx
          refine fin' ?_
          rw [hl]
          simp [Builtin.len_, hat, hy', run_underlying hu w, goInt]
        · obtain ⟨_, _, _, _, rfl, _⟩ := hx
          exact fin (by simp [Builtin.len_, hat, hy', run_underlying hu w, goInt])
        · obtain ⟨_, l, _, _, rfl, _, _, hl, _⟩ := hx
          refine fin' ?_
          simp only [SE.ev, SE.evN, hl]
          simp [Builtin.len_, hat, hy', run_underlying hu w, goInt]
      · rename_i n e hu
        simp only [Option.some.injEq] at hread; subst hread
        exact fin (by simp [Builtin.len_, hat, hy', run_underlying hu w, goInt])
      · rename_i kt e hu
        split at hread <;> first | (cases hread; done) | skip
        · simp only [Option.some.injEq] at hread; subst hread
          unfold VR at hx
          subst hx
          exact fin (by simp [Builtin.len_, hat, hy', run_underlying hu w, goInt])
        · split at hread <;> first | (cases hread; done) | skip
          rename_i es bs ck hg
          simp only [Option.some.injEq] at hread; subst hread
          unfold VR at hx
          obtain ⟨b, s, hb, rfl⟩ := hx
          obtain ⟨b', s', hb', hO⟩ := hr.obj _ _ hg
          rw [hb] at hb'
          cases hb'
          obtain ⟨xs, hx, hm, -⟩ := hO
          have hln : es.length = xs.size := by simpa using hm.len
          exact fin (by simp [Builtin.len_, hat, hy', run_underlying hu w, goInt, getObj_map hx, hln])
    | _ => cases hread
  | entry it =>
    simp only [aread] at hread
    split at hread <;> first | (cases hread; done) | skip
    rename_i n
    split at hread <;> first | (cases hread; done) | skip
    rename_i m since seen last hg
    split at hread <;> first | (cases hread; done) | skip
    rename_i es bs ck hgm
    split at hread <;> first | (cases hread; done) | skip
    rename_i hck
    have hck := Nat.eq_of_beq_eq_true hck
    subst hck
    split at hread <;> first | (cases hread; done) | skip
    rename_i sb hsb
    split at hread <;> first | (cases hread; done) | skip
    rename_i k v' hat
    simp only [Option.some.injEq] at hread; subst hread
    obtain ⟨y, hy, hp⟩ := hv.one
    simp [Op.operands] at hy
    unfold VR at hp
    obtain ⟨b, s, hb, rfl⟩ := hp
    obtain ⟨b', s', hb', hO⟩ := hr.obj _ _ hg
    rw [hb] at hb'
    cases hb'
    obtain ⟨bm, sm, hbm, hx⟩ := hO
    obtain ⟨b', s', hb', hOm⟩ := hr.obj _ _ hgm
    rw [hbm] at hb'
    cases hb'
    obtain ⟨xs, hxm, hm, hbs⟩ := hOm
    obtain ⟨e, he, h1, h2⟩ := atStamp_sound hat hm hbs
    have hback : (seen.toArray).back? = some sb := by
      rw [List.back?_toArray]
      exact lastOf_back hsb
    have hfind : xs.find? (·.born == sb) = some e := by rw [← Array.find?_toList]; exact he
    refine ⟨.tuple #[e.key, e.val], by unfold VR; exact ⟨_, rfl, VRs.cons h1 (VRs.cons h2 VRs.nil)⟩, ?_⟩
    have : (Instr.entry (.pointer (some ⟨b, 0, none⟩))).run P w = .ok (.tuple #[e.key, e.val]) w := by
      unfold Instr.entry
      simp only [Sem.run_bind, getObj_iterH hx, Result.andThen_ok, hback, getObj_map hxm, bne_self_eq_false, Bool.false_eq_true, if_false, hfind, Sem.run_pure]
    simp [hy, this]
  | _ => simp [aread] at hread
end
end Go.Proofs.YtmnpccpfejgkmaaGreat.Ex

/-
  The runner: operations that make a block, or change one, or call. No condition.
-/
namespace Go.Proofs.YtmnpccpfejgkmaaGreat.Ex
open Go
variable [Nums]
section
variable {P : Program} {ρ ρ' : Ren}
omit [Nums] in
theorem rep_get : ∀ (n : Nat) (z : List Value) (i : Nat), i < n * z.length → (List.replicate n z).flatten[i]? = z[i % z.length]?
  | 0, z, i, h => by omega
  | n + 1, z, i, h => by
    rw [List.replicate_succ, List.flatten_cons]
    by_cases hi : i < z.length
    · rw [List.getElem?_append_left hi, Nat.mod_eq_of_lt hi]
    · rw [List.getElem?_append_right (by omega), rep_get n z (i - z.length) (by rw [Nat.succ_mul] at h; omega)]
      congr 1
      rw [← Nat.mod_eq_sub_mod (by omega)]
omit [Nums] in
theorem rep_len (n : Nat) (z : List Value) : (List.replicate n z).flatten.length = n * z.length := by
  induction n with
  | zero => simp
  | succ n ih => rw [List.replicate_succ, List.flatten_cons, List.length_append, ih, Nat.succ_mul]; omega
omit [Nums] in
theorem rows_eq (z : Array Value) (n : Nat) : ((Array.range (n * z.size)).map (z[· % z.size]!)).toList = (List.replicate n z.toList).flatten := by
  apply List.ext_getElem?
  intro i
  by_cases hi : i < n * z.size
  · have h0 : 0 < z.size := by
      rcases Nat.eq_zero_or_pos z.size with h | h
      · rw [h] at hi; simp at hi
      · exact h
    have hm : i % z.size < z.size := Nat.mod_lt _ h0
    have := rep_get n z.toList i (by simpa using hi)
    rw [this]
    simp [hi, hm, List.getElem?_eq_getElem]
  · have h1 := rep_len n z.toList
    rw [List.getElem?_eq_none (by simp; omega), List.getElem?_eq_none (by rw [h1]; simp; omega)]
omit [Nums] in
theorem allOne_append : ∀ {a b : List AV}, allOne a = true → allOne b = true → allOne (a ++ b) = true
  | [], _, _, hb => hb
  | x :: a, b, ha, hb => by
    unfold allOne at ha
    split at ha <;> first | (cases ha; done) | skip
    rename_i hx
    rw [List.cons_append]
    unfold allOne
    rw [hx]
    exact allOne_append ha hb
omit [Nums] in
theorem allOne_rep {z : List AV} (h : allOne z = true) : ∀ n, allOne (rep n z) = true
  | 0 => rfl
  | n + 1 => allOne_append h (allOne_rep h n)
theorem OR.notNone {o : AO} {s : Nat} (h : OR ρ o s none) : False := by
  cases o with
  | cells cs k e => obtain ⟨_, h1, _⟩ := h; cases h1
  | map es bs ck => obtain ⟨_, h1, _⟩ := h; cases h1
  | mit m since seen last => cases m with
    | none => cases h
    | some m => obtain ⟨_, _, _, h1⟩ := h; cases h1
  | opq i => obtain ⟨_, _, _, _, _, _, h1⟩ := h; cases h1
  | opb i n m => obtain ⟨_, _, _, _, _, _, _, h1, _⟩ := h; cases h1
  | recs l ks e => obtain ⟨_, h1, _⟩ := h; cases h1
omit [Nums] in
theorem flat_one {α : Type} (v : α) : ∀ c : Nat, (List.replicate c [v]).flatten = List.replicate c v
  | 0 => rfl
  | c + 1 => by rw [List.replicate_succ, List.flatten_cons, flat_one v c]; rfl
def AllocR (P : Program) (ρ : Ren) (a : Act) (o : Oper) (ao : AO) (k : AK) : Prop :=
  ∃ obj s, OR ρ ao s (some obj) ∧ ∀ w : World, ∃ x, (execOp a.eval o).run P w = .ok (.value x) (w.alloc obj) ∧ ∀ (ρ' : Ren) n, ρ' n = some (w.heap.size, s) → VR ρ' (k.at n) x
theorem alloc_sound {o : Oper} {a : Act} {vs : List AV} {ao : AO} {k : AK} (h : aalloc P o.op vs = some (ao, k)) (hv : VRs ρ vs (o.op.operands.toList.map a.eval)) : AllocR P ρ a o ao k := by
  unfold AllocR execOp
  generalize o.op = op at h hv
  cases op with
  | alloc t =>
    simp only [aalloc] at h
    split at h <;> first | (cases h; done) | skip
    rename_i z hz
    split at h <;> first | (cases h; done) | skip
    rename_i h1
    simp only [Option.some.injEq, Prod.mk.injEq] at h
    obtain ⟨rfl, rfl⟩ := h
    obtain ⟨_, zv, _, _, hof, hzr⟩ := zeroT_run hz
    have hc := (ofV_sound ρ hof).cells
    refine ⟨.cells zv.cells t (0, 0), zv.cells.size, by simpa using cellsOf_or hc h1 t, fun w => ⟨.pointer (some ⟨w.heap.size, 0, none⟩), ?_, fun ρ' n hn => by unfold AK.at VR; exact ⟨_, _, hn, rfl⟩⟩⟩
    simp [Instr.alloc, hzr w, newVar, newRow]
  | box t x =>
    simp only [aalloc] at h
    split at h <;> first | (cases h; done) | skip
    rename_i v
    split at h <;> first | (cases h; done) | skip
    rename_i h1
    simp only [Option.some.injEq, Prod.mk.injEq] at h
    obtain ⟨rfl, rfl⟩ := h
    obtain ⟨y, hy, hr⟩ := hv.one
    simp [Op.operands] at hy
    have hc := hr.cells
    refine ⟨.cells y.cells t (0, 0), y.cells.size, by simpa using cellsOf_or hc h1 t, fun w => ⟨.pointer (some ⟨w.heap.size, 0, none⟩), ?_, fun ρ' n hn => by unfold AK.at VR; exact ⟨_, _, hn, rfl⟩⟩⟩
    simp [Instr.box, hy, newVar, newRow]
  | buildSlice t len parts =>
    simp only [aalloc] at h
    split at h <;> first | (cases h; done) | skip
    rename_i e hu
    split at h <;> first | (cases h; done) | skip
    rename_i s hs
    split at h <;> first | (cases h; done) | skip
    rename_i hle
    have hle : len * s ≤ 16777216 ∧ len ≤ 16777216 := by simpa using hle
    obtain ⟨hle, hlen⟩ := hle
    split at h <;> first | (cases h; done) | skip
    rename_i z hz
    split at h <;> first | (cases h; done) | skip
    rename_i hzl
    have hzl := Nat.eq_of_beq_eq_true hzl
    split at h <;> first | (cases h; done) | skip
    rename_i ps hps
    split at h <;> first | (cases h; done) | skip
    rename_i l hl
    split at h <;> first | (cases h; done) | skip
    rename_i h1
    simp only [Option.some.injEq, Prod.mk.injEq] at h
    obtain ⟨rfl, rfl⟩ := h
    obtain ⟨k1, k2⟩ := zipParts_sound hps hv a.eval (by simp [Op.operands])
    obtain ⟨_, zv, _, _, hof, hzr⟩ := zeroT_run hz
    have hc := (ofV_sound ρ hof).cells
    have hcl : zv.cells.size = s := by have := hc.len; rw [hzl] at this; simpa using this.symm
    have hrep : VRs ρ (rep len z.cells) ((Array.range (len * s)).map (zv.cells[· % zv.cells.size]!)).toList := by
      rw [← hcl, rows_eq]
      exact hc.rep len
    obtain ⟨b, hb, hbr⟩ := fill_sound hl hrep k1 k2
    refine ⟨.cells b e (0, 0), b.size, by simpa using cellsOf_or hbr h1 e, fun w => ⟨.slice (some ⟨w.heap.size, 0, none⟩) len len, ?_, fun ρ' n hn => ?_⟩⟩
    · have hparts : (parts.map fun (i, x) => (i, a.eval x)).toList = parts.toList.map fun p => (p.1, a.eval p.2) := by simp
      have hz0 : (if len * s = 0 then pure #[] else do pure (← zeroValue e).cells : Sem (Array Value)).run P w = .ok (if len * s = 0 then #[] else zv.cells) w := by
        split <;> simp [hzr w]
      have hbuild : (Instr.buildSlice t len (parts.map fun (i, x) => (i, a.eval x))).run P w = .ok (.slice (some ⟨w.heap.size, 0, none⟩) len len) (w.alloc (.cells b e (0, 0))) := by
        unfold Instr.buildSlice
        simp only [Sem.run_bind, run_underlying hu w, Result.andThen_ok, sizeT_run hs w]
        have hno : ¬ len * s > 2 ^ 24 := by omega
        simp only [hno, if_false]
        have hb' : Instr.fill (fun i => some (i * s, s)) ((Array.range (len * s)).map (zv.cells[· % zv.cells.size]!)) (parts.toList.map fun p => (p.1, a.eval p.2)) = some b := hb
        by_cases h0 : len * s = 0
        · rw [if_pos h0]
          have hr0 : ∀ f g : Nat → Value, (Array.range (len * s)).map f = (Array.range (len * s)).map g := fun f g => by rw [h0]; simp
          simp only [Sem.run_bind, Sem.run_pure, Result.andThen_ok, hparts]
          rw [hr0 _ (zv.cells[· % zv.cells.size]!), hb']
          simp [newRow]
        · rw [if_neg h0]
          simp only [Sem.run_bind, Sem.run_pure, Result.andThen_ok, hzr w, hparts]
          rw [hb']
          simp [newRow]
      simp [hbuild]
    · have hbl : b.size = len * s := by
        have h2 := hbr.len
        have h3 : l.length = (rep len z.cells).length := by
          have : ∀ {pl : Nat → Option (Nat × Nat)} {ps : List (Nat × AV)} {cells out : List AV}, afill pl cells ps = some out → out.length = cells.length := by
            intro pl ps
            induction ps with
            | nil => intro cells out h; simp only [afill, Option.some.injEq] at h; rw [h]
            | cons p ps ih =>
              intro cells out h
              obtain ⟨i, v⟩ := p
              unfold afill at h
              split at h <;> first | (cases h; done) | skip
              split at h <;> first | (cases h; done) | skip
              rename_i hlen
              have hlen := Nat.eq_of_beq_eq_true hlen
              split at h <;> first | (cases h; done) | skip
              rename_i hfit
              have hfit := Nat.le_of_ble_eq_true hfit
              rw [ih h]
              simp only [List.length_append, List.length_take, List.length_drop, hlen]
              have e : ∀ a b : Nat, Nat.add a b = a + b := fun _ _ => rfl
              simp only [e] at hfit ⊢
              omega
          exact this hl
        rw [h3] at h2
        have h4 := hrep.len
        simp at h2 h4
        omega
      unfold AK.at VR
      refine ⟨_, _, len, hn, rfl, Nat.le_refl _, ?_, rfl, hbl.symm⟩
      unfold maxLen; omega
  | makeMap t r =>
    simp only [aalloc] at h
    split at h <;> first | (cases h; done) | skip
    split at h <;> first | (cases h; done) | skip
    simp only [Option.some.injEq, Prod.mk.injEq] at h
    obtain ⟨rfl, rfl⟩ := h
    refine ⟨.map #[] 0, 0, ⟨#[], rfl, rfl, rfl⟩, fun w => ⟨.map (some w.heap.size), ?_, fun ρ' n hn => by unfold AK.at VR; exact ⟨_, _, hn, rfl⟩⟩⟩
    simp [Instr.makeMap]
  | makeSlice t x y =>
    simp only [aalloc] at h
    split at h <;> first | (cases h; done) | skip
    rename_i e hu
    split at h <;> first | (cases h; done) | skip
    rename_i i hi
    split at h <;> first | (cases h; done) | skip
    · rename_i kl l kc c
      split at h <;> first | (cases h; done) | skip
      rename_i hlc
      have hlc : l ≤ c := by simpa using hlc
      split at h <;> first | (cases h; done) | skip
      rename_i hby
      have hby : i.bytes * c ≤ 281474976710656 := by simpa using hby
      split at h <;> first | (cases h; done) | skip
      rename_i h63
      have h63 : c ≤ 9223372036854775807 := by simpa using h63
      split at h <;> first | (cases h; done) | skip
      rename_i z hz
      split at h <;> first | (cases h; done) | skip
      rename_i hzl
      have hzl := Nat.eq_of_beq_eq_true hzl
      split at h <;> first | (cases h; done) | skip
      rename_i hpos
      have hpos : 0 < i.size := by simpa using hpos
      split at h <;> first | (cases h; done) | skip
      rename_i h1
      simp only [Option.some.injEq, Prod.mk.injEq] at h
      obtain ⟨rfl, rfl⟩ := h
      obtain ⟨i', zv, hi', hiz, hof, hzr⟩ := zeroT_run hz
      rw [hi] at hi'
      cases hi'
      have hc := (ofV_sound ρ hof).cells
      have hcl : zv.cells.size = i.size := by have := hc.len; rw [hzl] at this; simpa using this.symm
      obtain ⟨y1, y2, hy, hr1, hr2⟩ := hv.two
      simp [Op.operands] at hy
      obtain ⟨e1, e2⟩ := hy
      have hr1 := hr1.int_inv
      have hr2 := hr2.int_inv
      subst hr1; subst hr2
      have hmade : (madeCells zv.cells (c * i.size)).toList = (List.replicate c zv.cells.toList).flatten := by
        unfold madeCells
        rw [← hcl]
        exact rows_eq zv.cells c
      have hrep : VRs ρ (rep c z.cells) (madeCells zv.cells (c * i.size)).toList := by
        rw [hmade]
        exact hc.rep c
      have hone := allOne_rep h1 c
      refine ⟨.cells (madeCells zv.cells (c * i.size)) e (0, 0), (madeCells zv.cells (c * i.size)).size, by simpa using cellsOf_or hrep hone e, fun w => ⟨.slice (some ⟨w.heap.size, 0, none⟩) l c, ?_, fun ρ' n hn => ?_⟩⟩
      · have hb : (i.bytes : Int) * (c : Int) ≤ 281474976710656 := by
          have h : ((i.bytes * c : Nat) : Int) ≤ 281474976710656 := by omega
          rwa [Int.natCast_mul] at h
        have hrm := run_make (P := P) w t e i zv hu hi hiz kl kc (l : Int) (c : Int) (by omega) (by omega) hb (by omega)
        simp only [Int.toNat_natCast] at hrm
        have e1' : a.eval x = .int kl ((l : Nat) : Int) := e1
        have e2' : a.eval y = .int kc ((c : Nat) : Int) := e2
        simp [e1', e2', hrm]
      · unfold AK.at VR
        refine ⟨_, _, c, hn, rfl, hlc, by unfold maxLen; omega, rfl, ?_⟩
        rw [size_madeCells]
    · rename_i ka ea kb eb
      split at h <;> first | (cases h; done) | skip
      rename_i hab
      have hab := SE.beq_eq hab
      subst hab
      split at h <;> first | (cases h; done) | skip
      rename_i h0
      have h0 : ¬ ea.ev Nums.σ < 0 := of_decide_eq_false (askLt_ok h0)
      split at h <;> first | (cases h; done) | skip
      rename_i hm
      have hm : ea.ev Nums.σ < 16777216 := of_decide_eq_true (askLt_ok hm)
      split at h <;> first | (cases h; done) | skip
      rename_i hby
      have hby := Nat.le_of_ble_eq_true hby
      split at h <;> first | (cases h; done) | skip
      rename_i k hz
      split at h <;> first | (cases h; done) | skip
      rename_i hsz
      have hsz := Nat.eq_of_beq_eq_true hsz
      simp only [Option.some.injEq, Prod.mk.injEq] at h
      obtain ⟨rfl, rfl⟩ := h
      obtain ⟨i', zv, hi', hiz, hof, hzr⟩ := zeroT_run hz
      rw [hi] at hi'
      cases hi'
      have hzv := ofV_sound ρ hof
      have hzv := hzv.int_inv
      subst hzv
      obtain ⟨y1, y2, hy, hr1, hr2⟩ := hv.two
      simp [Op.operands] at hy
      obtain ⟨e1, e2⟩ := hy
      unfold VR at hr1 hr2
      obtain ⟨c, hc⟩ : ∃ c : Nat, ea.ev Nums.σ = c := ⟨(ea.ev Nums.σ).toNat, by omega⟩
      rw [hc] at hm hr1 hr2
      subst hr1; subst hr2
      have hcm : c < 16777216 := by omega
      have hbc : i.bytes * c ≤ 281474976710656 := by
        have := Nat.mul_le_mul hby (Nat.le_of_lt hcm)
        omega
      have hmade : madeCells (Value.int k 0).cells (c * i.size) = Array.replicate c (.int k 0) := by
        have hrow := rows_eq (Value.int k 0).cells c
        apply Array.ext'
        rw [hsz]
        have e0 : (madeCells (Value.int k 0).cells (c * 1)).toList = (List.replicate c (Value.int k 0).cells.toList).flatten := hrow
        rw [e0, Array.toList_replicate]
        exact flat_one _ c
      refine ⟨.cells (Array.replicate c (.int k 0)) e (0, 0), c, ⟨Array.replicate c (.int k 0), rfl, by simp, ?_, fun r j ck hr hk => ?_⟩, fun w => ⟨.slice (some ⟨w.heap.size, 0, none⟩) c c, ?_, fun ρ' n hn => ?_⟩⟩
      · simp only [SE.evN, hc, Int.toNat_natCast, List.length_cons, List.length_nil, Nat.zero_add, Nat.mul_one]
        exact Nat.le_refl _
      · simp only [SE.evN, hc, Int.toNat_natCast] at hr
        match j with
        | 0 =>
          simp only [List.getElem?_cons_zero, Option.some.injEq] at hk
          subst hk
          simp only [List.length_cons, List.length_nil, Nat.zero_add, Nat.mul_one, Nat.add_zero, SE.evA, CK.val]
          rw [Array.getElem?_replicate, if_pos hr]
        | j + 1 => simp at hk
      · have hb : (i.bytes : Int) * (c : Int) ≤ 281474976710656 := by
          have h : ((i.bytes * c : Nat) : Int) ≤ 281474976710656 := by omega
          rwa [Int.natCast_mul] at h
        have hrm := run_make (P := P) w t e i _ hu hi hiz ka kb (c : Int) (c : Int) (by omega) (by omega) hb (by omega)
        simp only [Int.toNat_natCast] at hrm
        rw [hmade] at hrm
        have e1' : a.eval x = .int ka ((c : Nat) : Int) := e1
        have e2' : a.eval y = .int kb ((c : Nat) : Int) := e2
        simp [e1', e2', hrm]
      · unfold AK.at VR
        refine ⟨_, _, c, c, hn, rfl, Nat.le_refl _, by unfold maxLen; omega, by omega, hc⟩
  | _ => simp [aalloc] at h
end
end Go.Proofs.YtmnpccpfejgkmaaGreat.Ex

/-
  The runner: operations that change a block, or call. No condition.
-/
namespace Go.Proofs.YtmnpccpfejgkmaaGreat.Ex
open Go
variable [Nums]
section
variable {P : Program} {ρ ρ' : Ren}
omit [Nums] in
theorem splice_get {cur : List Value} {ys : List Value} {off : Nat} (h : off + ys.length ≤ cur.length) (i : Nat) :
    (cur.take off ++ ys ++ cur.drop (off + ys.length))[i]? = if off ≤ i ∧ i < off + ys.length then ys[i - off]? else cur[i]? := by
  have h1 : (cur.take off).length = off := by rw [List.length_take]; omega
  by_cases h0 : i < off
  · rw [if_neg (by omega), List.append_assoc, List.getElem?_append_left (by omega), List.getElem?_take, if_pos h0]
  · by_cases h2 : i < off + ys.length
    · rw [if_pos ⟨by omega, h2⟩, List.getElem?_append_left (by rw [List.length_append]; omega), List.getElem?_append_right (by omega), h1]
    · rw [if_neg (by omega), List.getElem?_append_right (by rw [List.length_append]; omega), List.length_append, h1, List.getElem?_drop]
      congr 1
      omega
theorem splice_ok {cs : T AV} {cur : Array Value} {l : List AV} {ys : List Value} {off : Nat} (hc : CellsOk ρ cs cur) (hl : VRs ρ l ys) (h1 : allOne l = true) (hfit : off + ys.length ≤ cur.size) :
    CellsOk ρ (setN cs off l) (cur.toList.take off ++ ys ++ cur.toList.drop (off + ys.length)).toArray := by
  intro i v hv
  have hg := splice_get (cur := cur.toList) (ys := ys) (off := off) (by simpa using hfit) i
  rcases setN_get hv with ⟨k1, k2, k3⟩ | ⟨k1, k2⟩
  · obtain ⟨y, hy, hr⟩ := hl.get k3
    refine ⟨allOne_mem h1 v (List.mem_of_getElem? k3), y, ?_, hr⟩
    rw [List.getElem?_toArray, hg, if_pos ⟨k1, by rw [← hl.len]; exact k2⟩]
    exact hy
  · obtain ⟨o1, y, hy, hr⟩ := hc i v k2
    refine ⟨o1, y, ?_, hr⟩
    rw [List.getElem?_toArray, hg, if_neg (by rw [← hl.len]; omega)]
    simpa using hy
omit [Nums] in
theorem splice_size {cur : Array Value} {ys : List Value} {off : Nat} (hfit : off + ys.length ≤ cur.size) : (cur.toList.take off ++ ys ++ cur.toList.drop (off + ys.length)).toArray.size = cur.size := by
  simp only [List.size_toArray, List.length_append, List.length_take, List.length_drop, Array.length_toList]
  omega
omit [Nums] in
theorem fresh_spec {h h' : AH} {o : AO} (hf : fresh h o = some h') : h'.next = h.next + 1 ∧ ∀ j v, h'.get j = some v → (j = h.next ∧ v = o) ∨ (j ≠ h.next ∧ h.get j = some v) := by
  unfold fresh at hf
  split at hf <;> first | (cases hf; done) | skip
  simp only [Option.some.injEq] at hf
  subst hf
  obtain ⟨m, n⟩ := h
  refine ⟨rfl, fun j v hv => ?_⟩
  rcases T.get_put (t := m) (k := n) (x := some o) hv with ⟨h1, h2⟩ | ⟨h1, h2⟩
  · exact .inl ⟨h1, by cases h2; rfl⟩
  · exact .inr ⟨h1, h2⟩
omit [Nums] in
theorem put_spec {h : AH} {n : Nat} {x : Option AO} {j : Nat} {v : AO} (hv : (h.put n x).get j = some v) : (j = n ∧ x = some v) ∨ (j ≠ n ∧ h.get j = some v) := by
  obtain ⟨m, nx⟩ := h
  exact T.get_put hv
omit [Nums] in
theorem put_next {h : AH} {n : Nat} {x : Option AO} : (h.put n x).next = h.next := by
  obtain ⟨m, nx⟩ := h
  rfl
/-- a new block, under the next name -/
theorem Stp.new {h h' : AH} {w w' : World} {o : AO} {s : Nat} {obj : Obj} (hr : HR ρ h.get h.next w) (g1 : Nat → Option AO) (hg1 : ∀ m o, g1 m = some o → h.get m = some o) (hn : h'.next = h.next + 1)
    (hg' : ∀ j v, h'.get j = some v → (j = h.next ∧ v = o) ∨ (j ≠ h.next ∧ g1 j = some v)) (hO : OR ρ o s (some obj))
    (hw : w'.heap = w.heap.push obj) (os : w'.os = w.os) (tape : w'.tape = w.tape) (output : w'.output = w.output) :
    Stp ρ h.get h.next w (upd ρ h.next (w.heap.size, s)) h'.get h'.next w' ∧ (upd ρ h.next (w.heap.size, s)) h.next = some (w.heap.size, s) := by
  refine ⟨(Stp.name (g1 := g1) (g' := h'.get) (o := o) (w' := w') hr h.next (hr.fresh _ (Nat.le_refl _)) h'.next (by omega) (by omega) (.inr trivial) (b := w.heap.size) (s := s) ?_ os tape output (by rw [hw]; simp) ?_ ?_ (.inl (Nat.le_refl _)) hg1 hg').2.2 (Nat.le_refl _), by simp [upd]⟩
  · rw [hw]; simpa using hO
  · intro c hc _
    rw [hw, Array.getElem?_push_lt hc, Array.getElem?_eq_getElem hc]
  · intro m s' hm hp
    obtain ⟨o', ho'⟩ := Option.isSome_iff_exists.1 hm
    obtain ⟨b, s1, hb, hO1⟩ := hr.obj m o' (hg1 m o' ho')
    rw [hp] at hb
    cases hb
    rw [Array.getElem?_eq_none (Nat.le_refl _)] at hO1
    exact hO1.notNone
theorem getN_src {h : AH} {nx : Nat} {w : World} {sz m : Nat} {x : AV} {u : Value} {l : List AV} (hr : HR ρ h.get nx w) (hs : srcCells h sz x = some (m, l)) (hx : VR ρ x u) :
    (m = 0 ∧ ((u = .slice none 0 0) ∨ ∃ a c, u = .slice (some a) 0 c)) ∨
    ∃ (a : Addr) (c : Nat) (ys : List Value), u = .slice (some a) m c ∧ ys.length = m * sz ∧ VRs ρ l ys ∧ (∀ j v, ys[j]? = some v → w.cell? (a.add j) = some v) ∧ (∀ y ∈ ys, y.oneCell' = true) ∧ allOne l = true := by
  unfold srcCells at hs
  split at hs <;> first | (cases hs; done) | skip
  · simp only [Option.some.injEq, Prod.mk.injEq] at hs
    obtain ⟨rfl, rfl⟩ := hs
    unfold VR at hx
    exact .inl ⟨rfl, .inl hx⟩
  · simp only [Option.some.injEq, Prod.mk.injEq] at hs
    obtain ⟨rfl, rfl⟩ := hs
    unfold VR at hx
    exact .inl ⟨rfl, .inr hx⟩
  · rename_i n off len sz' r
    split at hs <;> first | (cases hs; done) | skip
    rename_i hsz
    have hsz := Nat.eq_of_beq_eq_true hsz
    subst hsz
    split at hs <;> first | (cases hs; done) | skip
    rename_i cs k e hg
    split at hs <;> first | (cases hs; done) | skip
    rename_i l' hl
    simp only [Option.some.injEq, Prod.mk.injEq] at hs
    obtain ⟨rfl, rfl⟩ := hs
    unfold VR at hx
    obtain ⟨b, s, c, hb, rfl, _⟩ := hx
    obtain ⟨b', s', hb', hO⟩ := hr.obj _ _ hg
    rw [hb] at hb'
    cases hb'
    obtain ⟨cur, hcur, hs, hk, hcells⟩ := hO
    obtain ⟨ys, hyl, hrs, hat, hone⟩ := getN_sound hcells hl
    refine .inr ⟨_, c, ys, rfl, hyl, hrs, fun j v hv => ?_, hone, ?_⟩
    · have := hat j v hv
      rw [Addr.add_mid]
      simp [World.cell?, hcur, this]
    · have : ∀ {n i : Nat} {l : List AV}, getN cs i n = some l → allOne l = true := by
        intro n
        induction n with
        | zero => intro i l h; simp only [getN, Option.some.injEq] at h; subst h; rfl
        | succ n ih =>
          intro i l h
          unfold getN at h
          split at h <;> first | (cases h; done) | skip
          rename_i v hv
          split at h <;> first | (cases h; done) | skip
          rename_i m hm
          simp only [Option.some.injEq] at h; subst h
          unfold allOne
          rw [(hcells _ _ hv).1]
          exact ih hm
      exact this hl
omit [Nums] in
theorem sizes_zero {e : TypeId} {i : TypeInfo} {z : Value} (hz : z.cells.size = i.size) (n : Nat) : (Builtin.zeroCells z.cells n).size = n * i.size := by rw [size_zeroCells, hz]
omit [Nums] in
theorem append_zero {t e : TypeId} {i : TypeInfo} (hu : P.underlying t = some (.slice e)) (hi : P.info? e = some i) (ty : TypeId) {b : Option Addr} {len c : Nat} (hlc : len ≤ c) {u : Value}
    (hx : u = .slice none 0 0 ∨ ∃ a c, u = .slice (some a) 0 c) (w : World) : (Builtin.append_ #[t, t] ty #[.slice b len c, u]).run P w = .ok (.slice b len c) w := by
  rcases hx with rfl | ⟨a, c', rfl⟩
  · cases b with
    | none => simp [Builtin.append_, run_underlying hu w, sizeOf, typeInfo, hi, Builtin.lenOf, Builtin.firstCells, hlc]
    | some b => simp [Builtin.append_, run_underlying hu w, sizeOf, typeInfo, hi, Builtin.lenOf, Builtin.firstCells, hlc, storeCells]
  · cases b with
    | none => simp [Builtin.append_, run_underlying hu w, sizeOf, typeInfo, hi, Builtin.lenOf, Builtin.firstCells, hlc, loadCells, loadCellsFrom]
    | some b => simp [Builtin.append_, run_underlying hu w, sizeOf, typeInfo, hi, Builtin.lenOf, Builtin.firstCells, hlc, storeCells, loadCells, loadCellsFrom]
/-! records -/
theorem toCK_rel {k : CK} {v : AV} {x : SE} {y : Value} (h : toCK k v = some x) (hv : VR ρ v y) : y = k.val (x.ev Nums.σ) := by
  unfold toCK at h
  split at h
  · split at h <;> first | (cases h; done) | skip
    rename_i k0 k' e he
    split at h <;> first | (cases h; done) | skip
    rename_i hk
    have hk := of_decide_eq_true hk
    subst hk
    simp only [Option.some.injEq] at h
    subst h
    exact toSE_ok he hv
  · split at h <;> first | (cases h; done) | skip
    · rename_i b
      simp only [Option.some.injEq] at h
      subst h
      unfold VR at hv
      subst hv
      cases b <;> simp [CK.val, SE.ev]
    · rename_i c p
      split at h <;> first | (cases h; done) | skip
      rename_i q hq
      simp only [Option.some.injEq] at h
      subst h
      unfold VR at hv
      subst hv
      rw [askC_ok hq]
      cases hqp : (q == p) <;> simp [CK.val, SE.ev]
theorem recOf_sound : ∀ {ks : List CK} {vs : List AV} {r : SE} {ys : List Value}, recOf ks vs = some r → VRs ρ vs ys → ys.length = ks.length ∧ ∀ (j : Nat) (k : CK), ks[j]? = some k → ys[j]? = some (k.val (r.evA Nums.σ 0 j))
  | [], [], r, ys, h, hv => by
    unfold VRs at hv
    subst hv
    exact ⟨rfl, by simp⟩
  | [], _ :: _, r, ys, h, hv => by simp [recOf] at h
  | _ :: _, [], r, ys, h, hv => by simp [recOf] at h
  | k :: ks, v :: vs, r, ys, h, hv => by
    unfold recOf at h
    split at h <;> first | (cases h; done) | skip
    rename_i x hx
    split at h <;> first | (cases h; done) | skip
    rename_i r' hr
    simp only [Option.some.injEq] at h
    subst h
    obtain ⟨y, ys', rfl, h1, h2⟩ := hv.uncons
    obtain ⟨h3, h4⟩ := recOf_sound hr h2
    refine ⟨by simp [h3], fun j k' hk => ?_⟩
    cases j with
    | zero =>
      simp only [List.getElem?_cons_zero, Option.some.injEq] at hk
      subst hk
      simp only [List.getElem?_cons_zero, SE.evA]
      rw [toCK_rel hx h1]
    | succ j =>
      simp only [List.getElem?_cons_succ, SE.evA] at hk ⊢
      exact h4 j k' hk
/-- one more record behind so many -/
theorem snoc_rows {l r : SE} {ks : List CK} {cur new : Array Value} {ys : List Value} (hys : ys.length = ks.length ∧ ∀ (j : Nat) (k : CK), ks[j]? = some k → ys[j]? = some (k.val (r.evA Nums.σ 0 j)))
    (hat : ∀ (q j : Nat) (k : CK), q < l.evN Nums.σ → ks[j]? = some k → cur[q * ks.length + j]? = some (k.val (l.evA Nums.σ q j)))
    (hold : ∀ i : Nat, i < l.evN Nums.σ * ks.length → new[i]? = cur[i]?) (hnew : ∀ (j : Nat) (y : Value), ys[j]? = some y → new[l.evN Nums.σ * ks.length + j]? = some y) :
    ∀ (q j : Nat) (k : CK), q < (SE.lsnoc l r).evN Nums.σ → ks[j]? = some k → new[q * ks.length + j]? = some (k.val ((SE.lsnoc l r).evA Nums.σ q j)) := by
  intro q j k hq hk
  have hj : j < ks.length := (List.getElem?_eq_some_iff.1 hk).1
  simp only [SE.evN] at hq
  simp only [SE.evA]
  by_cases h : q = l.evN Nums.σ
  · rw [if_pos h]
    subst h
    exact hnew j _ (hys.2 j k hk)
  · rw [if_neg h]
    have h1 : q < l.evN Nums.σ := by omega
    have h2 : q * ks.length + j < l.evN Nums.σ * ks.length := by
      have := Nat.mul_le_mul_right ks.length (show q + 1 ≤ l.evN Nums.σ from h1)
      rw [Nat.add_mul] at this
      omega
    rw [hold _ h2]
    exact hat q j k h1 hk
theorem append_sound {t ty : TypeId} {s x v : AV} {u1 u2 : Value} {h h' : AH} {w : World} (ha : aappend P t s x h = some (v, h')) (hr : HR ρ h.get h.next w) (hs : VR ρ s u1) (hx : VR ρ x u2) :
    ∃ ρ' y w', (Builtin.append_ #[t, t] ty #[u1, u2]).run P w = .ok y w' ∧ Stp ρ h.get h.next w ρ' h'.get h'.next w' ∧ VR ρ' v y := by
  unfold aappend at ha
  split at ha <;> first | (cases ha; done) | skip
  rename_i e hu
  split at ha <;> first | (cases ha; done) | skip
  rename_i i hi
  split at ha <;> first | (cases ha; done) | skip
  rename_i hpos
  have hpos : 0 < i.size := by simpa using hpos
  split at ha <;> first | (cases ha; done) | skip
  rename_i z hz
  split at ha <;> first | (cases ha; done) | skip
  rename_i hzs
  have hzs := Nat.eq_of_beq_eq_true hzs
  split at ha <;> first | (cases ha; done) | skip
  · -- nothing
    rename_i l hsrc
    have h0 : u2 = .slice none 0 0 ∨ ∃ a c, u2 = .slice (some a) 0 c := by
      rcases getN_src hr hsrc hx with ⟨_, h⟩ | ⟨a, c, _, rfl, _⟩
      · exact h
      · exact .inr ⟨a, c, rfl⟩
    split at ha <;> first | (cases ha; done) | skip
    all_goals (simp only [Option.some.injEq, Prod.mk.injEq] at ha; obtain ⟨rfl, rfl⟩ := ha)
    · have hs' := hs
      unfold VR at hs'
      subst hs'
      exact ⟨ρ, _, w, append_zero hu hi ty (Nat.le_refl _) h0 w, Stp.refl hr, hs⟩
    · have hs' := hs
      unfold VR at hs'
      obtain ⟨a, c, rfl⟩ := hs'
      exact ⟨ρ, _, w, append_zero hu hi ty (Nat.zero_le _) h0 w, Stp.refl hr, hs⟩
    · have hs' := hs
      unfold VR at hs'
      obtain ⟨b, s0, c, _, rfl, hlc, _⟩ := hs'
      exact ⟨ρ, _, w, append_zero hu hi ty hlc h0 w, Stp.refl hr, hs⟩
  · rename_i m news hm0 hsrc
    have hm : 0 < m := by
      rcases Nat.eq_zero_or_pos m with h0 | h0
      · exact absurd h0 hm0
      · exact h0
    obtain ⟨a2, c2, ys, rfl, hyl, hys, hcell, hone, hall⟩ : ∃ (a : Addr) (c : Nat) (ys : List Value), u2 = .slice (some a) m c ∧ ys.length = m * i.size ∧ VRs ρ news ys ∧ (∀ j v, ys[j]? = some v → w.cell? (a.add j) = some v) ∧ (∀ y ∈ ys, y.oneCell' = true) ∧ allOne news = true := by
      rcases getN_src hr hsrc hx with ⟨h1, _⟩ | h1
      · omega
      · exact h1
    split at ha <;> first | (cases ha; done) | skip
    · -- onto nil
      split at ha <;> first | (cases ha; done) | skip
      rename_i h63
      have h63 := Nat.le_of_ble_eq_true h63
      split at ha <;> first | (cases ha; done) | skip
      rename_i hby
      have hby := Nat.le_of_ble_eq_true hby
      split at ha <;> first | (cases ha; done) | skip
      rename_i h1 hfr
      simp only [Option.some.injEq, Prod.mk.injEq] at ha
      obtain ⟨rfl, rfl⟩ := ha
      unfold VR at hs
      subst hs
      have hby' : m * i.bytes ≤ 140737488355328 := hby
      have hrun := run_append_nil (P := P) w t ty e i z hu hi hz a2 m c2 ys hyl hcell hm (by omega) (by omega)
      obtain ⟨hn, hg⟩ := fresh_spec hfr
      have hge := grownCap_ge w m 0 e
      have hcm : grownCap w m 0 e ≤ maxLen := grownCap_le_maxLen w m 0 e (by unfold maxLen; omega)
      have hO : OR ρ (cellsOf e news) (grownCap w m 0 e * i.size) (some (.cells (ys.toArray ++ Builtin.zeroCells z.cells (grownCap w m 0 e - m)) e (0, 0))) := by
        refine ⟨_, rfl, ?_, ?_, fun j v hv => ?_⟩
        · rw [Array.size_append, List.size_toArray, sizes_zero (e := e) hzs, hyl, ← Nat.add_mul]
          congr 1
          omega
        · have := hys.len
          rw [this, hyl]
          exact Nat.mul_le_mul_right _ hge
        · rcases setN_get hv with ⟨_, _, h3⟩ | ⟨_, h3⟩
          · rw [Nat.sub_zero] at h3
            obtain ⟨y, hy, hr'⟩ := hys.get h3
            refine ⟨allOne_mem hall v (List.mem_of_getElem? h3), y, ?_, hr'⟩
            have hlt := (List.getElem?_eq_some_iff.1 hy).1
            rw [Array.getElem?_append_left (by simpa using hlt)]
            simpa using hy
          · rw [T.get_e] at h3; cases h3
      obtain ⟨hst, hup⟩ := Stp.new (w' := w.drew.alloc (.cells (ys.toArray ++ Builtin.zeroCells z.cells (grownCap w m 0 e - m)) e)) hr h.get (fun _ _ h => h) hn hg hO rfl rfl rfl rfl
      refine ⟨_, _, _, hrun, hst, ?_⟩
      unfold VR
      exact ⟨_, _, _, hup, rfl, hge, hcm, rfl, rfl⟩
    · rename_i n len sz r
      split at ha <;> first | (cases ha; done) | skip
      rename_i hsz
      have hsz := Nat.eq_of_beq_eq_true hsz
      subst hsz
      split at ha <;> first | (cases ha; done) | skip
      rename_i cs k e' hg
      split at ha <;> first | (cases ha; done) | skip
      rename_i hee
      have hee := Nat.eq_of_beq_eq_true hee
      subst hee
      split at ha <;> first | (cases ha; done) | skip
      rename_i h63
      have h63 : len + m ≤ 9223372036854775807 := Nat.le_of_ble_eq_true h63
      split at ha <;> first | (cases ha; done) | skip
      rename_i hby
      have hby : (len + m) * i.bytes ≤ 140737488355328 := Nat.le_of_ble_eq_true hby
      unfold VR at hs
      obtain ⟨b, s, c, hb, rfl, hlc, hcm, hroom⟩ := hs
      obtain ⟨b', s', hb', hO⟩ := hr.obj _ _ hg
      rw [hb] at hb'
      cases hb'
      obtain ⟨cur, hcur, hcs, hk, hcells⟩ := hO
      have hbm : (len + m) * i.size = len * i.size + m * i.size := Nat.add_mul _ _ _
      -- grows
      have grow : ∀ (h1 : AH) (g1 : Nat → Option AO) (olds : List AV), len + m > c → getN cs 0 (len * i.size) = some olds → h1.next = h.next + 1 → (∀ m o, g1 m = some o → h.get m = some o) →
          (∀ j v, h1.get j = some v → (j = h.next ∧ v = cellsOf e' (olds ++ news)) ∨ (j ≠ h.next ∧ g1 j = some v)) →
          ∃ ρ' y w', (Builtin.append_ #[t, t] ty #[.slice (some ⟨b, 0, none⟩) len c, .slice (some a2) m c2]).run P w = .ok y w' ∧ Stp ρ h.get h.next w ρ' h1.get h1.next w' ∧ VR ρ' (.sl h.next 0 (len + m) i.size .whole) y := by
        intro h1 g1 olds hgt holds hn hg1 hg'
        obtain ⟨os, hol, hors, hoat, _⟩ := getN_sound hcells holds
        have hoall : allOne olds = true := by
          have : ∀ {n i : Nat} {l : List AV}, getN cs i n = some l → allOne l = true := by
            intro n
            induction n with
            | zero => intro i l h; simp only [getN, Option.some.injEq] at h; subst h; rfl
            | succ n ih =>
              intro i l h
              unfold getN at h
              split at h <;> first | (cases h; done) | skip
              rename_i v hv
              split at h <;> first | (cases h; done) | skip
              rename_i m hm
              simp only [Option.some.injEq] at h; subst h
              unfold allOne
              rw [(hcells _ _ hv).1]
              exact ih hm
          exact this holds
        have hocell : ∀ j v, os[j]? = some v → w.cell? ((⟨b, 0, none⟩ : Addr).add j) = some v := fun j v hv => by
          have := hoat j v hv
          rw [Addr.add_mid]
          simp [World.cell?, hcur] at this ⊢
          exact this
        have hrun := run_append_grow (P := P) w t ty e' i z hu hi hz ⟨b, 0, none⟩ len c os hol hocell a2 m c2 ys hyl hcell hgt (by omega) (growslice_fits (by omega) hby)
        have hge := grownCap_ge w (len + m) c e'
        have hcm' : grownCap w (len + m) c e' ≤ maxLen := grownCap_le_maxLen w (len + m) c e' (by unfold maxLen; omega)
        have hboth := hors.append hys
        have hO : OR ρ (cellsOf e' (olds ++ news)) (grownCap w (len + m) c e' * i.size) (some (.cells (os.toArray ++ ys.toArray ++ Builtin.zeroCells z.cells (grownCap w (len + m) c e' - (len + m))) e' (0, 0))) := by
          refine ⟨_, rfl, ?_, ?_, fun j v hv => ?_⟩
          · rw [Array.size_append, Array.size_append, List.size_toArray, List.size_toArray, sizes_zero (e := e') hzs, hyl, hol, ← Nat.add_mul, ← Nat.add_mul]
            congr 1
            omega
          · rw [hboth.len, List.length_append, hol, hyl, ← Nat.add_mul]
            exact Nat.mul_le_mul_right _ hge
          · rcases setN_get hv with ⟨_, _, h3⟩ | ⟨_, h3⟩
            · rw [Nat.sub_zero] at h3
              obtain ⟨y, hy, hr'⟩ := hboth.get h3
              refine ⟨allOne_mem (allOne_append hoall hall) v (List.mem_of_getElem? h3), y, ?_, hr'⟩
              have hlt := (List.getElem?_eq_some_iff.1 hy).1
              rw [Array.getElem?_append_left (by simpa using hlt)]
              simpa using hy
            · rw [T.get_e] at h3; cases h3
        obtain ⟨hst, hup⟩ := Stp.new (w' := w.drew.alloc (.cells (os.toArray ++ ys.toArray ++ Builtin.zeroCells z.cells (grownCap w (len + m) c e' - (len + m))) e')) hr g1 hg1 hn hg' hO rfl rfl rfl rfl
        refine ⟨_, _, _, hrun, hst, ?_⟩
        unfold VR
        exact ⟨_, _, _, hup, rfl, hge, hcm', rfl, rfl⟩
      split at ha <;> first | (cases ha; done) | skip
      · -- the whole block
        obtain ⟨_, hroom⟩ := hroom
        split at ha
        · -- it is known to fit
          rename_i hfit
          have hfit : (len + m) * i.size ≤ k := Nat.le_of_ble_eq_true hfit
          simp only [Option.some.injEq, Prod.mk.injEq] at ha
          obtain ⟨rfl, rfl⟩ := ha
          have hroom2 : len + m ≤ c := by
            rcases Nat.lt_or_ge c (len + m) with hlt | hge
            · have := Nat.mul_lt_mul_of_pos_right hlt hpos
              omega
            · exact hge
          have hf2 : len * i.size + ys.length ≤ cur.size := by rw [hyl]; omega
          have hrun := run_append_room (P := P) w t ty e' i hu hi b len c cur hcur a2 m c2 ys hyl hcell hone hroom2 hf2
          refine ⟨ρ, _, _, hrun, ?_, ?_⟩
          · rw [put_next]
            refine Stp.change hr (n := n) (b := b) (s := s) (by rw [hg]; rfl) hb (o := .cells (setN cs (Nat.mul len i.size) news) k e') ?_ rfl rfl rfl (by simp) (fun q _ hq => setRow_other w b q _ hq) ?_
            · rw [setRow_heap w b cur _ e' (0, 0) hcur]
              exact ⟨_, rfl, by rw [splice_size hf2]; exact hcs, hk, splice_ok hcells hys hall hf2⟩
            · intro q o' ho'
              rcases put_spec ho' with ⟨q1, q2⟩ | q1
              · exact .inl ⟨q1, by cases q2; rfl⟩
              · exact .inr q1
          · unfold VR
            exact ⟨b, s, c, hb, rfl, hroom2, hcm, rfl, hroom⟩
        · split at ha <;> first | (cases ha; done) | skip
          rename_i olds holds
          split at ha <;> first | (cases ha; done) | skip
          rename_i h1 hfr
          simp only [Option.some.injEq, Prod.mk.injEq] at ha
          obtain ⟨rfl, rfl⟩ := ha
          obtain ⟨hn, hg'⟩ := fresh_spec hfr
          rw [put_next] at hn hg'
          by_cases hgt : len + m > c
          · exact grow h1 (h.put n none).get olds hgt holds hn (fun q o ho => by
              rcases put_spec ho with ⟨_, q2⟩ | ⟨_, q2⟩
              · cases q2
              · exact q2) hg'
          · -- in place, under a new name
            have hroom2 : len + m ≤ c := by omega
            obtain ⟨os, hol, hors, hoat, _⟩ := getN_sound hcells holds
            have hol : os.length = len * i.size := hol
            have hf2 : len * i.size + ys.length ≤ cur.size := by
              rw [hyl, hcs, ← hroom, ← Nat.add_mul]
              exact Nat.mul_le_mul_right _ hroom2
            have hrun := run_append_room (P := P) w t ty e' i hu hi b len c cur hcur a2 m c2 ys hyl hcell hone hroom2 hf2
            have hn0 : h.next ≠ n := fun he => by
              have := hr.fresh n (by omega)
              rw [this] at hb
              cases hb
            have hst := (Stp.name (g1 := (h.put n none).get) (g' := h1.get) (o := cellsOf e' (olds ++ news)) (w' := w.setRow b (cur.toList.take (len * i.size) ++ ys ++ cur.toList.drop (len * i.size + ys.length)).toArray) hr h.next (hr.fresh _ (Nat.le_refl _)) h1.next (by omega) (by omega) (.inr trivial) (b := b) (s := s) ?_ rfl rfl rfl (by simp) (fun q _ hq => setRow_other w b q _ hq) ?_ (.inr ⟨n, s, by rw [hg]; rfl, hb⟩) ?_ hg').2.2 (Nat.le_refl _)
            · refine ⟨_, _, _, hrun, hst, ?_⟩
              unfold VR
              exact ⟨b, s, c, by simp [upd], rfl, hroom2, hcm, rfl, hroom⟩
            · rw [setRow_heap w b cur _ e' (0, 0) hcur]
              have hboth := hors.append hys
              have hoall : allOne olds = true := by
                have : ∀ {n i : Nat} {l : List AV}, getN cs i n = some l → allOne l = true := by
                  intro n
                  induction n with
                  | zero => intro i l h; simp only [getN, Option.some.injEq] at h; subst h; rfl
                  | succ n ih =>
                    intro i l h
                    unfold getN at h
                    split at h <;> first | (cases h; done) | skip
                    rename_i v hv
                    split at h <;> first | (cases h; done) | skip
                    rename_i m hm
                    simp only [Option.some.injEq] at h; subst h
                    unfold allOne
                    rw [(hcells _ _ hv).1]
                    exact ih hm
                exact this holds
              refine ⟨_, rfl, by rw [splice_size hf2]; exact hcs, ?_, fun j v hv => ?_⟩
              · rw [hboth.len, List.length_append, hol, hyl, ← hroom, ← Nat.add_mul]
                exact Nat.mul_le_mul_right _ hroom2
              · rcases setN_get hv with ⟨_, _, h3⟩ | ⟨_, h3⟩
                · rw [Nat.sub_zero] at h3
                  obtain ⟨y, hy, hr'⟩ := hboth.get h3
                  refine ⟨allOne_mem (allOne_append hoall hall) v (List.mem_of_getElem? h3), y, ?_, hr'⟩
                  rw [List.getElem?_toArray, splice_get (by simpa using hf2)]
                  by_cases hj : j < os.length
                  · rw [List.getElem?_append_left hj] at hy
                    rw [if_neg (by omega)]
                    have := hoat j y hy
                    simpa using this
                  · rw [List.getElem?_append_right (by omega), hol] at hy
                    have hjl := (List.getElem?_eq_some_iff.1 hy).1
                    rw [if_pos ⟨by omega, by omega⟩]
                    exact hy
                · rw [T.get_e] at h3; cases h3
            · intro q s' hq hp
              obtain ⟨o', ho'⟩ := Option.isSome_iff_exists.1 hq
              rcases put_spec ho' with ⟨_, q2⟩ | ⟨q1, q2⟩
              · cases q2
              · exact q1 (hr.inj q n b s' s (by rw [q2]; rfl) (by rw [hg]; rfl) hp hb)
            · intro q o ho
              rcases put_spec ho with ⟨_, q2⟩ | ⟨_, q2⟩
              · cases q2
              · exact q2
      · rename_i c0
        have hc0 : c = c0 := hroom
        split at ha <;> first | (cases ha; done) | skip
        rename_i hgt
        have hgt : c0 < len + m := by simpa using hgt
        split at ha <;> first | (cases ha; done) | skip
        rename_i olds holds
        split at ha <;> first | (cases ha; done) | skip
        rename_i h1 hfr
        simp only [Option.some.injEq, Prod.mk.injEq] at ha
        obtain ⟨rfl, rfl⟩ := ha
        obtain ⟨hn, hg'⟩ := fresh_spec hfr
        exact grow h1 h.get olds (by omega) holds hn (fun _ _ h => h) hg'
    · -- records
      rename_i n e' sz
      split at ha <;> first | (cases ha; done) | skip
      rename_i hsz
      have hsz := Nat.eq_of_beq_eq_true hsz
      subst hsz
      split at ha <;> first | (cases ha; done) | skip
      rename_i hm1
      have hm1 := Nat.eq_of_beq_eq_true hm1
      subst hm1
      split at ha <;> first | (cases ha; done) | skip
      rename_i l ks e0 hg
      split at ha <;> first | (cases ha; done) | skip
      rename_i hek
      rw [Bool.and_eq_true] at hek
      have hee := Nat.eq_of_beq_eq_true hek.1
      have hks := Nat.eq_of_beq_eq_true hek.2
      subst hee
      split at ha <;> first | (cases ha; done) | skip
      rename_i hle
      have hle := SE.beq_eq hle
      subst hle
      split at ha <;> first | (cases ha; done) | skip
      rename_i hlt
      have hlt := of_decide_eq_true (askLt_ok hlt)
      simp only [SE.ev, lenE_ev] at hlt
      split at ha <;> first | (cases ha; done) | skip
      rename_i hby
      have hby : i.bytes ≤ 1000000 := Nat.le_of_ble_eq_true hby
      split at ha <;> first | (cases ha; done) | skip
      rename_i r hrec
      split at ha <;> first | (cases ha; done) | skip
      rename_i h1 hfr
      simp only [Option.some.injEq, Prod.mk.injEq] at ha
      obtain ⟨rfl, rfl⟩ := ha
      obtain ⟨hn, hg'⟩ := fresh_spec hfr
      rw [put_next] at hn hg'
      unfold VR at hs
      obtain ⟨b, s, len, c, hb, rfl, hlc, hcm, hroom, hlen⟩ := hs
      rw [lenE_ev] at hlen
      have hlen : l.evN Nums.σ = len := by omega
      obtain ⟨b', s', hb', hO⟩ := hr.obj _ _ hg
      rw [hb] at hb'
      cases hb'
      obtain ⟨cur, hcur, hcs, hk, hat⟩ := hO
      have hrs := recOf_sound hrec hys
      have hyl : ys.length = 1 * i.size := hyl
      rw [Nat.one_mul] at hyl
      have hl6 : len < 1000000 := by omega
      have hby2 : (len + 1) * i.bytes ≤ 140737488355328 := by
        have := Nat.mul_le_mul (show len + 1 ≤ 1000000 from hl6) hby
        omega
      have hN : (SE.lsnoc l r).evN Nums.σ = len + 1 := by simp only [SE.evN, hlen]
      by_cases hgt : len + 1 > c
      · let os : List Value := cur.toList.take (len * i.size)
        have hol : os.length = len * i.size := by
          simp only [os, List.length_take, Array.length_toList, hcs]
          rw [hlen, hks] at hk
          omega
        have hoat : ∀ (j : Nat) v, os[j]? = some v → cur[j]? = some v ∧ j < len * i.size := fun j v hv => by
          have hj := (List.getElem?_eq_some_iff.1 hv).1
          rw [hol] at hj
          simp only [os, List.getElem?_take, if_pos hj, Array.getElem?_toList] at hv
          exact ⟨hv, hj⟩
        have hocell : ∀ j v, os[j]? = some v → w.cell? ((⟨b, 0, none⟩ : Addr).add j) = some v := fun j v hv => by
          have := (hoat j v hv).1
          rw [Addr.add_mid]
          simp [World.cell?, hcur] at this ⊢
          exact this
        have hrun := run_append_grow (P := P) w t ty e0 i z hu hi hz ⟨b, 0, none⟩ len c os hol hocell a2 1 c2 ys (by rw [hyl, Nat.one_mul]) hcell hgt (by omega) (growslice_fits (by omega) hby2)
        have hge := grownCap_ge w (len + 1) c e0
        have hcm' : grownCap w (len + 1) c e0 ≤ maxLen := grownCap_le_maxLen w (len + 1) c e0 (by unfold maxLen; omega)
        have hO : OR ρ (.recs (.lsnoc l r) ks e0) (grownCap w (len + 1) c e0 * i.size) (some (.cells (os.toArray ++ ys.toArray ++ Builtin.zeroCells z.cells (grownCap w (len + 1) c e0 - (len + 1))) e0 (0, 0))) := by
          refine ⟨_, rfl, ?_, ?_, ?_⟩
          · rw [Array.size_append, Array.size_append, List.size_toArray, List.size_toArray, sizes_zero (e := e0) hzs, hyl, hol]
            have : len * i.size + i.size = (len + 1) * i.size := by rw [Nat.add_mul, Nat.one_mul]
            rw [this, ← Nat.add_mul]
            congr 1
            omega
          · rw [hN, hks]
            exact Nat.mul_le_mul_right _ hge
          · refine snoc_rows hrs hat (fun i' hi' => ?_) (fun j y hy => ?_)
            · rw [hlen, hks] at hi'
              rw [Array.getElem?_append_left (by simp [hol]; omega), Array.getElem?_append_left (by simp [hol]; omega), List.getElem?_toArray]
              simp only [os, List.getElem?_take, if_pos hi', Array.getElem?_toList]
            · have hj := (List.getElem?_eq_some_iff.1 hy).1
              rw [hlen, hks, Array.getElem?_append_left (by simp [hol]; omega), Array.getElem?_append_right (by simp [hol])]
              simp only [List.size_toArray, hol, Nat.add_sub_cancel_left, List.getElem?_toArray]
              exact hy
        obtain ⟨hst, hup⟩ := Stp.new (w' := w.drew.alloc (.cells (os.toArray ++ ys.toArray ++ Builtin.zeroCells z.cells (grownCap w (len + 1) c e0 - (len + 1))) e0)) hr (h.put n none).get (fun q o ho => by
              rcases put_spec ho with ⟨_, q2⟩ | ⟨_, q2⟩
              · cases q2
              · exact q2) hn hg' hO rfl rfl rfl rfl
        refine ⟨_, _, _, hrun, hst, ?_⟩
        unfold VR
        exact ⟨_, _, _, _, hup, rfl, hge, hcm', rfl, by rw [lenE_ev, hN]⟩
      · have hroom2 : len + 1 ≤ c := by omega
        have hf2 : len * i.size + ys.length ≤ cur.size := by
          rw [hyl, hcs, ← hroom]
          have := Nat.mul_le_mul_right i.size hroom2
          rw [Nat.add_mul, Nat.one_mul] at this
          exact this
        have hrun := run_append_room (P := P) w t ty e0 i hu hi b len c cur hcur a2 1 c2 ys (by rw [hyl, Nat.one_mul]) hcell hone hroom2 hf2
        have hn0 : h.next ≠ n := fun he => by
          have := hr.fresh n (by omega)
          rw [this] at hb
          cases hb
        have hst := (Stp.name (g1 := (h.put n none).get) (g' := h1.get) (o := .recs (.lsnoc l r) ks e0) (w' := w.setRow b (cur.toList.take (len * i.size) ++ ys ++ cur.toList.drop (len * i.size + ys.length)).toArray) hr h.next (hr.fresh _ (Nat.le_refl _)) h1.next (by omega) (by omega) (.inr trivial) (b := b) (s := s) ?_ rfl rfl rfl (by simp) (fun q _ hq => setRow_other w b q _ hq) ?_ (.inr ⟨n, s, by rw [hg]; rfl, hb⟩) ?_ hg').2.2 (Nat.le_refl _)
        · refine ⟨_, _, _, hrun, hst, ?_⟩
          unfold VR
          exact ⟨b, s, _, c, by simp [upd], rfl, hroom2, hcm, hroom, by rw [lenE_ev, hN]⟩
        · rw [setRow_heap w b cur _ e0 (0, 0) hcur]
          refine ⟨_, rfl, by rw [splice_size hf2]; exact hcs, ?_, ?_⟩
          · rw [hN, hks, ← hroom]
            exact Nat.mul_le_mul_right _ hroom2
          · refine snoc_rows hrs hat (fun i' hi' => ?_) (fun j y hy => ?_)
            · rw [hlen, hks] at hi'
              rw [List.getElem?_toArray, splice_get (by simpa using hf2), if_neg (by omega), Array.getElem?_toList]
            · have hj := (List.getElem?_eq_some_iff.1 hy).1
              rw [hlen, hks, List.getElem?_toArray, splice_get (by simpa using hf2), if_pos ⟨by omega, by omega⟩, Nat.add_sub_cancel_left]
              exact hy
        · intro q s' hq hp
          obtain ⟨o', ho'⟩ := Option.isSome_iff_exists.1 hq
          rcases put_spec ho' with ⟨_, q2⟩ | ⟨q1, q2⟩
          · cases q2
          · exact q1 (hr.inj q n b s' s (by rw [q2]; rfl) (by rw [hg]; rfl) hp hb)
        · intro q o ho
          rcases put_spec ho with ⟨_, q2⟩ | ⟨_, q2⟩
          · cases q2
          · exact q2
end
end Go.Proofs.YtmnpccpfejgkmaaGreat.Ex

/-
  The runner: one operation, of whatever kind. No condition.
-/
namespace Go.Proofs.YtmnpccpfejgkmaaGreat.Ex
open Go
variable [Nums]
section
variable {P : Program} {ρ ρ' : Ren}
theorem MR.modify {nv : AV} {key y : Value} : ∀ {es : List (AV × AV)} {xs : List MapEntry} (j : Nat), MR ρ es xs → (∀ x, xs[j]? = some x → x.key = key) → VR ρ nv y → MR ρ (es.modify j fun p => (p.1, nv)) (xs.modify j fun e => { e with key := key, val := y })
  | [], xs, j, h, _, _ => by
    have : xs = [] := h
    subst this
    simpa using h
  | p :: es, xs, 0, h, hk, hv => by
    obtain ⟨x, xs', rfl, h1, h2, h3⟩ := h
    have := hk x rfl
    exact ⟨_, xs', rfl, by rw [← this]; exact h1, hv, h3⟩
  | p :: es, xs, j + 1, h, hk, hv => by
    obtain ⟨x, xs', rfl, h1, h2, h3⟩ := h
    simp only [List.modify_succ_cons]
    exact ⟨x, _, rfl, h1, h2, MR.modify j h3 (fun z hz => hk z (by simpa using hz)) hv⟩
theorem MR.erase : ∀ {es : List (AV × AV)} {xs : List MapEntry} (j : Nat), MR ρ es xs → MR ρ (es.eraseIdx j) (xs.eraseIdx j)
  | [], xs, j, h => by
    have : xs = [] := h
    subst this
    simpa using h
  | p :: es, xs, 0, h => by
    obtain ⟨x, xs', rfl, h1, h2, h3⟩ := h
    simpa using h3
  | p :: es, xs, j + 1, h => by
    obtain ⟨x, xs', rfl, h1, h2, h3⟩ := h
    simp only [List.eraseIdx_cons_succ]
    exact ⟨x, _, rfl, h1, h2, MR.erase j h3⟩
theorem MR.push : ∀ {es : List (AV × AV)} {xs : List MapEntry} {p : AV × AV} {e : MapEntry}, MR ρ es xs → VR ρ p.1 e.key → VR ρ p.2 e.val → MR ρ (es ++ [p]) (xs ++ [e])
  | [], xs, p, e, h, h1, h2 => by
    have : xs = [] := h
    subst this
    exact ⟨e, [], rfl, h1, h2, rfl⟩
  | q :: es, xs, p, e, h, h1, h2 => by
    obtain ⟨e', xs', rfl, k1, k2, k3⟩ := h
    exact ⟨e', _, rfl, k1, k2, MR.push k3 h1 h2⟩
omit [Nums] in
theorem setObj_map {r : Nat} {w : World} {xs : Array MapEntry} {c : Nat} (h : w.heap[r]? = some (.map xs c)) (o : Obj) : (setObj r o).run P w = .ok () { w with heap := w.heap.setIfInBounds r o } := by
  simp only [setObj, Sem.run, h]
omit [Nums] in
theorem born_modify (f : MapEntry → MapEntry) (hf : ∀ e, (f e).born = e.born) : ∀ (l : List MapEntry) (j : Nat), (l.modify j f).map (·.born) = l.map (·.born)
  | [], j => by simp
  | e :: l, 0 => by simp [hf]
  | e :: l, j + 1 => by simp [born_modify f hf l j]
theorem mapPut_sound {t : TypeId} {vs : List AV} {h h' : AH} {v : AV} {w : World} {u1 u2 u3 : Value} (ha : aloud.mapPut P t vs h = some (.val v h')) (hr : HR ρ h.get h.next w) (hv : VRs ρ vs [u1, u2, u3]) :
    ∃ w', (Instr.mapUpdate t u1 u2 u3).run P w = .ok () w' ∧ Stp ρ h.get h.next w ρ h'.get h'.next w' ∧ v = und := by
  unfold aloud.mapPut at ha
  split at ha <;> first | (cases ha; done) | skip
  rename_i kt et hu
  split at ha <;> first | (cases ha; done) | skip
  rename_i n ky nv
  obtain ⟨y1, y2, y3, hy, h1, h2, h3⟩ := hv.three
  simp only [List.cons.injEq, and_true] at hy
  obtain ⟨rfl, rfl, rfl⟩ := hy
  unfold VR at h1
  obtain ⟨b, s, hb, rfl⟩ := h1
  split at ha <;> first | (cases ha; done) | skip
  rename_i es bs ck hg
  obtain ⟨b', s', hb', hO⟩ := hr.obj _ _ hg
  rw [hb] at hb'
  cases hb'
  obtain ⟨xs, hx, hm, hbs⟩ := hO
  have hlt : b < w.heap.size := (Array.getElem?_eq_some_iff.1 hx).1
  obtain ⟨r0, hl0⟩ : ∃ r0, lookM P kt es ky = some r0 := by
    cases hl : lookM P kt es ky with
    | none => rw [hl] at ha; cases ha
    | some r => exact ⟨r, rfl⟩
  obtain ⟨hck0, hks0, hfound⟩ := lookM_sound hl0 hm h2
  have hck := hck0 false w
  have hks := hks0 w
  rw [hl0] at ha
  split at ha <;> first | (cases ha; done) | skip
  · rename_i j u heq
    cases heq
    simp only [Option.some.injEq, AN.val.injEq] at ha
    obtain ⟨rfl, rfl⟩ := ha
    obtain ⟨e, g1, g2, g3⟩ : ∃ e : MapEntry, (∀ w, (Instr.findKey kt u2 xs.toList).run P w = .ok (some (j, e.val)) w) ∧ xs.toList[j]? = some e ∧ e.key = u2 := by
      rcases hfound with ⟨g, _⟩ | ⟨j', v', x', g, g1, g2, g3, g4⟩
      · cases g
      · cases g
        exact ⟨x', g1, g2, g3⟩
    have hfk := g1 w
    have hej : xs[j]? = some e := by simpa using g2
    refine ⟨{ w with heap := w.heap.setIfInBounds b (.map (xs.modify j fun e => { e with key := u2, val := u3 }) ck) }, ?_, ?_, rfl⟩
    · unfold Instr.mapUpdate
      simp only [Sem.run_bind, run_underlying hu w, Result.andThen_ok, getObj_map hx, hck, hfk, hej, Option.map_some, Option.getD_some, g3, hks, setObj_map hx]
    · rw [put_next]
      refine Stp.change hr (n := n) (b := b) (s := s) (by rw [hg]; rfl) hb (o := .map (es.modify j fun p => (p.1, nv)) bs ck) ?_ rfl rfl rfl (by simp) (fun q _ hq => by simp [Array.getElem?_setIfInBounds, Ne.symm hq]) ?_
      · refine ⟨xs.modify j fun e => { e with key := u2, val := u3 }, by simp [hlt], ?_, ?_⟩
        · have := MR.modify (ρ := ρ) (nv := nv) (key := u2) (y := u3) j hm (fun z hz => by rw [g2] at hz; cases hz; exact g3) h3
          simpa using this
        · rw [← hbs]
          simpa using born_modify (fun e => { e with key := u2, val := u3 }) (fun _ => rfl) xs.toList j
      · intro q o' ho'
        rcases put_spec ho' with ⟨q1, q2⟩ | q1
        · exact .inl ⟨q1, by cases q2; rfl⟩
        · exact .inr q1
  · rename_i heq
    cases heq
    simp only [Option.some.injEq, AN.val.injEq] at ha
    obtain ⟨rfl, rfl⟩ := ha
    have g1 : ∀ w, (Instr.findKey kt u2 xs.toList).run P w = .ok none w := by
      rcases hfound with ⟨_, g⟩ | ⟨_, _, _, g, _⟩
      · exact g
      · cases g
    have hfk := g1 w
    refine ⟨{ w with heap := w.heap.setIfInBounds b (.map (xs.push { key := u2, val := u3, born := ck }) (ck + 1)) }, ?_, ?_, rfl⟩
    · unfold Instr.mapUpdate
      simp only [Sem.run_bind, run_underlying hu w, Result.andThen_ok, getObj_map hx, hck, hfk, setObj_map hx]
    · rw [put_next]
      refine Stp.change hr (n := n) (b := b) (s := s) (by rw [hg]; rfl) hb (o := .map (es ++ [(ky, nv)]) (bs ++ [ck]) (Nat.add ck 1)) ?_ rfl rfl rfl (by simp) (fun q _ hq => by simp [Array.getElem?_setIfInBounds, Ne.symm hq]) ?_
      · refine ⟨xs.push { key := u2, val := u3, born := ck }, by simp [hlt], ?_, ?_⟩
        · simp only [Array.toList_push]
          exact hm.push h2 h3
        · simp [← hbs]
      · intro q o' ho'
        rcases put_spec ho' with ⟨q1, q2⟩ | q1
        · exact .inl ⟨q1, by cases q2; rfl⟩
        · exact .inr q1
omit [Nums] in
theorem map_erase {α β : Type} (f : α → β) : ∀ (l : List α) (j : Nat), (l.eraseIdx j).map f = (l.map f).eraseIdx j
  | [], j => by simp
  | a :: l, 0 => by simp
  | a :: l, j + 1 => by simp [map_erase f l j]
theorem mapDel_sound {t : TypeId} {vs : List AV} {h h' : AH} {v : AV} {w : World} {u1 u2 : Value} {argTypes : Array TypeId} {ty : TypeId} (hat : argTypes[0]? = some t) (ha : aloud.mapDel P t vs h = some (.val v h')) (hr : HR ρ h.get h.next w) (hv : VRs ρ vs [u1, u2]) :
    ∃ w', (Builtin.delete_ argTypes ty #[u1, u2]).run P w = .ok (.tuple #[]) w' ∧ Stp ρ h.get h.next w ρ h'.get h'.next w' ∧ v = und := by
  unfold aloud.mapDel at ha
  split at ha <;> first | (cases ha; done) | skip
  rename_i kt et hu
  split at ha <;> first | (cases ha; done) | skip
  rename_i n ky
  obtain ⟨y1, y2, hy, h1, h2⟩ := hv.two
  simp only [List.cons.injEq, and_true] at hy
  obtain ⟨rfl, rfl⟩ := hy
  unfold VR at h1
  obtain ⟨b, s, hb, rfl⟩ := h1
  split at ha <;> first | (cases ha; done) | skip
  rename_i es bs ck hg
  obtain ⟨b', s', hb', hO⟩ := hr.obj _ _ hg
  rw [hb] at hb'
  cases hb'
  obtain ⟨xs, hx, hm, hbs⟩ := hO
  have hlt : b < w.heap.size := (Array.getElem?_eq_some_iff.1 hx).1
  obtain ⟨r0, hl0⟩ : ∃ r0, lookM P kt es ky = some r0 := by
    cases hl : lookM P kt es ky with
    | none => rw [hl] at ha; cases ha
    | some r => exact ⟨r, rfl⟩
  obtain ⟨hck0, -, hfound⟩ := lookM_sound hl0 hm h2
  have hck := hck0 xs.isEmpty w
  rw [hl0] at ha
  split at ha <;> first | (cases ha; done) | skip
  · rename_i heq
    cases heq
    simp only [Option.some.injEq, AN.val.injEq] at ha
    obtain ⟨rfl, rfl⟩ := ha
    have g1 : ∀ w, (Instr.findKey kt u2 xs.toList).run P w = .ok none w := by
      rcases hfound with ⟨_, g⟩ | ⟨_, _, _, g, _⟩
      · exact g
      · cases g
    have hfk := g1 w
    refine ⟨{ w with heap := w.heap.setIfInBounds b (.map xs ck) }, ?_, ?_, rfl⟩
    · unfold Builtin.delete_
      simp only [hat, List.getElem?_toArray, List.getElem?_cons_zero, List.getElem?_cons_succ, Sem.run_bind, run_underlying hu w, Result.andThen_ok, getObj_map hx, hck, hfk, setObj_map hx]
      rfl
    · rw [put_next]
      refine Stp.change hr (n := n) (b := b) (s := s) (by rw [hg]; rfl) hb (o := .map es bs ck) ?_ rfl rfl rfl (by simp) (fun q _ hq => by simp [Array.getElem?_setIfInBounds, Ne.symm hq]) ?_
      · exact ⟨xs, by simp [hlt], hm, hbs⟩
      · intro q o' ho'
        rcases put_spec ho' with ⟨q1, q2⟩ | q1
        · exact .inl ⟨q1, by cases q2; rfl⟩
        · exact .inr q1
  · rename_i j u heq
    cases heq
    simp only [Option.some.injEq, AN.val.injEq] at ha
    obtain ⟨rfl, rfl⟩ := ha
    obtain ⟨x, g1, g2⟩ : ∃ x, (∀ w, (Instr.findKey kt u2 xs.toList).run P w = .ok (some (j, x)) w) ∧ j < xs.toList.length := by
      rcases hfound with ⟨g, _⟩ | ⟨j', v', x', g, g1, g2, g3, g4⟩
      · cases g
      · cases g
        exact ⟨_, g1, (List.getElem?_eq_some_iff.1 g2).1⟩
    have g3 := MR.erase j hm
    have hfk := g1 w
    refine ⟨{ w with heap := w.heap.setIfInBounds b (.map (xs.eraseIdxIfInBounds j) ck) }, ?_, ?_, rfl⟩
    · unfold Builtin.delete_
      simp only [hat, List.getElem?_toArray, List.getElem?_cons_zero, List.getElem?_cons_succ, Sem.run_bind, run_underlying hu w, Result.andThen_ok, getObj_map hx, hck, hfk, setObj_map hx]
      rfl
    · rw [put_next]
      have hj : j < xs.size := by simpa using g2
      have he : (xs.eraseIdxIfInBounds j).toList = xs.toList.eraseIdx j := by simp [Array.eraseIdxIfInBounds, hj]
      refine Stp.change hr (n := n) (b := b) (s := s) (by rw [hg]; rfl) hb (o := .map (es.eraseIdx j) (bs.eraseIdx j) ck) ?_ rfl rfl rfl (by simp) (fun q _ hq => by simp [Array.getElem?_setIfInBounds, Ne.symm hq]) ?_
      · refine ⟨xs.eraseIdxIfInBounds j, by simp [hlt], by rw [he]; exact g3, ?_⟩
        rw [he, ← hbs, map_erase]
      · intro q o' ho'
        rcases put_spec ho' with ⟨q1, q2⟩ | q1
        · exact .inl ⟨q1, by cases q2; rfl⟩
        · exact .inr q1
/-! the entry of a map, to be written -/
theorem MR.at : ∀ {es : List (AV × AV)} {xs : List MapEntry} {j : Nat} {e : MapEntry}, MR ρ es xs → xs[j]? = some e → ∃ p, es[j]? = some p ∧ VR ρ p.1 e.key ∧ VR ρ p.2 e.val
  | [], xs, j, e, h, hj => by
    have : xs = [] := h
    subst this
    simp at hj
  | p :: es, xs, 0, e, h, hj => by
    obtain ⟨x, xs', rfl, h1, h2, h3⟩ := h
    simp at hj
    subst hj
    exact ⟨p, by simp, h1, h2⟩
  | p :: es, xs, j + 1, e, h, hj => by
    obtain ⟨x, xs', rfl, h1, h2, h3⟩ := h
    have := MR.at (j := j) h3 (by simpa using hj)
    simpa using this
omit [Nums] in
theorem modify_self {xs : Array MapEntry} {j : Nat} {e : MapEntry} (h : xs[j]? = some e) : xs.modify j (fun x => { x with key := e.key }) = xs := by
  apply Array.ext'
  rw [Array.toList_modify]
  apply List.ext_getElem?
  intro i
  rw [List.getElem?_modify]
  have h' : xs.toList[j]? = some e := by simpa using h
  by_cases hi : j = i
  · subst hi
    rw [h']
    simp
  · simp [hi]
theorem mapEnt_sound {t : TypeId} {vs : List AV} {h h' : AH} {v : AV} {w : World} {u1 u2 : Value} (ha : aloud.mapEnt P t vs h = some (.val v h')) (hr : HR ρ h.get h.next w) (hv : VRs ρ vs [u1, u2]) :
    ∃ y w', (Instr.mapEntry t u1 u2).run P w = .ok y w' ∧ Stp ρ h.get h.next w ρ h'.get h'.next w' ∧ VR ρ v y := by
  unfold aloud.mapEnt at ha
  split at ha <;> first | (cases ha; done) | skip
  rename_i kt et hu
  split at ha <;> first | (cases ha; done) | skip
  rename_i n ky
  obtain ⟨y1, y2, hy, h1, h2⟩ := hv.two
  simp only [List.cons.injEq, and_true] at hy
  obtain ⟨rfl, rfl⟩ := hy
  unfold VR at h1
  obtain ⟨b, s, hb, rfl⟩ := h1
  split at ha <;> first | (cases ha; done) | skip
  rename_i es bs ck hg
  obtain ⟨b', s', hb', hO⟩ := hr.obj _ _ hg
  rw [hb] at hb'
  cases hb'
  obtain ⟨xs, hx, hm, hbs⟩ := hO
  have hlt : b < w.heap.size := (Array.getElem?_eq_some_iff.1 hx).1
  obtain ⟨r0, hl0⟩ : ∃ r0, lookM P kt es ky = some r0 := by
    cases hl : lookM P kt es ky with
    | none => rw [hl] at ha; cases ha
    | some r => exact ⟨r, rfl⟩
  obtain ⟨hck0, hks0, hfound⟩ := lookM_sound hl0 hm h2
  have hck := hck0 false w
  have hks := hks0 w
  rw [hl0] at ha
  split at ha <;> first | (cases ha; done) | skip
  · rename_i j u heq
    cases heq
    split at ha <;> first | (cases ha; done) | skip
    rename_i stamp hst
    simp only [Option.some.injEq, AN.val.injEq] at ha
    obtain ⟨rfl, rfl⟩ := ha
    obtain ⟨e, g1, g2, g3, g4⟩ : ∃ e : MapEntry, (∀ w, (Instr.findKey kt u2 xs.toList).run P w = .ok (some (j, e.val)) w) ∧ xs.toList[j]? = some e ∧ e.key = u2 ∧ VR ρ u e.val := by
      rcases hfound with ⟨g, _⟩ | ⟨j', v', x', g, g1, g2, g3, g4⟩
      · cases g
      · cases g
        exact ⟨x', g1, g2, g3, g4⟩
    have hfk := g1 w
    have hej : xs[j]? = some e := by simpa using g2
    have hborn : e.born = stamp := by
      have : (xs.toList.map (·.born))[j]? = some e.born := by rw [List.getElem?_map, g2]; rfl
      rw [hbs, hst] at this
      exact (Option.some.inj this).symm
    refine ⟨.tuple #[e.val, goInt e.born], { w with heap := w.heap.setIfInBounds b (.map xs ck) }, ?_, ?_, ?_⟩
    · unfold Instr.mapEntry
      have hmod := modify_self hej
      rw [g3] at hmod
      simp only [Sem.run_bind, run_underlying hu w, Result.andThen_ok, getObj_map hx, hck, hfk, hej, Option.map_some, Option.getD_some, g3, hks, setObj_map hx, hmod, Sem.run_pure]
    · rw [put_next]
      refine Stp.change hr (n := n) (b := b) (s := s) (by rw [hg]; rfl) hb (o := .map es bs ck) ?_ rfl rfl rfl (by simp) (fun q _ hq => by simp [Array.getElem?_setIfInBounds, Ne.symm hq]) ?_
      · exact ⟨xs, by simp [hlt], hm, hbs⟩
      · intro q o' ho'
        rcases put_spec ho' with ⟨q1, q2⟩ | q1
        · exact .inl ⟨q1, by cases q2; rfl⟩
        · exact .inr q1
    · unfold VR
      exact ⟨_, rfl, VRs.cons g4 (VRs.cons (by unfold VR; rw [hborn]; rfl) VRs.nil)⟩
  · rename_i heq
    cases heq
    split at ha <;> first | (cases ha; done) | skip
    rename_i z hz
    simp only [Option.some.injEq, AN.val.injEq] at ha
    obtain ⟨rfl, rfl⟩ := ha
    obtain ⟨_, zv, _, _, hof, hzr⟩ := zeroT_run hz
    have hzv := ofV_sound ρ hof
    have g1 : ∀ w, (Instr.findKey kt u2 xs.toList).run P w = .ok none w := by
      rcases hfound with ⟨_, g⟩ | ⟨_, _, _, g, _⟩
      · exact g
      · cases g
    have hfk := g1 w
    refine ⟨.tuple #[zv, goInt ck], { w with heap := w.heap.setIfInBounds b (.map (xs.push { key := u2, val := zv, born := ck }) (ck + 1)) }, ?_, ?_, ?_⟩
    · unfold Instr.mapEntry
      simp only [Sem.run_bind, run_underlying hu w, Result.andThen_ok, getObj_map hx, hck, hfk, hzr w, setObj_map hx, Sem.run_pure]
    · rw [put_next]
      refine Stp.change hr (n := n) (b := b) (s := s) (by rw [hg]; rfl) hb (o := .map (es ++ [(ky, z)]) (bs ++ [ck]) (Nat.add ck 1)) ?_ rfl rfl rfl (by simp) (fun q _ hq => by simp [Array.getElem?_setIfInBounds, Ne.symm hq]) ?_
      · refine ⟨xs.push { key := u2, val := zv, born := ck }, by simp [hlt], ?_, ?_⟩
        · simp only [Array.toList_push]
          exact hm.push h2 hzv
        · simp [← hbs]
      · intro q o' ho'
        rcases put_spec ho' with ⟨q1, q2⟩ | q1
        · exact .inl ⟨q1, by cases q2; rfl⟩
        · exact .inr q1
    · unfold VR
      exact ⟨_, rfl, VRs.cons hzv (VRs.cons (by unfold VR; rfl) VRs.nil)⟩
omit [Nums] in
theorem idxOf_find {b : Nat} : ∀ {bs : List Nat} {xs : List MapEntry} {j : Nat}, idxOf b bs = some j → xs.map (·.born) = bs → xs.findIdx? (fun e => ((e.born : Nat) : Int) == (b : Int)) = some j ∧ j < xs.length
  | [], xs, j, h, _ => by unfold idxOf at h; cases h
  | c :: bs, [], j, _, hb => by cases hb
  | c :: bs, x :: xs, j, h, hb => by
    simp only [List.map_cons, List.cons.injEq] at hb
    unfold idxOf at h
    split at h
    · rename_i hc
      have hc : c = b := Nat.eq_of_beq_eq_true hc
      cases h
      have hxb : x.born = b := by rw [hb.1, hc]
      rw [List.findIdx?_cons, hxb]
      simp
    · rename_i hc
      have hc : c ≠ b := Nat.ne_of_beq_eq_false hc
      split at h <;> first | (cases h; done) | skip
      rename_i k hk
      cases h
      obtain ⟨h1, h2⟩ := idxOf_find hk hb.2
      have : ((x.born : Int) == (b : Int)) = false := by
        rw [beq_eq_false_iff_ne, hb.1]
        omega
      rw [List.findIdx?_cons, this]
      simp only [Bool.false_eq_true, if_false, h1, List.length_cons]
      exact ⟨rfl, by show k + 1 < _; omega⟩
theorem entSto_sound {t : TypeId} {vs : List AV} {h h' : AH} {v : AV} {w : World} {u1 u2 u3 : Value} (ha : aloud.entSto vs h = some (.val v h')) (hr : HR ρ h.get h.next w) (hv : VRs ρ vs [u1, u2, u3]) :
    ∃ w', (Instr.entryStore t u1 u2 u3).run P w = .ok () w' ∧ Stp ρ h.get h.next w ρ h'.get h'.next w' ∧ v = und := by
  unfold aloud.entSto at ha
  split at ha <;> first | (cases ha; done) | skip
  rename_i n kk st nv
  obtain ⟨y1, y2, y3, hy, h1, h2, h3⟩ := hv.three
  simp only [List.cons.injEq, and_true] at hy
  obtain ⟨rfl, rfl, rfl⟩ := hy
  unfold VR at h1 h2
  obtain ⟨b, s, hb, rfl⟩ := h1
  subst h2
  split at ha <;> first | (cases ha; done) | skip
  rename_i es bs ck hg
  obtain ⟨b', s', hb', hO⟩ := hr.obj _ _ hg
  rw [hb] at hb'
  cases hb'
  obtain ⟨xs, hx, hm, hbs⟩ := hO
  have hlt : b < w.heap.size := (Array.getElem?_eq_some_iff.1 hx).1
  split at ha <;> first | (cases ha; done) | skip
  rename_i j hj
  simp only [Option.some.injEq, AN.val.injEq] at ha
  obtain ⟨rfl, rfl⟩ := ha
  obtain ⟨hfi, hjl⟩ := idxOf_find hj hbs
  obtain ⟨e, he⟩ : ∃ e, xs.toList[j]? = some e := ⟨_, List.getElem?_eq_getElem hjl⟩
  refine ⟨{ w with heap := w.heap.setIfInBounds b (.map (xs.modify j fun e => { e with val := u3 }) ck) }, ?_, ?_, rfl⟩
  · unfold Instr.entryStore
    have hfa : xs.findIdx? (fun e => ((e.born : Nat) : Int) == (Int.ofNat st)) = some j := by
      rw [show xs = xs.toList.toArray from Array.toArray_toList.symm, List.findIdx?_toArray]
      simpa using hfi
    have hai : (asInt (.int kk (Int.ofNat st))).run P w = .ok (Int.ofNat st) w := rfl
    simp only [Sem.run_bind, Result.andThen_ok, getObj_map hx, hai, hfa, setObj_map hx]
  · rw [put_next]
    refine Stp.change hr (n := n) (b := b) (s := s) (by rw [hg]; rfl) hb (o := .map (es.modify j fun p => (p.1, nv)) bs ck) ?_ rfl rfl rfl (by simp) (fun q _ hq => by simp [Array.getElem?_setIfInBounds, Ne.symm hq]) ?_
    · refine ⟨xs.modify j fun e => { e with val := u3 }, by simp [hlt], ?_, ?_⟩
      · have := MR.modify (ρ := ρ) (nv := nv) (key := e.key) (y := u3) j hm (fun z hz => by rw [he] at hz; cases hz; rfl) h3
        have e2 : xs.toList.modify j (fun x => { x with key := e.key, val := u3 }) = xs.toList.modify j (fun x => { x with val := u3 }) := by
          apply List.ext_getElem?
          intro i
          rw [List.getElem?_modify, List.getElem?_modify]
          by_cases hi : j = i
          · subst hi
            rw [he]
            simp
          · simp [hi]
        rw [e2] at this
        simpa using this
      · rw [← hbs]
        simpa using born_modify (fun e => { e with val := u3 }) (fun _ => rfl) xs.toList j
    · intro q o' ho'
      rcases put_spec ho' with ⟨q1, q2⟩ | q1
      · exact .inl ⟨q1, by cases q2; rfl⟩
      · exact .inr q1
/-! iterators over maps -/
omit [Nums] in
theorem getObj_iter {r : Nat} {w : World} {m : Option Nat} {since last : Nat} {seen : Array Nat} (h : w.heap[r]? = some (.mapIter m since seen last)) : (getObj r).run P w = .ok (.mapIter m since seen last) w := by
  simp only [getObj, Sem.run, h]
omit [Nums] in
theorem setObj_iter {r : Nat} {w : World} {m : Option Nat} {since last : Nat} {seen : Array Nat} (h : w.heap[r]? = some (.mapIter m since seen last)) (o : Obj) : (setObj r o).run P w = .ok () { w with heap := w.heap.setIfInBounds r o } := by
  simp only [setObj, Sem.run, h]
theorem arange_sound {t kt et : TypeId} (hu : P.underlying t = some (.map kt et)) {vs : List AV} {h h' : AH} {v : AV} {w : World} {u1 : Value} (ha : aloud.arange vs h = some (.val v h')) (hr : HR ρ h.get h.next w) (hv : VRs ρ vs [u1]) :
    ∃ ρ' y w', (Instr.range t u1).run P w = .ok y w' ∧ Stp ρ h.get h.next w ρ' h'.get h'.next w' ∧ VR ρ' v y := by
  unfold aloud.arange at ha
  split at ha <;> first | (cases ha; done) | skip
  · obtain ⟨y, hy, h1⟩ := hv.one
    simp only [List.cons.injEq, and_true] at hy
    subst hy
    unfold VR at h1
    subst h1
    split at ha <;> first | (cases ha; done) | skip
    rename_i h1 hfr
    simp only [Option.some.injEq, AN.val.injEq] at ha
    obtain ⟨rfl, rfl⟩ := ha
    obtain ⟨hn, hg⟩ := fresh_spec hfr
    obtain ⟨hst, hup⟩ := Stp.new (s := 0) (obj := .mapIter none 0 #[] 0) (w' := w.alloc (.mapIter none 0 #[] 0)) hr h.get (fun _ _ h => h) hn hg (show OR ρ (.mit none 0 [] 0) 0 _ from rfl) rfl rfl rfl rfl
    refine ⟨_, .pointer (some ⟨w.heap.size, 0, none⟩), _, ?_, hst, ?_⟩
    · unfold Instr.range
      simp only [Sem.run_bind, run_underlying hu w, Result.andThen_ok, Sem.run_pure, newObj, Sem.run]
      rfl
    · unfold VR
      exact ⟨_, _, hup, rfl⟩
  · rename_i n
    obtain ⟨y, hy, h1⟩ := hv.one
    simp only [List.cons.injEq, and_true] at hy
    subst hy
    unfold VR at h1
    obtain ⟨b, s, hb, rfl⟩ := h1
    split at ha <;> first | (cases ha; done) | skip
    rename_i es bs ck hg0
    split at ha <;> first | (cases ha; done) | skip
    rename_i h1 hfr
    simp only [Option.some.injEq, AN.val.injEq] at ha
    obtain ⟨rfl, rfl⟩ := ha
    obtain ⟨b', s', hb', hO⟩ := hr.obj _ _ hg0
    rw [hb] at hb'
    cases hb'
    obtain ⟨xs, hx, hm, hbs⟩ := hO
    obtain ⟨hn, hg⟩ := fresh_spec hfr
    obtain ⟨hst, hup⟩ := Stp.new (s := 0) (obj := .mapIter (some b) ck #[] ck) (w' := w.alloc (.mapIter (some b) ck #[] ck)) hr h.get (fun _ _ h => h) hn hg (show OR ρ (.mit (some n) ck [] ck) 0 _ from ⟨b, s, hb, rfl⟩) rfl rfl rfl rfl
    refine ⟨_, .pointer (some ⟨w.heap.size, 0, none⟩), _, ?_, hst, ?_⟩
    · unfold Instr.range
      simp only [Sem.run_bind, run_underlying hu w, Result.andThen_ok, Sem.run_pure, getObj_map hx, newObj, Sem.run]
      rfl
    · unfold VR
      exact ⟨_, _, hup, rfl⟩
omit [Nums] in
theorem choose_one (w : World) : (choose (Question.mapNext 1)).run P w = .ok 0 w := by
  simp [choose, Sem.run, Question.forced]
def LR (ρ : Ren) : List (AV × AV × Nat) → List MapEntry → Prop
  | [], l => l = []
  | (k, v, b) :: r, l => ∃ e es, l = e :: es ∧ VR ρ k e.key ∧ VR ρ v e.val ∧ e.born = b ∧ LR ρ r es
theorem leftOf_sound {seen : List Nat} : ∀ {es : List (AV × AV)} {bs : List Nat} {xs : List MapEntry}, MR ρ es xs → xs.map (·.born) = bs → LR ρ (leftOf es bs seen) (xs.filter fun e => !seen.contains e.born)
  | [], bs, xs, hm, hb => by
    have : xs = [] := hm
    subst this
    subst hb
    rfl
  | (k, v) :: es, bs, xs, hm, hb => by
    obtain ⟨e, xs', rfl, h1, h2, h3⟩ := hm
    subst hb
    have ih := leftOf_sound (seen := seen) h3 rfl
    rw [List.map_cons]
    unfold leftOf
    cases hc : seen.contains e.born with
    | true =>
      rw [List.filter_cons_of_neg (by rw [hc]; simp)]
      exact ih
    | false =>
      rw [List.filter_cons_of_pos (by rw [hc]; rfl)]
      exact ⟨e, _, rfl, h1, h2, rfl, ih⟩
omit [Nums] in
theorem okNext_sound {bs seen : List Nat} {last : Nat} {xs : Array MapEntry} (h : okNext bs seen last = true) (hb : xs.toList.map (·.born) = bs) : (!seen.toArray.isEmpty && !xs.isEmpty && xs.all fun e => decide (e.born ≥ last)) = false := by
  unfold okNext at h
  rw [Bool.or_eq_true, Bool.or_eq_true] at h
  rcases h with h | h | h
  · have : seen = [] := by simpa using h
    subst this
    rfl
  · have : bs = [] := by simpa using h
    subst this
    have hx : xs.toList = [] := by simpa using hb
    have : xs = #[] := Array.toList_eq_nil_iff.1 hx
    subst this
    simp
  · obtain ⟨b, hbm, hbl⟩ := List.any_eq_true.1 h
    rw [← hb] at hbm
    obtain ⟨e, he, rfl⟩ := List.mem_map.1 hbm
    have hbl : e.born < last := by simpa using hbl
    have : (xs.all fun e => decide (e.born ≥ last)) = false := by
      rw [← Array.all_toList]
      rw [List.all_eq_false]
      exact ⟨e, he, by simp; omega⟩
    rw [this, Bool.and_false]
theorem anext_sound {vs : List AV} {h h' : AH} {v : AV} {w : World} {u1 : Value} {ty : TypeId} (ha : aloud.anext vs h = some (.val v h')) (hr : HR ρ h.get h.next w) (hv : VRs ρ vs [u1]) :
    ∃ y w', (Instr.next u1 false ty).run P w = .ok y w' ∧ Stp ρ h.get h.next w ρ h'.get h'.next w' ∧ VR ρ v y := by
  unfold aloud.anext at ha
  split at ha <;> first | (cases ha; done) | skip
  rename_i n
  obtain ⟨y, hy, h1⟩ := hv.one
  simp only [List.cons.injEq, and_true] at hy
  subst hy
  obtain ⟨b, s, hb, rfl⟩ := h1.ptr_inv
  have hover : VR ρ (.tup [.bool false]) (.tuple #[.bool false]) := by
    unfold VR
    exact ⟨_, rfl, VRs.cons (by unfold VR; rfl) VRs.nil⟩
  split at ha <;> first | (cases ha; done) | skip
  · rename_i hg
    simp only [Option.some.injEq, AN.val.injEq] at ha
    obtain ⟨rfl, rfl⟩ := ha
    obtain ⟨b', s', hb', hO⟩ := hr.obj _ _ hg
    rw [hb] at hb'
    cases hb'
    have hx : w.heap[b]? = some (.mapIter none 0 #[] 0) := hO
    refine ⟨.tuple #[.bool false], w, ?_, Stp.refl hr, hover⟩
    unfold Instr.next
    simp only [Sem.run_bind, getObj_iter hx, Result.andThen_ok, Sem.run_pure]
  · rename_i m since seen last hg
    split at ha <;> first | (cases ha; done) | skip
    rename_i es bs ck hgm
    obtain ⟨b', s', hb', hO⟩ := hr.obj _ _ hg
    rw [hb] at hb'
    cases hb'
    obtain ⟨bm, sm, hbm, hx⟩ := hO
    obtain ⟨b', s', hb', hOm⟩ := hr.obj _ _ hgm
    rw [hbm] at hb'
    cases hb'
    obtain ⟨xs, hxm, hm, hbs⟩ := hOm
    split at ha <;> first | (cases ha; done) | skip
    rename_i hok
    have hok := okNext_sound hok hbs
    have hL := leftOf_sound (seen := seen) hm hbs
    have hfilter : (xs.filter fun e => !seen.toArray.contains e.born).toList = xs.toList.filter fun e => !seen.contains e.born := by
      rw [Array.toList_filter]
      simp
    split at ha <;> first | (cases ha; done) | skip
    · rename_i hl
      simp only [Option.some.injEq, AN.val.injEq] at ha
      obtain ⟨rfl, rfl⟩ := ha
      rw [hl] at hL
      have hL : xs.toList.filter (fun e => !seen.contains e.born) = [] := hL
      have hleft : (xs.filter fun e => !seen.toArray.contains e.born) = #[] := by
        apply Array.ext'
        rw [hfilter, hL]
      refine ⟨.tuple #[.bool false], w, ?_, Stp.refl hr, hover⟩
      unfold Instr.next
      simp only [Sem.run_bind, getObj_iter hx, getObj_map hxm, Result.andThen_ok, hok, hleft]
      have hcand : ((if (Array.filter (fun x : MapEntry => decide (x.born < since)) #[]).isEmpty = true then #[none] else #[]) ++ Array.map some (Array.filter (fun x : MapEntry => decide (x.born < since)) #[] ++ Array.filter (fun x : MapEntry => decide (x.born ≥ since)) #[])) = #[none] := by simp
      rw [if_neg Bool.false_ne_true]
      simp only [hcand, Sem.run_bind, choose_one, Result.andThen_ok, show (#[(none : Option MapEntry)]).size = 1 from rfl, show (#[(none : Option MapEntry)])[0]? = some none from rfl, Sem.run_pure]
    · rename_i k nv bo hl
      split at ha <;> first | (cases ha; done) | skip
      rename_i hlt
      have hlt : bo < since := by simpa using hlt
      simp only [Option.some.injEq, AN.val.injEq] at ha
      obtain ⟨rfl, rfl⟩ := ha
      rw [hl] at hL
      obtain ⟨e, es', he, hk, hv', hbo, hnil⟩ := hL
      have hnil : es' = [] := hnil
      subst hnil
      have hleft : (xs.filter fun e => !seen.toArray.contains e.born) = #[e] := by
        apply Array.ext'
        rw [hfilter, he]
      have f1 : Array.filter (fun x => decide (x.born < since)) #[e] = #[e] := by simp [hbo, hlt]
      have f2 : Array.filter (fun x => decide (x.born ≥ since)) #[e] = #[] := by simp [hbo, hlt]
      have hblt : b < w.heap.size := (Array.getElem?_eq_some_iff.1 hx).1
      refine ⟨.tuple #[.bool true, e.key, e.val], { w with heap := w.heap.setIfInBounds b (.mapIter (some bm) since (seen.toArray.push e.born) ck) }, ?_, ?_, ?_⟩
      · unfold Instr.next
        simp only [Sem.run_bind, getObj_iter hx, getObj_map hxm, Result.andThen_ok, hok, hleft, f1, f2]
        have hcand : ((if (#[e] : Array MapEntry).isEmpty = true then #[none] else #[]) ++ Array.map some (#[e] ++ #[])) = #[some e] := by simp
        rw [if_neg Bool.false_ne_true]
        have hset := setObj_iter (P := P) hx (.mapIter (some bm) since (seen.toArray.push e.born) ck)
        simp only [hcand, Sem.run_bind, choose_one, Result.andThen_ok, show (#[some e]).size = 1 from rfl, show (#[some e])[0]? = some (some e) from rfl, hset, Sem.run_pure]
      · rw [put_next]
        refine Stp.change hr (n := n) (b := b) (s := s) (by rw [hg]; rfl) hb (o := .mit (some m) since (seen ++ [bo]) ck) ?_ rfl rfl rfl (by simp) (fun q _ hq => by simp [Array.getElem?_setIfInBounds, Ne.symm hq]) ?_
        · exact ⟨bm, sm, hbm, by simp [hblt, hbo]⟩
        · intro q o' ho'
          rcases put_spec ho' with ⟨q1, q2⟩ | q1
          · exact .inl ⟨q1, by cases q2; rfl⟩
          · exact .inr q1
      · unfold VR
        exact ⟨_, rfl, VRs.cons (by unfold VR; rfl) (VRs.cons hk (VRs.cons hv' VRs.nil))⟩
/-- what an operation that changes memory comes to -/
def LoudVal (P : Program) (ρ : Ren) (a : Act) (o : Oper) (h : AH) (w : World) (v : AV) (h' : AH) : Prop :=
  ∃ ρ' x w' nx, (execOp a.eval o).run P w = .ok nx w' ∧ (nx = .value x ∨ (nx = .skip ∧ x = undef)) ∧ Stp ρ h.get h.next w ρ' h'.get h'.next w' ∧ VR ρ' v x
def FnOk (P : Program) (f : FuncId) : Prop := ∃ fn c, P.funcs[f]? = some fn ∧ (fn.name == "runtime.NumGoroutine") = false ∧ fn.body = some c
theorem recSet_sound {e : SE} {ks : List CK} : ∀ {vs : List AV} {ys : List Value} {l l' : SE} {j : Nat}, recSet l e ks j vs = some l' → VRs ρ vs ys →
    l'.evN Nums.σ = l.evN Nums.σ ∧ j + ys.length ≤ ks.length ∨ vs = [] ∧ l' = l
  | [], ys, l, l', j, h, hv => by
    simp only [recSet, Option.some.injEq] at h
    exact .inr ⟨rfl, h.symm⟩
  | v :: vs, ys, l, l', j, h, hv => by
    unfold recSet at h
    split at h <;> first | (cases h; done) | skip
    rename_i k hk
    split at h <;> first | (cases h; done) | skip
    rename_i x hx
    obtain ⟨y, ys', rfl, h1, h2⟩ := hv.uncons
    have hj := (List.getElem?_eq_some_iff.1 hk).1
    rcases recSet_sound h h2 with ⟨h3, h4⟩ | ⟨h3, h4⟩
    · refine .inl ⟨by rw [h3]; simp only [SE.evN], ?_⟩
      have : Nat.add j 1 = j + 1 := rfl
      rw [this] at h4
      simp only [List.length_cons]
      omega
    · subst h3; subst h4
      unfold VRs at h2
      subst h2
      refine .inl ⟨by simp only [SE.evN], ?_⟩
      simp only [List.length_cons, List.length_nil]
      omega
theorem recSet_at {e : SE} {ks : List CK} : ∀ {vs : List AV} {ys : List Value} {l l' : SE} {j : Nat}, recSet l e ks j vs = some l' → VRs ρ vs ys → ∀ (q i : Nat) (k : CK), ks[i]? = some k →
    (q = (e.ev Nums.σ).toNat ∧ j ≤ i ∧ i < j + ys.length ∧ ys[i - j]? = some (k.val (l'.evA Nums.σ q i))) ∨ (¬ (q = (e.ev Nums.σ).toNat ∧ j ≤ i ∧ i < j + ys.length) ∧ l'.evA Nums.σ q i = l.evA Nums.σ q i)
  | [], ys, l, l', j, h, hv, q, i, k, hk => by
    simp only [recSet, Option.some.injEq] at h
    subst h
    unfold VRs at hv
    subst hv
    exact .inr ⟨by simp only [List.length_nil]; omega, rfl⟩
  | v :: vs, ys, l, l', j, h, hv, q, i, k, hk => by
    unfold recSet at h
    split at h <;> first | (cases h; done) | skip
    rename_i k0 hk0
    split at h <;> first | (cases h; done) | skip
    rename_i x hx
    obtain ⟨y, ys', rfl, h1, h2⟩ := hv.uncons
    have hj1 : Nat.add j 1 = j + 1 := rfl
    rcases recSet_at h h2 q i k hk with ⟨h3, h4, h5, h6⟩ | ⟨h3, h4⟩
    · rw [hj1] at h4 h5 h6
      refine .inl ⟨h3, by omega, by simp only [List.length_cons]; omega, ?_⟩
      rw [show i - j = (i - (j + 1)) + 1 from by omega, List.getElem?_cons_succ]
      exact h6
    · rw [hj1] at h3
      simp only [SE.evA] at h4
      by_cases hqi : q = (e.ev Nums.σ).toNat ∧ i = j
      · obtain ⟨hq, rfl⟩ := hqi
        rw [if_pos ⟨hq, rfl⟩] at h4
        rw [hk] at hk0
        cases hk0
        refine .inl ⟨hq, Nat.le_refl _, by simp only [List.length_cons]; omega, ?_⟩
        rw [Nat.sub_self, List.getElem?_cons_zero, h4, toCK_rel hx h1]
      · rw [if_neg hqi] at h4
        refine .inr ⟨?_, h4⟩
        simp only [List.length_cons]
        rintro ⟨a, b, c⟩
        apply hqi
        refine ⟨a, ?_⟩
        rcases Nat.lt_or_ge j i with hlt | hge
        · exact absurd ⟨a, by omega, by omega⟩ h3
        · omega
theorem recStore_sound {t : TypeId} {n s : Nat} {l x : SE} {ks : List CK} {e : TypeId} {j off : Nat} {v y : AV} {h h' : AH} {w : World} {b : Nat} {s0 : Nat} {u : Value} (hl : aloud.recStore n l x ks e j y h = some (.val v h')) (hr : HR ρ h.get h.next w)
    (hs : sizeT P t = some s) (hlen : y.cells.length = s) (h1 : allOne y.cells = true) (hg : h.get n = some (.recs l ks e)) (hb : ρ n = some (b, s0)) (hu : VR ρ y u) (hoff : off = (x.ev Nums.σ).toNat * ks.length + j) :
    ∃ w', (storeVar t ⟨b, off, none⟩ u).run P w = .ok () w' ∧ Stp ρ h.get h.next w ρ h'.get h'.next w' ∧ v = und := by
  subst hoff
  unfold aloud.recStore at hl
  split at hl <;> first | (cases hl; done) | skip
  rename_i hw
  obtain ⟨w1, w2⟩ := within_ok hw
  rw [lenE_ev] at w2
  have hrow : (x.ev Nums.σ).toNat < l.evN Nums.σ := by omega
  split at hl <;> first | (cases hl; done) | skip
  rename_i l' hset
  simp only [Option.some.injEq, AN.val.injEq] at hl
  obtain ⟨rfl, rfl⟩ := hl
  obtain ⟨b', s', hb', hO⟩ := hr.obj _ _ hg
  rw [hb] at hb'
  cases hb'
  obtain ⟨cur, hcur, hcs, hk, hat⟩ := hO
  have hc := hu.cells
  have hcl : u.cells.toList.length = s := by rw [← hc.len, hlen]
  have hsz : u.cells.size = s := by simpa using hcl
  have hrows : (x.ev Nums.σ).toNat * ks.length + ks.length ≤ l.evN Nums.σ * ks.length := by
    have := Nat.mul_le_mul_right ks.length (show (x.ev Nums.σ).toNat + 1 ≤ l.evN Nums.σ from hrow)
    rwa [Nat.add_mul, Nat.one_mul] at this
  rcases recSet_sound hset hc with ⟨hN, hfit0⟩ | ⟨he, hll⟩
  · have hfit : (x.ev Nums.σ).toNat * ks.length + j + u.cells.toList.length ≤ cur.size := by omega
    have hst := run_storeCells_at P b ((x.ev Nums.σ).toNat * ks.length + j) e u.cells.toList 0 cur w hcur (by simpa using hfit) (hc.ones h1)
    simp only [Nat.add_zero] at hst
    refine ⟨w.setRow b (cur.toList.take ((x.ev Nums.σ).toNat * ks.length + j) ++ u.cells.toList ++ cur.toList.drop ((x.ev Nums.σ).toNat * ks.length + j + u.cells.toList.length)).toArray, ?_, ?_, rfl⟩
    · simp only [storeVar, Sem.run_bind, Sem.run_pure, Result.andThen_ok, sizeT_run hs w, hsz, ne_eq, not_true_eq_false, if_false, hst]
    · rw [put_next]
      refine Stp.change hr (n := n) (b := b) (s := s0) (by rw [hg]; rfl) hb (o := .recs l' ks e) ?_ rfl rfl rfl (by simp) (fun q _ hq => setRow_other w b q _ hq) ?_
      · rw [setRow_heap w b cur _ e (0, 0) hcur]
        refine ⟨_, rfl, by rw [splice_size hfit]; exact hcs, by rw [hN]; exact hk, fun q i k hq hki => ?_⟩
        rw [hN] at hq
        have hi : i < ks.length := (List.getElem?_eq_some_iff.1 hki).1
        rw [List.getElem?_toArray, splice_get (by simpa using hfit)]
        rcases recSet_at hset hc q i k hki with ⟨h3, h4, h5, h6⟩ | ⟨h3, h4⟩
        · subst h3
          rw [if_pos ⟨by omega, by omega⟩, ← h6]
          congr 1
          omega
        · have hne : ¬ ((x.ev Nums.σ).toNat * ks.length + j ≤ q * ks.length + i ∧ q * ks.length + i < (x.ev Nums.σ).toNat * ks.length + j + u.cells.toList.length) := by
            rintro ⟨a1, a2⟩
            apply h3
            have hq2 : q = (x.ev Nums.σ).toNat := by
              rcases Nat.lt_trichotomy q (x.ev Nums.σ).toNat with c | c | c
              · exfalso
                have := Nat.mul_le_mul_right ks.length (show q + 1 ≤ (x.ev Nums.σ).toNat from c)
                rw [Nat.add_mul, Nat.one_mul] at this
                omega
              · exact c
              · exfalso
                have := Nat.mul_le_mul_right ks.length (show (x.ev Nums.σ).toNat + 1 ≤ q from c)
                rw [Nat.add_mul, Nat.one_mul] at this
                omega
            subst hq2
            exact ⟨rfl, by omega, by omega⟩
          rw [if_neg hne, h4, Array.getElem?_toList]
          exact hat q i k hq hki
      · intro q o' ho'
        rcases put_spec ho' with ⟨q1, q2⟩ | q1
        · exact .inl ⟨q1, by cases q2; rfl⟩
        · exact .inr q1
  · subst hll
    have hs0 : s = 0 := by rw [← hlen, he]; rfl
    have hnil : u.cells.toList = [] := List.eq_nil_of_length_eq_zero (by rw [hcl, hs0])
    have hfit : (0 : Nat) + u.cells.toList.length ≤ cur.size := by rw [hnil]; simp
    refine ⟨w, ?_, ?_, rfl⟩
    · simp only [storeVar, Sem.run_bind, Sem.run_pure, Result.andThen_ok, sizeT_run hs w, hsz, ne_eq, not_true_eq_false, if_false]
      have : u.cells = #[] := by apply Array.ext'; simpa using hnil
      rw [this]
      rfl
    · rw [put_next]
      refine Stp.change hr (n := n) (b := b) (s := s0) (by rw [hg]; rfl) hb (o := .recs l' ks e) ⟨cur, hcur, hcs, hk, hat⟩ rfl rfl rfl (Nat.le_refl _) (fun q _ hq => rfl) ?_
      intro q o' ho'
      rcases put_spec ho' with ⟨q1, q2⟩ | q1
      · exact .inl ⟨q1, by cases q2; rfl⟩
      · exact .inr q1
theorem loud_val {o : Oper} {a : Act} {vs : List AV} {v : AV} {h h' : AH} {w : World} (hl : aloud P o.op vs h = some (.val v h')) (hr : HR ρ h.get h.next w) (hv : VRs ρ vs (o.op.operands.toList.map a.eval)) : LoudVal P ρ a o h w v h' := by
  unfold LoudVal execOp
  generalize o.op = op at hl hv
  have undR : ∀ ρ : Ren, VR ρ und undef := fun ρ => by unfold und VR; exact ⟨#[], rfl, VRs.nil⟩
  cases op with
  | store t p x =>
    simp only [aloud] at hl
    split at hl <;> first | (cases hl; done) | skip
    case h_2 =>
      rename_i n q z j y
      split at hl <;> first | (cases hl; done) | skip
      rename_i s hs
      split at hl <;> first | (cases hl; done) | skip
      rename_i hlen
      have hlen := Nat.eq_of_beq_eq_true hlen
      split at hl <;> first | (cases hl; done) | skip
      rename_i h1
      split at hl <;> first | (cases hl; done) | skip
      rename_i l ks e hg
      split at hl <;> first | (cases hl; done) | skip
      rename_i hz
      have hz := Nat.eq_of_beq_eq_true hz
      subst hz
      obtain ⟨y1, y2, hy, hr1, hr2⟩ := hv.two
      simp [Op.operands] at hy
      obtain ⟨e1, e2⟩ := hy
      unfold VR at hr1
      obtain ⟨b, s0, hb, rfl⟩ := hr1
      obtain ⟨w', hrun, hst, rfl⟩ := recStore_sound hl hr hs hlen h1 hg hb hr2 rfl
      refine ⟨ρ, undef, w', .skip, ?_, .inr ⟨rfl, rfl⟩, hst, undR ρ⟩
      simp only [e1, e2, Instr.storeAt, Instr.sureAddr, Sem.run_bind, Sem.run_pure, Result.andThen_ok, hrun]
    rename_i n off y
    split at hl <;> first | (cases hl; done) | skip
    rename_i s hs
    split at hl <;> first | (cases hl; done) | skip
    rename_i hlen
    have hlen := Nat.eq_of_beq_eq_true hlen
    split at hl <;> first | (cases hl; done) | skip
    rename_i h1
    split at hl <;> first | (cases hl; done) | skip
    rotate_left
    · rename_i l ks e hg
      split at hl <;> first | (cases hl; done) | skip
      obtain ⟨y1, y2, hy, hr1, hr2⟩ := hv.two
      simp [Op.operands] at hy
      obtain ⟨e1, e2⟩ := hy
      obtain ⟨b, s0, hb, rfl⟩ := hr1.ptr_inv
      obtain ⟨w', hrun, hst, rfl⟩ := recStore_sound (off := off) hl hr hs hlen h1 hg hb hr2 (by simp only [SE.ev]; exact recAt_eq off)
      refine ⟨ρ, undef, w', .skip, ?_, .inr ⟨rfl, rfl⟩, hst, undR ρ⟩
      simp only [e1, e2, Instr.storeAt, Instr.sureAddr, Sem.run_bind, Sem.run_pure, Result.andThen_ok, hrun]
    rename_i cs k e hg
    split at hl <;> first | (cases hl; done) | skip
    rename_i hk
    have hk : off + s ≤ k := Nat.le_of_ble_eq_true hk
    simp only [Option.some.injEq, AN.val.injEq] at hl
    obtain ⟨rfl, rfl⟩ := hl
    obtain ⟨y1, y2, hy, hr1, hr2⟩ := hv.two
    simp [Op.operands] at hy
    obtain ⟨e1, e2⟩ := hy
    obtain ⟨b, s0, hb, rfl⟩ := hr1.ptr_inv
    obtain ⟨b', s', hb', hO⟩ := hr.obj _ _ hg
    rw [hb] at hb'
    cases hb'
    obtain ⟨cur, hcur, hcs, hks, hcells⟩ := hO
    have hc := hr2.cells
    have hcl : y2.cells.toList.length = s := by rw [← hc.len, hlen]
    have hfit : off + y2.cells.toList.length ≤ cur.size := by rw [hcl]; omega
    have hst := run_storeCells_at P b off e y2.cells.toList 0 cur w hcur (by simpa using hfit) (hc.ones h1)
    simp only [Nat.add_zero] at hst
    refine ⟨ρ, undef, w.setRow b (cur.toList.take off ++ y2.cells.toList ++ cur.toList.drop (off + y2.cells.toList.length)).toArray, .skip, ?_, .inr ⟨rfl, rfl⟩, ?_, undR ρ⟩
    · have hsz : y2.cells.size = s := by simpa using hcl
      simp only [e1, e2, Instr.storeAt, Instr.sureAddr, storeVar, Sem.run_bind, Sem.run_pure, Result.andThen_ok, sizeT_run hs w, hsz, ne_eq, not_true_eq_false, if_false, hst]
    · rw [put_next]
      refine Stp.change hr (n := n) (b := b) (s := s0) (by rw [hg]; rfl) hb (o := .cells (setN cs off y.cells) k e) ?_ rfl rfl rfl (by simp) (fun q _ hq => setRow_other w b q _ hq) ?_
      · rw [setRow_heap w b cur _ e (0, 0) hcur]
        exact ⟨_, rfl, by rw [splice_size hfit]; exact hcs, hks, splice_ok hcells hc h1 hfit⟩
      · intro q o' ho'
        rcases put_spec ho' with ⟨q1, q2⟩ | q1
        · exact .inl ⟨q1, by cases q2; rfl⟩
        · exact .inr q1
  | mapUpdate t m k x =>
    simp only [aloud] at hl
    obtain ⟨w', hrun, hst, rfl⟩ := mapPut_sound hl hr (u1 := a.eval m) (u2 := a.eval k) (u3 := a.eval x) (by simpa [Op.operands] using hv)
    exact ⟨ρ, undef, w', .skip, by simp [hrun], .inr ⟨rfl, rfl⟩, hst, undR ρ⟩
  | insert t m k x =>
    simp only [aloud] at hl
    obtain ⟨w', hrun, hst, rfl⟩ := mapPut_sound hl hr (u1 := a.eval m) (u2 := a.eval k) (u3 := a.eval x) (by simpa [Op.operands] using hv)
    exact ⟨ρ, undef, w', .skip, by simp [hrun], .inr ⟨rfl, rfl⟩, hst, undR ρ⟩
  | mapEntry t m k =>
    simp only [aloud] at hl
    obtain ⟨y, w', hrun, hst, hvr⟩ := mapEnt_sound hl hr (u1 := a.eval m) (u2 := a.eval k) (by simpa [Op.operands] using hv)
    exact ⟨ρ, y, w', .value y, by simp [hrun], .inl rfl, hst, hvr⟩
  | entryStore t m k x =>
    simp only [aloud] at hl
    obtain ⟨w', hrun, hst, rfl⟩ := entSto_sound (P := P) (t := t) hl hr (u1 := a.eval m) (u2 := a.eval k) (u3 := a.eval x) (by simpa [Op.operands] using hv)
    exact ⟨ρ, undef, w', .skip, by simp [hrun], .inr ⟨rfl, rfl⟩, hst, undR ρ⟩
  | range t x =>
    simp only [aloud] at hl
    split at hl <;> first | (cases hl; done) | skip
    rename_i kt et hu
    obtain ⟨ρ', y, w', hrun, hst, hvr⟩ := arange_sound hu hl hr (u1 := a.eval x) (by simpa [Op.operands] using hv)
    exact ⟨ρ', y, w', .value y, by simp [hrun], .inl rfl, hst, hvr⟩
  | next x st =>
    simp only [aloud] at hl
    split at hl <;> first | (cases hl; done) | skip
    obtain ⟨y, w', hrun, hst, hvr⟩ := anext_sound (P := P) (ty := o.type) hl hr (u1 := a.eval x) (by simpa [Op.operands] using hv)
    exact ⟨ρ, y, w', .value y, by simp [hrun], .inl rfl, hst, hvr⟩
  | call c =>
    simp only [aloud] at hl
    obtain ⟨callee, args, argTypes⟩ := c
    cases callee with
    | builtin b =>
      have hop : (Op.call ⟨.builtin b, args, argTypes⟩).operands = args := by simp [Op.operands, Call.operands]
      rw [hop] at hv
      cases b <;> first
        | (cases hl; done)
        | skip
      rotate_left
      · dsimp only at hl
        split at hl <;> first | (cases hl; done) | skip
        rename_i t hat
        have h2 : ∃ u1 u2, args.toList.map a.eval = [u1, u2] := by
          unfold aloud.mapDel at hl
          split at hl <;> first | (cases hl; done) | skip
          split at hl <;> first | (cases hl; done) | skip
          split at hl <;> first | (cases hl; done) | skip
          obtain ⟨y1, y2, hy, _, _⟩ := hv.two
          exact ⟨y1, y2, hy⟩
        obtain ⟨u1, u2, hy⟩ := h2
        rw [hy] at hv
        obtain ⟨w', hrun, hst, rfl⟩ := mapDel_sound (ty := o.type) hat hl hr hv
        refine ⟨ρ, .tuple #[], w', .value (.tuple #[]), ?_, .inl rfl, hst, by unfold und VR; exact ⟨_, rfl, VRs.nil⟩⟩
        have harg : args.map a.eval = #[u1, u2] := by
          apply Array.ext'
          rw [Array.toList_map, hy]
        simp only [resolve, invoke, builtin, Sem.run_bind, Sem.run_pure, Result.andThen_ok, harg]
        rw [hrun]
        rfl
      dsimp only at hl
      split at hl <;> first | (cases hl; done) | skip
      rename_i s x t t'
      split at hl <;> first | (cases hl; done) | skip
      rename_i htt
      have htt := Nat.eq_of_beq_eq_true htt
      subst htt
      split at hl <;> first | (cases hl; done) | skip
      rename_i v' h1 ha
      simp only [Option.some.injEq, AN.val.injEq] at hl
      obtain ⟨rfl, rfl⟩ := hl
      obtain ⟨y1, y2, hy, hr1, hr2⟩ := hv.two
      obtain ⟨ρ', y, w', hrun, hst, hvr⟩ := append_sound (ty := o.type) ha hr hr1 hr2
      refine ⟨ρ', y, w', .value y, ?_, .inl rfl, hst, hvr⟩
      have harg : args.map a.eval = #[y1, y2] := by
        apply Array.ext'
        rw [Array.toList_map, hy]
      simp only [resolve, invoke, builtin, Sem.run_bind, Sem.run_pure, Result.andThen_ok, harg]
      rw [show (Builtin.append_ { toList := [t, t] } o.type #[y1, y2]).run P w = .ok y w' from hrun]
      rfl
    | value f =>
      dsimp only at hl
      split at hl <;> cases hl
    | invoke r m => cases hl
  | _ => simp [aloud] at hl
theorem loud_call {o : Oper} {a : Act} {vs : List AV} {f : FuncId} {args : List AV} {h : AH} (hl : aloud P o.op vs h = some (.call f args)) (hv : VRs ρ vs (o.op.operands.toList.map a.eval)) (hf : FnOk P f) :
    ∃ args' : Array Value, VRs ρ args args'.toList ∧ ∀ w, (execOp a.eval o).run P w = .ok (.enter f args') w := by
  unfold execOp
  generalize o.op = op at hl hv
  cases op with
  | store t p x =>
    simp only [aloud] at hl
    have hno : ∀ {n : Nat} {l x : SE} {ks : List CK} {e : TypeId} {j : Nat} {v : AV}, aloud.recStore n l x ks e j v h ≠ some (.call f args) := by
      intro n l x ks e j v hc
      unfold aloud.recStore at hc
      split at hc <;> first | (cases hc; done) | skip
      split at hc <;> cases hc
    split at hl <;> first | (cases hl; done) | skip
    · split at hl <;> first | (cases hl; done) | skip
      split at hl <;> first | (cases hl; done) | skip
      split at hl <;> first | (cases hl; done) | skip
      split at hl <;> first | (cases hl; done) | skip
      · split at hl <;> cases hl
      · split at hl <;> first | (cases hl; done) | skip
        exact absurd hl hno
    · split at hl <;> first | (cases hl; done) | skip
      split at hl <;> first | (cases hl; done) | skip
      split at hl <;> first | (cases hl; done) | skip
      split at hl <;> first | (cases hl; done) | skip
      split at hl <;> first | (cases hl; done) | skip
      exact absurd hl hno
  | mapUpdate t m k x =>
    simp only [aloud, aloud.mapPut] at hl
    split at hl <;> first | (cases hl; done) | skip
    split at hl <;> first | (cases hl; done) | skip
    split at hl <;> first | (cases hl; done) | skip
    split at hl <;> cases hl
  | insert t m k x =>
    simp only [aloud, aloud.mapPut] at hl
    split at hl <;> first | (cases hl; done) | skip
    split at hl <;> first | (cases hl; done) | skip
    split at hl <;> first | (cases hl; done) | skip
    split at hl <;> cases hl
  | mapEntry t m k =>
    simp only [aloud, aloud.mapEnt] at hl
    split at hl <;> first | (cases hl; done) | skip
    split at hl <;> first | (cases hl; done) | skip
    split at hl <;> first | (cases hl; done) | skip
    split at hl <;> first | (cases hl; done) | skip
    · split at hl <;> cases hl
    · split at hl <;> cases hl
  | entryStore t m k x =>
    simp only [aloud, aloud.entSto] at hl
    split at hl <;> first | (cases hl; done) | skip
    split at hl <;> first | (cases hl; done) | skip
    split at hl <;> cases hl
  | range t x =>
    simp only [aloud, aloud.arange] at hl
    split at hl <;> first | (cases hl; done) | skip
    split at hl <;> first | (cases hl; done) | skip
    · split at hl <;> cases hl
    · split at hl <;> first | (cases hl; done) | skip
      split at hl <;> cases hl
  | next x st =>
    simp only [aloud, aloud.anext] at hl
    split at hl <;> first | (cases hl; done) | skip
    split at hl <;> first | (cases hl; done) | skip
    split at hl <;> first | (cases hl; done) | skip
    split at hl <;> first | (cases hl; done) | skip
    split at hl <;> first | (cases hl; done) | skip
    split at hl <;> first | (cases hl; done) | skip
    split at hl <;> cases hl
  | call c =>
    simp only [aloud] at hl
    obtain ⟨callee, cargs, argTypes⟩ := c
    cases callee with
    | builtin b =>
      cases b <;> first
        | (cases hl; done)
        | skip
      rotate_left
      · simp only [aloud.mapDel] at hl
        split at hl <;> first | (cases hl; done) | skip
        split at hl <;> first | (cases hl; done) | skip
        split at hl <;> first | (cases hl; done) | skip
        split at hl <;> first | (cases hl; done) | skip
        split at hl <;> cases hl
      dsimp only at hl
      split at hl <;> first | (cases hl; done) | skip
      split at hl <;> first | (cases hl; done) | skip
      split at hl <;> cases hl
    | value fv =>
      dsimp only at hl
      split at hl <;> first | (cases hl; done) | skip
      rename_i g x y l
      simp only [Option.some.injEq, AN.call.injEq] at hl
      obtain ⟨rfl, rfl⟩ := hl
      have hop : (Op.call ⟨.value fv, cargs, argTypes⟩).operands.toList.map a.eval = a.eval fv :: (cargs.map a.eval).toList := by simp [Op.operands, Call.operands]
      rw [hop] at hv
      obtain ⟨u, us, hy, h1, h2⟩ := hv.uncons
      simp only [List.cons.injEq] at hy
      obtain ⟨rfl, rfl⟩ := hy
      unfold VR at h1
      obtain ⟨fa, ca, hfv, hfa, hca⟩ := h1
      obtain ⟨fn, c, q1, q2, q3⟩ := hf
      refine ⟨fa ++ cargs.map a.eval ++ ca, ?_, fun w => ?_⟩
      · simp only [Array.toList_append, List.append_assoc]
        exact hfa.append (h2.append hca)
      · have q2' : ¬ fn.name = "runtime.NumGoroutine" := by simpa using q2
        simp [resolve, hfv, Deferred.ofValue, invoke, callFunc, q1, q2', q3]
    | invoke r m => cases hl
  | _ => simp [aloud] at hl
/-- what a call gives -/
def CallS (P : Program) (call : FuncId → List AV → AH → Option (AV × AH)) : Prop :=
  ∀ f args h v h', call f args h = some (v, h') → FnOk P f ∧ ∀ (ρ : Ren) (w : World) (args' : Array Value), HR ρ h.get h.next w → VRs ρ args args'.toList →
    Calls P f args' w fun e w' => ∃ ρ' x, e = .returned x ∧ VR ρ' v x ∧ Stp ρ h.get h.next w ρ' h'.get h'.next w'
theorem loudOp_wp {call : FuncId → List AV → AH → Option (AV × AH)} (hc : CallS P call) {o : Oper} {a : Act} {vs : List AV} {v : AV} {h h' : AH} {w : World} {K : Act → World → Prop} {Q : Exit → Act → World → Prop}
    (hk : kd o.op = .loud) (hop : opA P call o.op vs h = some (v, h')) (hr : HR ρ h.get h.next w) (hv : VRs ρ vs (o.op.operands.toList.map a.eval))
    (hK : ∀ ρ' x w', Stp ρ h.get h.next w ρ' h'.get h'.next w' → VR ρ' v x → K (a.put o.dst x) w') : o.wp P a w K Q := by
  unfold opA at hop
  rw [hk] at hop
  dsimp only at hop
  split at hop <;> first | (cases hop; done) | skip
  · rename_i v1 h1 hl
    simp only [Option.some.injEq, Prod.mk.injEq] at hop
    obtain ⟨rfl, rfl⟩ := hop
    obtain ⟨ρ', x, w', nx, hrun, hnx, hst, hvr⟩ := loud_val hl hr hv
    unfold Oper.wp
    rw [hrun]
    rcases hnx with rfl | ⟨rfl, rfl⟩
    · exact hK ρ' x w' hst hvr
    · exact hK ρ' undef w' hst hvr
  · rename_i f args hl
    obtain ⟨hf, hcall⟩ := hc _ _ _ _ _ hop
    obtain ⟨args', hargs, hrun⟩ := loud_call hl hv hf
    unfold Oper.wp
    rw [hrun w]
    refine (hcall ρ w args' hr hargs).mono ?_
    rintro e w' ⟨ρ', x, rfl, hvr, hst⟩
    exact hK ρ' x w' hst hvr
/-- one operation, where the text puts it -/
theorem op_wp {call : FuncId → List AV → AH → Option (AV × AH)} (hc : CallS P call) {o : Oper} {a : Act} {vs : List AV} {v : AV} {h h' : AH} {w : World} {K : Act → World → Prop} {Q : Exit → Act → World → Prop}
    (hop : opA P call o.op vs h = some (v, h')) (hr : HR ρ h.get h.next w) (hv : VRs ρ vs (o.op.operands.toList.map a.eval))
    (hK : ∀ ρ' x w', Stp ρ h.get h.next w ρ' h'.get h'.next w' → VR ρ' v x → K (a.put o.dst x) w') : o.wp P a w K Q := by
  cases hk : kd o.op with
  | pure =>
    unfold opA at hop
    rw [hk] at hop
    dsimp only at hop
    split at hop <;> first | (cases hop; done) | skip
    rename_i u hu
    simp only [Option.some.injEq, Prod.mk.injEq] at hop
    obtain ⟨rfl, rfl⟩ := hop
    obtain ⟨x, hx, hrun⟩ := pure_sound hu hv
    unfold Oper.wp
    rw [hrun w]
    exact hK ρ x w (Stp.refl hr) hx
  | read =>
    unfold opA at hop
    rw [hk] at hop
    dsimp only at hop
    split at hop <;> first | (cases hop; done) | skip
    rename_i u hu
    simp only [Option.some.injEq, Prod.mk.injEq] at hop
    obtain ⟨rfl, rfl⟩ := hop
    obtain ⟨x, hx, hrun⟩ := read_sound hr hu hv
    unfold Oper.wp
    rw [hrun]
    exact hK ρ x w (Stp.refl hr) hx
  | alloc =>
    unfold opA at hop
    rw [hk] at hop
    dsimp only at hop
    split at hop <;> first | (cases hop; done) | skip
    rename_i ao k ha
    split at hop <;> first | (cases hop; done) | skip
    rename_i h1 hfr
    simp only [Option.some.injEq, Prod.mk.injEq] at hop
    obtain ⟨rfl, rfl⟩ := hop
    obtain ⟨obj, s, hO, hrun⟩ := alloc_sound ha hv
    obtain ⟨x, hrx, hx⟩ := hrun w
    obtain ⟨hn, hg⟩ := fresh_spec hfr
    obtain ⟨hst, hup⟩ := Stp.new (w' := w.alloc obj) hr h.get (fun _ _ h => h) hn hg hO rfl rfl rfl rfl
    unfold Oper.wp
    rw [hrx]
    exact hK _ x _ hst (hx _ _ hup)
  | loud => exact loudOp_wp hc hk hop hr hv hK
end
end Go.Proofs.YtmnpccpfejgkmaaGreat.Ex
