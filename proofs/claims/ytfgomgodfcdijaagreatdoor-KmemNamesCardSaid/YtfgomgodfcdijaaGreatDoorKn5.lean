/-
  Texts of this claim, joined. No condition.
-/
import Derived.Test.YtfgomgodfcdijaaGreatDoorKn4
/-
  The runner: reads, and what makes a block. No condition.
-/
namespace Go.Proofs.YtfgomgodfcdijaaGreatDoor.Ex
open Go
variable [Nums]
section
variable {P : Program} {ρ ρ' : Ren}
omit [Nums] in
theorem getN_len {cs : T AV} : ∀ {n i : Nat} {l : List AV}, getN cs i n = some l → l.length = n
  | 0, _, l, h => by simp only [getN, Option.some.injEq] at h; subst h; rfl
  | n + 1, i, l, h => by
    unfold getN at h
    split at h <;> first | (cases h; done) | skip
    split at h <;> first | (cases h; done) | skip
    rename_i m hm
    simp only [Option.some.injEq] at h; subst h
    simp [getN_len hm]
def CellsOk (ρ : Ren) (cs : T AV) (cur : Array Value) : Prop := ∀ i v, cs.get i = some v → v.one = true ∧ ∃ y, cur[i]? = some y ∧ VR ρ v y
theorem getN_sound {cs : T AV} {cur : Array Value} (hc : CellsOk ρ cs cur) : ∀ {n i : Nat} {l : List AV}, getN cs i n = some l → ∃ ys : List Value, ys.length = n ∧ VRs ρ l ys ∧ (∀ (j : Nat) y, ys[j]? = some y → cur[i + j]? = some y) ∧ ∀ y ∈ ys, y.oneCell' = true
  | 0, _, l, h => by simp only [getN, Option.some.injEq] at h; subst h; exact ⟨[], rfl, VRs.nil, by simp, by simp⟩
  | n + 1, i, l, h => by
    unfold getN at h
    split at h <;> first | (cases h; done) | skip
    rename_i v hv
    split at h <;> first | (cases h; done) | skip
    rename_i m hm
    simp only [Option.some.injEq] at h; subst h
    obtain ⟨h1, y, hy, hr⟩ := hc _ _ hv
    obtain ⟨ys, hl, hrs, hg, ho⟩ := getN_sound hc hm
    refine ⟨y :: ys, by simp [hl], VRs.cons hr hrs, fun j z hz => ?_, fun z hz => ?_⟩
    · cases j with
      | zero => simp at hz; subst hz; simpa using hy
      | succ j =>
        have := hg j z (by simpa using hz)
        rwa [show Nat.add i 1 + j = i + (j + 1) from by show i + 1 + j = _; omega] at this
    · rcases List.mem_cons.1 hz with rfl | hz
      · exact hr.oneCell h1
      · exact ho z hz
omit [Nums] in
theorem setN_get : ∀ {l : List AV} {cs : T AV} {i j : Nat} {v : AV}, (setN cs i l).get j = some v → (i ≤ j ∧ j < i + l.length ∧ l[j - i]? = some v) ∨ ((j < i ∨ i + l.length ≤ j) ∧ cs.get j = some v)
  | [], cs, i, j, v, h => .inr ⟨by simp; omega, h⟩
  | x :: l, cs, i, j, v, h => by
    unfold setN at h
    rcases setN_get h with ⟨h1, h2, h3⟩ | ⟨h1, h2⟩
    · have h1 : i + 1 ≤ j := h1
      have h2 : j < i + 1 + l.length := h2
      refine .inl ⟨by omega, by simp; omega, ?_⟩
      have h3 : l[j - (i + 1)]? = some v := h3
      rw [show j - i = (j - (i + 1)) + 1 from by omega, List.getElem?_cons_succ]
      exact h3
    · have h1 : j < i + 1 ∨ i + 1 + l.length ≤ j := h1
      rcases T.get_put h2 with ⟨h3, h4⟩ | ⟨h3, h4⟩
      · subst h3
        refine .inl ⟨Nat.le_refl _, by simp, ?_⟩
        rw [Nat.sub_self]
        simpa using h4
      · refine .inr ⟨?_, h4⟩
        simp only [List.length_cons]
        omega
omit [Nums] in
theorem T.get_e {α : Type} (j : Nat) : (T.e : T α).get j = none := T.getP_e _
theorem cellsOf_or {l : List AV} {ys : List Value} (h : VRs ρ l ys) (h1 : allOne l = true) (e : TypeId) : OR ρ (cellsOf e l) ys.length (some (.cells ys.toArray e (0, 0))) := by
  refine ⟨ys.toArray, rfl, by simp, by rw [h.len]; exact Nat.le_refl _, fun i v hv => ?_⟩
  rcases setN_get hv with ⟨_, _, h3⟩ | ⟨_, h3⟩
  · rw [Nat.sub_zero] at h3
    refine ⟨allOne_mem h1 v (List.mem_of_getElem? h3), ?_⟩
    obtain ⟨y, hy, hr⟩ := h.get h3
    exact ⟨y, by simpa using hy, hr⟩
  · rw [T.get_e] at h3; cases h3

theorem toSE_sound {y : AV} {k : IntKind} {e : SE} {u : Value} (h : toSE y = some (k, e)) (hv : VR ρ y u) : u = .int k (e.ev Nums.σ) := by
  unfold toSE at h
  split at h <;> first | (cases h; done) | skip
  · simp only [Option.some.injEq, Prod.mk.injEq] at h
    obtain ⟨rfl, rfl⟩ := h
    exact hv.int_inv
  · simp only [Option.some.injEq, Prod.mk.injEq] at h
    obtain ⟨rfl, rfl⟩ := h
    unfold VR at hv
    exact hv
theorem lookE_sound {d k : IntKind} {e : SE} : ∀ {es : List (AV × AV)} {xs : List MapEntry} {r : Option (Nat × AV)} (idx : Nat), lookE k e es = some r → MR ρ es xs →
    (r = none ∧ Instr.findNow (.int d) (.int k (e.ev Nums.σ)) xs idx = some none) ∨ ∃ j v x, r = some (j, v) ∧ Instr.findNow (.int d) (.int k (e.ev Nums.σ)) xs idx = some (some (idx + j, x.val)) ∧ xs[j]? = some x ∧ x.key = .int k (e.ev Nums.σ) ∧ VR ρ v x.val
  | [], xs, r, idx, h, hm => by
    unfold lookE at h
    simp only [Option.some.injEq] at h; subst h
    have : xs = [] := hm
    subst this
    exact .inl ⟨rfl, rfl⟩
  | (a, v) :: es, xs, r, idx, h, hm => by
    obtain ⟨x, xs', rfl, h1, h2, h3⟩ := hm
    unfold lookE at h
    split at h <;> first | (cases h; done) | skip
    rename_i k' e' hse
    have hk := toSE_sound hse h1
    split at h <;> first | (cases h; done) | skip
    rename_i hkk
    have hkk := of_decide_eq_true hkk
    subst hkk
    split at h <;> first | (cases h; done) | skip
    · rename_i hq
      have hq := askEq_ok hq
      simp only [Option.some.injEq] at h; subst h
      have he : e.ev Nums.σ = e'.ev Nums.σ := eq_of_beq hq
      refine .inr ⟨0, v, x, rfl, ?_, rfl, by rw [hk, he], h2⟩
      simp [Instr.findNow, Instr.sameNow, hk, he]
    · rename_i hq
      have hq := askEq_ok hq
      have step : ∀ r', Instr.findNow (.int d) (.int k (e.ev Nums.σ)) xs' (idx + 1) = r' → Instr.findNow (.int d) (.int k (e.ev Nums.σ)) (x :: xs') idx = r' := fun r' hr' => by
        simp only [Instr.findNow, Instr.sameNow, hk, if_true, hq]
        exact hr'
      split at h
      · rename_i n u hn
        simp only [Option.some.injEq] at h; subst h
        rcases lookE_sound (d := d) (idx + 1) hn h3 with ⟨h4, _⟩ | ⟨j, v', x', h4, h5, h6, h7, h8⟩
        · cases h4
        · cases h4
          exact .inr ⟨n + 1, u, x', rfl, by rw [step _ h5, show idx + 1 + n = idx + (n + 1) by omega], by simpa using h6, h7, h8⟩
      · rename_i hne
        rcases lookE_sound (d := d) (idx + 1) h h3 with ⟨h4, h5⟩ | ⟨j, v', x', h4, h5, h6, h7, h8⟩
        · exact .inl ⟨h4, step _ h5⟩
        · exact absurd (h.trans (congrArg some h4)) (hne _ _)
theorem lookAV_sound {d : IntKind} {es : List (AV × AV)} {xs : List MapEntry} {y : AV} {y2 : Value} {r : Option (Nat × AV)} (h : lookAV es y = some r) (hm : MR ρ es xs) (hy : VR ρ y y2) :
    ∃ k i, y2 = .int k i ∧ ((r = none ∧ Instr.findNow (.int d) (.int k i) xs 0 = some none) ∨ ∃ j v x, r = some (j, v) ∧ Instr.findNow (.int d) (.int k i) xs 0 = some (some (j, x.val)) ∧ xs[j]? = some x ∧ x.key = .int k i ∧ VR ρ v x.val) := by
  unfold lookAV at h
  split at h <;> first | (cases h; done) | skip
  rename_i k e hse
  refine ⟨k, _, toSE_sound hse hy, ?_⟩
  rcases lookE_sound (d := d) 0 h hm with h1 | ⟨j, v, x, h1, h2, h3⟩
  · exact .inl h1
  · exact .inr ⟨j, v, x, h1, by rw [h2, Nat.zero_add], h3⟩
omit [Nums] in
theorem checkKey_int (b : Bool) (n : Nat) {kt : TypeId} {d k : IntKind} {i : Int} (hu : P.underlying kt = some (.int d)) (w : World) : (Instr.checkKey b (n + 1) kt (.int k i)).run P w = .ok () w := by
  unfold Instr.checkKey
  rw [Sem.run_bind, run_underlying hu w]
  rfl
omit [Nums] in
theorem findKey_run {es : List MapEntry} {kt : TypeId} {d k : IntKind} {i : Int} {r : Option (Nat × Value)} (hu : P.underlying kt = some (.int d)) (h : Instr.findNow (.int d) (.int k i) es 0 = some r) (w : World) :
    (Instr.findKey kt (.int k i) es).run P w = .ok r w := by
  unfold Instr.findKey
  rw [Sem.run_bind, run_underlying hu w]
  simp only [Result.andThen_ok, h]
  rfl
omit [Nums] in
theorem getObj_map {r : Nat} {w : World} {xs : Array MapEntry} {c : Nat} (h : w.heap[r]? = some (.map xs c)) : (getObj r).run P w = .ok (.map xs c) w := by
  simp only [getObj, Sem.run, h]
theorem litV1_sound {y : AV} {v x : Value} (h : litV1 y = some v) (hx : VR ρ y x) : x = v := by
  unfold litV1 at h
  split at h <;> first | (cases h; done) | skip
  · cases h; unfold VR at hx; exact hx
  · cases h; unfold VR at hx; exact hx
theorem litVs_sound : ∀ {l : List AV} {vs xs : List Value}, litVs l = some vs → VRs ρ l xs → xs = vs
  | [], vs, xs, h, hx => by
    unfold litVs at h
    cases h
    have := VRs.len hx
    exact List.length_eq_zero_iff.1 this.symm
  | v :: l, vs, xs, h, hx => by
    unfold litVs at h
    split at h <;> first | (cases h; done) | skip
    rename_i x hv
    split at h <;> first | (cases h; done) | skip
    rename_i ys hvs
    cases h
    obtain ⟨y, zs, rfl, h1, h2⟩ := hx.uncons
    rw [litV1_sound hv h1, litVs_sound hvs h2]
theorem litV_sound {y : AV} {v x : Value} (h : litV y = some v) (hx : VR ρ y x) : x = v := by
  unfold litV at h
  split at h <;> first | (cases h; done) | skip
  split at h <;> first | (cases h; done) | skip
  rename_i vs hvs
  cases h
  unfold VR at hx
  obtain ⟨a, rfl, ha⟩ := hx
  have := litVs_sound hvs ha
  subst this
  rfl
theorem litEq_go : ∀ {a b : List AV} {ys zs : List Value}, litEq.go a b = true → VRs ρ a ys → VRs ρ b zs → ys = zs
  | [], [], ys, zs, _, h1, h2 => by
    have := VRs.len h1
    have e1 := List.length_eq_zero_iff.1 this.symm
    have := VRs.len h2
    have e2 := List.length_eq_zero_iff.1 this.symm
    rw [e1, e2]
  | x :: a, y :: b, ys, zs, h, h1, h2 => by
    unfold litEq.go at h
    split at h <;> first | (cases h; done) | skip
    · rename_i e1 e2
      cases e1
    · rename_i k n a' k' n' b' e1 e2
      cases e1
      cases e2
      rw [Bool.and_eq_true, Bool.and_eq_true] at h
      obtain ⟨hk, hn, hr⟩ := h
      obtain ⟨u, us, rfl, g1, g2⟩ := h1.uncons
      obtain ⟨v, vs, rfl, g3, g4⟩ := h2.uncons
      unfold VR at g1 g3
      rw [g1, g3, of_decide_eq_true hk, eq_of_beq hn, litEq_go hr g2 g4]
  | [], _ :: _, _, _, h, _, _ => by unfold litEq.go at h; cases h
  | x :: _, [], _, _, h, _, _ => by cases x <;> (unfold litEq.go at h; cases h)
theorem litEq_sound {x y : AV} {u v : Value} (h : litEq y x = true) (hy : VR ρ y v) (hx : VR ρ x u) : u = v := by
  unfold litEq at h
  split at h <;> first | (cases h; done) | skip
  unfold VR at hx hy
  obtain ⟨a, rfl, ha⟩ := hy
  obtain ⟨b, rfl, hb⟩ := hx
  have := litEq_go h ha hb
  rw [Array.ext' this]
omit [Nums] in
theorem findAsk_cons {kt : TypeId} {k : Value} {e : MapEntry} {es : List MapEntry} {i : Nat} {b : Bool} (w : World) (h : (Op.equal kt k e.key).run P w = .ok b w) :
    (Instr.findAsking kt k (e :: es) i).run P w = if b then .ok (some (i, e.val)) w else (Instr.findAsking kt k es (i + 1)).run P w := by
  rw [Instr.findAsking, Sem.run_bind, h, Result.andThen_ok]
  cases b <;> rfl
theorem lookA_sound {kt : TypeId} {y : AV} {y2 : Value} (hy : VR ρ y y2) : ∀ {es : List (AV × AV)} {xs : List MapEntry} {r : Option (Nat × AV)} (idx : Nat), lookA P litEq kt y es = some r → MR ρ es xs →
    (r = none ∧ ∀ w, (Instr.findAsking kt y2 xs idx).run P w = .ok none w) ∨ ∃ j v x, r = some (j, v) ∧ (∀ w, (Instr.findAsking kt y2 xs idx).run P w = .ok (some (idx + j, x.val)) w) ∧ xs[j]? = some x ∧ x.key = y2 ∧ VR ρ v x.val
  | [], xs, r, idx, h, hm => by
    unfold lookA at h
    simp only [Option.some.injEq] at h; subst h
    have : xs = [] := hm
    subst this
    exact .inl ⟨rfl, fun w => rfl⟩
  | (a, v) :: es, xs, r, idx, h, hm => by
    obtain ⟨x, xs', rfl, h1, h2, h3⟩ := hm
    unfold lookA at h
    split at h <;> first | (cases h; done) | skip
    · rename_i hq
      have hq := fun w => aeq_sound (P := P) (ρ := ρ) 40 9960 _ _ _ _ _ _ hq hy h1 w
      split at h <;> first | (cases h; done) | skip
      rename_i hl
      simp only [Option.some.injEq] at h; subst h
      exact .inr ⟨0, v, x, rfl, fun w => by rw [findAsk_cons w (hq w)]; rfl, rfl, litEq_sound hl hy h1, h2⟩
    · rename_i hq
      have hq := fun w => aeq_sound (P := P) (ρ := ρ) 40 9960 _ _ _ _ _ _ hq hy h1 w
      have step : ∀ w, (Instr.findAsking kt y2 (x :: xs') idx).run P w = (Instr.findAsking kt y2 xs' (idx + 1)).run P w := fun w => by rw [findAsk_cons w (hq w)]; rfl
      split at h
      · rename_i n u hn
        simp only [Option.some.injEq] at h; subst h
        rcases lookA_sound hy (idx + 1) hn h3 with ⟨h4, _⟩ | ⟨j, v', x', h4, h5, h6, h7, h8⟩
        · cases h4
        · cases h4
          exact .inr ⟨n + 1, u, x', rfl, fun w => by rw [step w, h5 w, show idx + 1 + n = idx + (n + 1) by omega], by simpa using h6, h7, h8⟩
      · rename_i hne
        rcases lookA_sound hy (idx + 1) h h3 with ⟨h4, h5⟩ | ⟨j, v', x', h4, h5, h6, h7, h8⟩
        · exact .inl ⟨h4, fun w => (step w).trans (h5 w)⟩
        · exact absurd (h.trans (congrArg some h4)) (hne _ _)
omit [Nums] in
theorem sameBits_int (n : Nat) (k : IntKind) (i : Int) : Instr.sameBits n (.int k i) (.int k i) = true := by
  cases n <;> simp [Instr.sameBits]
omit [Nums] in
theorem sameBits_all (n : Nat) : ∀ {l : List AV} {vs : List Value}, litVs l = some vs → (vs.zip vs).all (fun p => Instr.sameBits n p.1 p.2) = true
  | [], vs, h => by unfold litVs at h; cases h; rfl
  | v :: l, vs, h => by
    unfold litVs at h
    split at h <;> first | (cases h; done) | skip
    rename_i x hv
    split at h <;> first | (cases h; done) | skip
    rename_i ys hvs
    cases h
    have h1 : Instr.sameBits n x x = true := by
      unfold litV1 at hv
      split at hv <;> first | (cases hv; done) | skip
      · cases hv; cases n <;> simp [Instr.sameBits]
      · cases hv; exact sameBits_int _ _ _
    simp only [List.zip_cons_cons, List.all_cons, h1, Bool.true_and]
    exact sameBits_all n hvs
omit [Nums] in
theorem sameBits_lits (n : Nat) {y : AV} {v : Value} (h : litV y = some v) : Instr.sameBits (n + 1) v v = true := by
  unfold litV at h
  split at h <;> first | (cases h; done) | skip
  split at h <;> first | (cases h; done) | skip
  rename_i vs hvs
  cases h
  simp only [Instr.sameBits, beq_self_eq_true, Bool.true_and]
  exact sameBits_all n hvs
/-- what a look for a key comes to -/
theorem lookM_sound {kt : TypeId} {es : List (AV × AV)} {xs : List MapEntry} {y : AV} {y2 : Value} {r : Option (Nat × AV)} (h : lookM P kt es y = some r) (hm : MR ρ es xs) (hy : VR ρ y y2) :
    (∀ b w, (Instr.checkKey b 10000 kt y2).run P w = .ok () w) ∧ (∀ w, (Instr.keyThatStays y2 y2).run P w = .ok y2 w) ∧
    ((r = none ∧ ∀ w, (Instr.findKey kt y2 xs).run P w = .ok none w) ∨ ∃ j v x, r = some (j, v) ∧ (∀ w, (Instr.findKey kt y2 xs).run P w = .ok (some (j, x.val)) w) ∧ xs[j]? = some x ∧ x.key = y2 ∧ VR ρ v x.val) := by
  unfold lookM at h
  split at h <;> first | (cases h; done) | skip
  · rename_i d hku
    obtain ⟨k, i, rfl, hf⟩ := lookAV_sound (d := d) h hm hy
    refine ⟨fun b w => checkKey_int b 9999 hku w, fun w => ?_, ?_⟩
    · unfold Instr.keyThatStays
      rw [sameBits_int, if_pos rfl]
      rfl
    · rcases hf with ⟨h1, h2⟩ | ⟨j, v, x, h1, h2, h3, h4, h5⟩
      · exact .inl ⟨h1, fun w => findKey_run hku h2 w⟩
      · exact .inr ⟨j, v, x, h1, fun w => findKey_run hku h2 w, h3, h4, h5⟩
  · rename_i fs hku
    split at h <;> first | (cases h; done) | skip
    rename_i hk
    unfold keyA at hk
    split at hk <;> first | (cases hk; done) | skip
    rename_i v0 hv0
    have e0 := litV_sound hv0 hy
    subst e0
    rw [Bool.and_eq_true, Bool.and_eq_true] at hk
    obtain ⟨k1, k2, k3⟩ := hk
    obtain ⟨la, hla⟩ := Option.isSome_iff_exists.1 k3
    have hfk : ∀ r', (∀ w, (Instr.findAsking kt y2 xs 0).run P w = .ok r' w) → ∀ w, (Instr.findKey kt y2 xs).run P w = .ok r' w := fun r' hr' w => by
      unfold Instr.findKey
      rw [Sem.run_bind, run_underlying hku w, Result.andThen_ok]
      cases xs with
      | nil =>
        have := hr' w
        simpa [Instr.findNow, Instr.findAsking] using this
      | cons e es' =>
        have hn : Instr.findNow (.struct fs) y2 (e :: es') 0 = none := by simp [Instr.findNow, Instr.sameNow]
        rw [hn]
        exact hr' w
    refine ⟨fun b w => run_checkKey_deep b 9980 20 kt k1 w 20 y2 la k2 hla, fun w => ?_, ?_⟩
    · unfold Instr.keyThatStays
      rw [show Instr.sameBits 10000 y2 y2 = true from sameBits_lits 9999 hv0, if_pos rfl]
      rfl
    · rcases lookA_sound hy 0 h hm with ⟨h1, h2⟩ | ⟨j, v, x, h1, h2, h3, h4, h5⟩
      · exact .inl ⟨h1, hfk _ h2⟩
      · exact .inr ⟨j, v, x, h1, hfk _ (fun w => by rw [h2 w, Nat.zero_add]), h3, h4, h5⟩
theorem MR.len : ∀ {es : List (AV × AV)} {xs : List MapEntry}, MR ρ es xs → es.length = xs.length
  | [], xs, h => by have : xs = [] := h; subst this; rfl
  | _ :: es, xs, h => by
    obtain ⟨e, xs', rfl, _, _, h3⟩ := h
    simp [MR.len h3]
/-! records -/
omit [Nums] in
theorem CK.one (k : CK) (n : Int) : (k.val n).oneCell' = true := by cases k <;> rfl
theorem ofCK_rel (k : CK) (e : SE) : VR ρ (ofCK k e) (k.val (e.ev Nums.σ)) := by
  cases k with
  | int k => unfold ofCK VR CK.val; rfl
  | bool =>
    unfold ofCK VR CK.val Cnd.ev
    simp only [SE.ev]
    cases h : (e.ev Nums.σ == 0) <;> rfl
omit [Nums] in
theorem ofCK_one (k : CK) (e : SE) : (ofCK k e).one = true := by cases k <;> rfl
omit [Nums] in
theorem aggT_row {t : TypeId} (h : aggT P t = some true) : ∃ d, P.underlying t = some d ∧ d.isRow = true := by
  unfold aggT at h
  split at h
  · rename_i hu; exact ⟨_, hu, rfl⟩
  · rename_i hu; exact ⟨_, hu, rfl⟩
  · cases h
  · cases h
theorem atE_ev {e : SE} {j : Nat} (he : e.ev Nums.σ ≥ 0) : ∀ l : SE, (atE e j l).ev Nums.σ = l.evA Nums.σ (e.ev Nums.σ).toNat j
  | .lset l x k v => by
    have ih := atE_ev (j := j) he l
    unfold atE
    simp only [SE.evA]
    split
    · rename_i hjk
      have hjk : j ≠ k := Nat.ne_of_beq_eq_false hjk
      rw [ih, if_neg (by omega)]
    · rename_i hjk
      have hjk : j = k := Nat.eq_of_beq_eq_true hjk
      split
      · rename_i hq
        have hq := eq_of_beq (askEq_ok hq)
        rw [hq, if_pos ⟨rfl, hjk⟩]
      · rename_i hq
        have hq := ne_of_beq_false (askEq_ok hq)
        split
        · rename_i hx
          have hx := of_decide_eq_false (askLt_ok hx)
          simp only [SE.ev] at hx
          rw [ih, if_neg (by omega)]
        · simp only [SE.ev, SE.evA]
      · simp only [SE.ev, SE.evA]
  | .lvar _ | .lsnoc _ _ | .rcons _ _ | .rnil | .at _ _ _ | .len _ | .var _ | .lit _ | .bin _ _ _ | .ubin _ _ _ | .cv _ _ => by simp only [atE, SE.ev]
  | .rep _ => by simp only [atE, SE.ev, SE.evA]
theorem recGet_sound {l e : SE} {ks : List CK} {cur : Array Value} (he : e.ev Nums.σ ≥ 0) (hcur : ∀ j k, ks[j]? = some k → cur[(e.ev Nums.σ).toNat * ks.length + j]? = some (k.val (l.evA Nums.σ (e.ev Nums.σ).toNat j))) :
    ∀ {n j : Nat} {r : List AV}, recGet l e ks j n = some r → ∃ ys : List Value, ys.length = n ∧ VRs ρ r ys ∧ ∀ (i : Nat) y, ys[i]? = some y → cur[(e.ev Nums.σ).toNat * ks.length + j + i]? = some y
  | 0, j, r, h => by
    simp only [recGet, Option.some.injEq] at h
    subst h
    exact ⟨[], rfl, VRs.nil, by simp⟩
  | n + 1, j, r, h => by
    unfold recGet at h
    split at h <;> first | (cases h; done) | skip
    rename_i k hk
    split at h <;> first | (cases h; done) | skip
    rename_i r' hr
    simp only [Option.some.injEq] at h
    subst h
    obtain ⟨ys, h1, h2, h3⟩ := recGet_sound he hcur hr
    refine ⟨k.val (l.evA Nums.σ (e.ev Nums.σ).toNat j) :: ys, by simp [h1], VRs.cons ?_ h2, fun i y hy => ?_⟩
    · have := ofCK_rel (ρ := ρ) k (atE e j l)
      rwa [atE_ev he] at this
    · cases i with
      | zero =>
        simp only [List.getElem?_cons_zero, Option.some.injEq] at hy
        subst hy
        exact hcur j k hk
      | succ i =>
        have := h3 i y (by simpa using hy)
        rwa [show (e.ev Nums.σ).toNat * ks.length + Nat.add j 1 + i = (e.ev Nums.σ).toNat * ks.length + j + (i + 1) from by show _ + (j + 1) + i = _; omega] at this
theorem recLoad_sound {t : TypeId} {b : Bool} {s : Nat} {l e : SE} {ks : List CK} {j blk : Nat} {v : AV} {w : World} {z : Nat} {et : TypeId} (hb : aggT P t = some b) (hs : sizeT P t = some s) (h : recLoad b s l e ks j = some v)
    (hO : OR ρ (.recs l ks et) z w.heap[blk]?) {off : Nat} (hoff : off = (e.ev Nums.σ).toNat * ks.length + j) : ∃ x, VR ρ v x ∧ (loadVar t ⟨blk, off, none⟩).run P w = .ok x w := by
  subst hoff
  obtain ⟨cur, hcur, hsz, hle, hat⟩ := hO
  unfold recLoad at h
  split at h <;> first | (cases h; done) | skip
  rename_i hw
  obtain ⟨w1, w2⟩ := within_ok hw
  rw [lenE_ev] at w2
  have hr : (e.ev Nums.σ).toNat < l.evN Nums.σ := by omega
  split at h
  · split at h <;> first | (cases h; done) | skip
    rename_i r hg
    simp only [Option.some.injEq] at h
    subst h
    obtain ⟨ys, h1, h2, h3⟩ := recGet_sound (ρ := ρ) (cur := cur) w1 (fun j k hk => hat _ j k hr hk) hg
    have hrange : w.rangeAt blk ((e.ev Nums.σ).toNat * ks.length + j) ys := fun i y hy => by
      have := h3 i y hy
      simp [World.cell?, hcur, this]
    obtain ⟨d, hu, hd⟩ := aggT_row hb
    have := run_loadAt_mid (P := P) w blk ((e.ev Nums.σ).toNat * ks.length + j) t ys d hrange hu hd (by rw [sizeT_info hs, h1])
    refine ⟨.agg ys.toArray, by unfold VR; exact ⟨_, rfl, by simpa using h2⟩, ?_⟩
    simpa [Instr.loadAt, Instr.sureAddr] using this
  · split at h <;> first | (cases h; done) | skip
    rename_i k hk
    simp only [Option.some.injEq] at h
    subst h
    refine ⟨k.val (l.evA Nums.σ (e.ev Nums.σ).toNat j), ?_, ?_⟩
    · have := ofCK_rel (ρ := ρ) k (atE e j l)
      rwa [atE_ev w1] at this
    · have hc : w.cell? ⟨blk, (e.ev Nums.σ).toNat * ks.length + j, none⟩ = some (k.val (l.evA Nums.σ (e.ev Nums.σ).toNat j)) := by
        simp [World.cell?, hcur, hat _ j k hr hk]
      simp [loadVar, aggT_run hb w, hc]
omit [Nums] in
theorem recAt_eq {ks : List CK} (off : Nat) : off = (recAt ks off).1 * ks.length + (recAt ks off).2 := by
  unfold recAt
  show off = off / ks.length * ks.length + off % ks.length
  rw [Nat.mul_comm]
  exact (Nat.div_add_mod _ _).symm
omit [Nums] in
theorem getObj_iterH {r : Nat} {w : World} {m : Option Nat} {since last : Nat} {seen : Array Nat} (h : w.heap[r]? = some (.mapIter m since seen last)) : (getObj r).run P w = .ok (.mapIter m since seen last) w := by
  simp [getObj, Sem.run, h]
omit [Nums] in
theorem lastOf_back : ∀ {l : List Nat} {b : Nat}, lastOf l = some b → l.getLast? = some b
  | a :: l, b, h => by
    unfold lastOf at h
    split at h
    · rename_i c hc
      have := lastOf_back hc
      cases l with
      | nil => cases this
      | cons x l => rw [List.getLast?_cons_cons, this]; exact h
    · rename_i hc
      cases l with
      | nil => exact h
      | cons x l =>
        unfold lastOf at hc
        split at hc <;> cases hc
theorem atStamp_sound {b : Nat} {k v : AV} : ∀ {es : List (AV × AV)} {bs : List Nat} {xs : List MapEntry}, atStamp b es bs = some (k, v) → MR ρ es xs → xs.map (·.born) = bs → ∃ e, xs.find? (·.born == b) = some e ∧ VR ρ k e.key ∧ VR ρ v e.val
  | p :: es, c :: bs, xs, h, hm, hb => by
    obtain ⟨e, xs', rfl, h1, h2, h3⟩ := hm
    rw [List.map_cons, List.cons.injEq] at hb
    obtain ⟨rfl, hb⟩ := hb
    unfold atStamp at h
    split at h
    · rename_i hc
      have hc := Nat.eq_of_beq_eq_true hc
      simp only [Option.some.injEq] at h
      subst h
      refine ⟨e, ?_, h1, h2⟩
      rw [List.find?_cons, show (e.born == b) = true by simpa using hc]
    · rename_i hc
      have hc := Nat.ne_of_beq_eq_false hc
      obtain ⟨e', h4, h5⟩ := atStamp_sound h h3 hb
      refine ⟨e', ?_, h5⟩
      rw [List.find?_cons, show (e.born == b) = false by simpa using hc]
      exact h4
  | [], _, _, h, _, _ => by simp [atStamp] at h
  | _ :: _, [], _, h, _, _ => by simp [atStamp] at h
theorem read_sound {o : Oper} {a : Act} {vs : List AV} {v : AV} {h : AH} {nx : Nat} {w : World} (hr : HR ρ h.get nx w) (hread : aread P o.op vs h = some v) (hv : VRs ρ vs (o.op.operands.toList.map a.eval)) :
    ∃ x, VR ρ v x ∧ (execOp a.eval o).run P w = .ok (.value x) w := by
  unfold execOp
  generalize o.op = op at hread hv
  cases op with
  | load t p =>
    simp only [aread] at hread
    split at hread <;> first | (cases hread; done) | skip
    case h_2 =>
      rename_i n e z j
      split at hread <;> first | (cases hread; done) | skip
      rename_i l ks et hg
      split at hread <;> first | (cases hread; done) | skip
      rename_i hz
      have hz := Nat.eq_of_beq_eq_true hz
      subst hz
      split at hread <;> first | (cases hread; done) | skip
      rename_i bb hagg
      split at hread <;> first | (cases hread; done) | skip
      rename_i s hs
      obtain ⟨y, hy, hp⟩ := hv.one
      simp [Op.operands] at hy
      unfold VR at hp
      obtain ⟨b, z, hb, rfl⟩ := hp
      obtain ⟨b', s', hb', hO⟩ := hr.obj _ _ hg
      rw [hb] at hb'
      cases hb'
      obtain ⟨x, hx, hrun⟩ := recLoad_sound hagg hs hread hO rfl
      exact ⟨x, hx, by simp [hy, Instr.loadAt, Instr.sureAddr, hrun]⟩
    case h_3 =>
      rename_i i e
      split at hread <;> first | (cases hread; done) | skip
      rename_i hagg
      split at hread <;> first | (cases hread; done) | skip
      rename_i k hk
      simp only [Option.some.injEq] at hread; subst hread
      obtain ⟨y, hy, hp⟩ := hv.one
      simp [Op.operands] at hy
      unfold VR at hp
      obtain ⟨A, len, c, hro, rfl, hlt⟩ := hp
      have hc := ((hr.rl i k (some A) len c hk hro).2 A rfl (by omega)).2 _ hlt
      refine ⟨k.val (Nums.σ (lc i (e.ev Nums.σ).toNat 0)), ?_, ?_⟩
      · have := ofCK_rel (ρ := ρ) k (.at (.lvar i) e 0)
        simpa only [SE.ev, SE.evA] using this
      · simp [hy, Instr.loadAt, Instr.sureAddr, loadVar, aggT_run hagg w, hc]
    case h_4 =>
      rename_i b off
      split at hread <;> first | (cases hread; done) | skip
      rename_i l hl
      split at hread <;> first | (cases hread; done) | skip
      rename_i hagg
      split at hread <;> first | (cases hread; done) | skip
      rename_i c hc
      simp only [Option.some.injEq] at hread; subst hread
      obtain ⟨y, hy, hp⟩ := hv.one
      simp [Op.operands] at hy
      unfold VR at hp
      subst hp
      obtain ⟨e, q, hcur⟩ := hr.gl b l hl
      refine ⟨.int .i64 c, by unfold VR; rfl, ?_⟩
      have hc' : w.cell? ⟨b, off, none⟩ = some (.int .i64 c) := by simp [World.cell?, hcur, hc]
      simp [hy, Instr.loadAt, Instr.sureAddr, loadVar, aggT_run hagg w, hc']
    rename_i n off
    split at hread <;> first | (cases hread; done) | skip
    rotate_left
    · rename_i l ks et hg
      split at hread <;> first | (cases hread; done) | skip
      rename_i bb hagg
      split at hread <;> first | (cases hread; done) | skip
      rename_i s hs
      split at hread <;> first | (cases hread; done) | skip
      obtain ⟨y, hy, hp⟩ := hv.one
      simp [Op.operands] at hy
      obtain ⟨b, z, hb, rfl⟩ := hp.ptr_inv
      obtain ⟨b', s', hb', hO⟩ := hr.obj _ _ hg
      rw [hb] at hb'
      cases hb'
      obtain ⟨x, hx, hrun⟩ := recLoad_sound (off := off) hagg hs hread hO (by simp only [SE.ev]; exact recAt_eq off)
      exact ⟨x, hx, by simp [hy, Instr.loadAt, Instr.sureAddr, hrun]⟩
    rename_i cs k e hg
    obtain ⟨y, hy, hp⟩ := hv.one
    simp [Op.operands] at hy
    obtain ⟨b, s, hb, rfl⟩ := hp.ptr_inv
    obtain ⟨b', s', hb', hO⟩ := hr.obj _ _ hg
    rw [hb] at hb'
    cases hb'
    obtain ⟨cur, hcur, hs, hk, hcells⟩ := hO
    split at hread
    · rename_i hagg
      split at hread <;> first | (cases hread; done) | skip
      rename_i sz hsz
      split at hread <;> first | (cases hread; done) | skip
      rename_i l hl
      simp only [Option.some.injEq] at hread; subst hread
      obtain ⟨ys, hyl, hrs, hat, _⟩ := getN_sound hcells hl
      refine ⟨.agg ys.toArray, by unfold VR; exact ⟨_, rfl, by simpa using hrs⟩, ?_⟩
      have hrange : w.rangeAt b off ys := fun j z hz => by
        have := hat j z hz
        simp [World.cell?, hcur, this]
      obtain ⟨d, hu, hd⟩ : ∃ d, P.underlying t = some d ∧ d.isRow = true := by
        unfold aggT at hagg
        split at hagg
        · rename_i hu; exact ⟨_, hu, rfl⟩
        · rename_i hu; exact ⟨_, hu, rfl⟩
        · cases hagg
        · cases hagg
      have := run_loadAt_mid (P := P) w b off t ys d hrange hu hd (by rw [sizeT_info hsz, hyl])
      simp [hy, this]
    · rename_i hagg
      obtain ⟨h1, z, hz, hzr⟩ := hcells _ _ hread
      refine ⟨z, hzr, ?_⟩
      have hc : w.cell? ⟨b, off, none⟩ = some z := by simp [World.cell?, hcur, hz]
      simp [hy, Instr.loadAt, Instr.sureAddr, loadVar, aggT_run hagg w, hc]
    · cases hread
  | lookup t m ix ok =>
    simp only [aread] at hread
    split at hread <;> first | (cases hread; done) | skip
    rename_i kt e hu
    split at hread <;> first | (cases hread; done) | skip
    rename_i x y
    obtain ⟨y1, y2, hy, hr1, hr2⟩ := hv.two
    simp [Op.operands] at hy
    obtain ⟨e1, e2⟩ := hy
    split at hread <;> first | (cases hread; done) | skip
    rename_i es hes
    have hcase : ∃ xs : Array MapEntry, MR ρ es xs.toList ∧ ((y1 = .map none ∧ xs = #[]) ∨ ∃ b c, y1 = .map (some b) ∧ w.heap[b]? = some (.map xs c)) := by
      split at hes
      · simp only [Option.some.injEq] at hes; subst hes
        unfold VR at hr1
        subst hr1
        exact ⟨#[], rfl, .inl ⟨rfl, rfl⟩⟩
      · rename_i n
        split at hes <;> first | (cases hes; done) | skip
        rename_i es' bs' ck' hg
        simp only [Option.some.injEq] at hes; subst hes
        unfold VR at hr1
        obtain ⟨b, s, hb, rfl⟩ := hr1
        obtain ⟨b', s', hb', hO⟩ := hr.obj _ _ hg
        rw [hb] at hb'
        cases hb'
        obtain ⟨xs, hx, hm, -⟩ := hO
        exact ⟨xs, hm, .inr ⟨b, _, rfl, hx⟩⟩
      · cases hes
    obtain ⟨xs, hm, hcase⟩ := hcase
    obtain ⟨r0, hl0⟩ : ∃ r0, lookM P kt es y = some r0 := by
      cases hl : lookM P kt es y with
      | none => rw [hl] at hread; cases hread
      | some r => exact ⟨r, rfl⟩
    obtain ⟨hck0, -, hfound⟩ := lookM_sound hl0 hm hr2
    have run_all : ∀ {r : Option (Nat × Value)}, (∀ w, (Instr.findKey kt y2 xs.toList).run P w = .ok r w) →
        (Instr.lookup t y1 y2 ok).run P w = (match r with | some (_, v) => (Result.ok (v, true) w) | none => ((zeroValue e).run P w).andThen fun z w' => .ok (z, false) w').andThen fun p w' => .ok (if ok then .tuple #[p.1, .bool p.2] else p.1) w' := by
      intro r hf
      have hck := hck0 xs.isEmpty w
      have hfk := hf w
      unfold Instr.lookup
      rcases hcase with ⟨rfl, rfl⟩ | ⟨b, c, rfl, hx⟩
      · simp only [Sem.run_bind, run_underlying hu w, Result.andThen_ok, Sem.run_pure, hck, hfk]
        cases r with
        | none => cases hz : (zeroValue e).run P w <;> simp [hz]
        | some p => simp
      · simp only [Sem.run_bind, run_underlying hu w, Result.andThen_ok, Sem.run_pure, getObj_map hx, hck, hfk]
        cases r with
        | none => cases hz : (zeroValue e).run P w <;> simp [hz]
        | some p => simp
    split at hread <;> first | (cases hread; done) | skip
    · rename_i j0 v0 hl
      rw [hl0] at hl
      cases hl
      rcases hfound with ⟨h1, _⟩ | ⟨j, v', xe, h1, h2, -, -, h3⟩
      · cases h1
      · cases h1
        obtain ⟨x', hx'⟩ : ∃ x', xe.val = x' := ⟨_, rfl⟩
        simp only [hx'] at h2 h3
        have := run_all h2
        split at hread <;> (simp only [Option.some.injEq] at hread; subst hread)
        · refine ⟨.tuple #[x', .bool true], by unfold VR; exact ⟨_, rfl, VRs.cons h3 (VRs.cons (by unfold VR; rfl) VRs.nil)⟩, ?_⟩
          simp [e1, e2, this]
        · refine ⟨x', h3, ?_⟩
          simp [e1, e2, this]
    · rename_i hl
      rw [hl0] at hl
      cases hl
      rcases hfound with ⟨_, h2⟩ | ⟨j, v', x', h1, _⟩
      · split at hread <;> first | (cases hread; done) | skip
        rename_i z hz
        obtain ⟨_, zv, _, _, hof, hzr⟩ := zeroT_run hz
        have hzv := ofV_sound ρ hof
        have := run_all h2
        simp only [hzr w, Result.andThen_ok] at this
        split at hread <;> (simp only [Option.some.injEq] at hread; subst hread)
        · refine ⟨.tuple #[zv, .bool false], by unfold VR; exact ⟨_, rfl, VRs.cons hzv (VRs.cons (by unfold VR; rfl) VRs.nil)⟩, ?_⟩
          simp [e1, e2, this]
        · refine ⟨zv, hzv, ?_⟩
          simp [e1, e2, this]
      · cases h1
  | call c =>
    simp only [aread] at hread
    obtain ⟨callee, args, argTypes⟩ := c
    cases callee with
    | builtin b =>
      have hop : (Op.call ⟨.builtin b, args, argTypes⟩).operands = args := by simp [Op.operands, Call.operands]
      rw [hop] at hv
      cases b <;> first
        | (cases hread; done)
        | skip
      dsimp only at hread
      split at hread <;> first | (cases hread; done) | skip
      rename_i x t hat
      obtain ⟨y, hy, hx⟩ := hv.one
      have hy' : (args.map a.eval)[0]? = some y := by
        rw [← Array.getElem?_toList, Array.toList_map, hy]; rfl
      have fin : ∀ {n : Int}, (Builtin.len_ argTypes o.type (args.map a.eval)).run P w = .ok (.int .i64 n) w → ∃ x, VR ρ (.int .i64 n) x ∧
          ((do let d ← resolve a.eval { callee := .builtin .len, args := args, argTypes := argTypes } o.type; invoke d.target d.args : Sem Next)).run P w = .ok (.value x) w := by
        intro n hn
        refine ⟨_, by unfold VR; rfl, ?_⟩
        simp [resolve, invoke, builtin, hn]
      have fin' : ∀ {e : SE}, (Builtin.len_ argTypes o.type (args.map a.eval)).run P w = .ok (.int .i64 (e.ev Nums.σ)) w → ∃ x, VR ρ (.sym .i64 e) x ∧
          ((do let d ← resolve a.eval { callee := .builtin .len, args := args, argTypes := argTypes } o.type; invoke d.target d.args : Sem Next)).run P w = .ok (.value x) w := by
        intro e hn
        refine ⟨_, by unfold VR; rfl, ?_⟩
        simp [resolve, invoke, builtin, hn]
      split at hread <;> first | (cases hread; done) | skip
      · rename_i e hu
        split at hread <;> first | (cases hread; done) | skip
        all_goals (simp only [Option.some.injEq] at hread; subst hread; unfold VR at hx)
        · subst hx
          exact fin (by simp [Builtin.len_, hat, hy', run_underlying hu w, goInt])
        · obtain ⟨_, _, rfl⟩ := hx
          exact fin (by simp [Builtin.len_, hat, hy', run_underlying hu w, goInt])
        · obtain ⟨_, _, rfl, _⟩ := hx
          exact fin (by simp [Builtin.len_, hat, hy', run_underlying hu w, goInt])
        · obtain ⟨_, l, _, rfl, _, _, hl⟩ := hx
          refine fin' ?_
          rw [hl]
          simp [Builtin.len_, hat, hy', run_underlying hu w, goInt]
        · obtain ⟨_, _, _, _, rfl, _⟩ := hx
          exact fin (by simp [Builtin.len_, hat, hy', run_underlying hu w, goInt])
        · obtain ⟨_, _, l, _, _, rfl, _, _, _, hl⟩ := hx
          refine fin' ?_
          rw [hl]
          simp [Builtin.len_, hat, hy', run_underlying hu w, goInt]
        · obtain ⟨_, _, _, _, rfl, _⟩ := hx
          exact fin (by simp [Builtin.len_, hat, hy', run_underlying hu w, goInt])
        · obtain ⟨_, l, _, _, rfl, _, _, hl, _⟩ := hx
          refine fin' ?_
          simp only [SE.ev, SE.evN, hl]
          simp [Builtin.len_, hat, hy', run_underlying hu w, goInt]
      · rename_i n e hu
        simp only [Option.some.injEq] at hread; subst hread
        exact fin (by simp [Builtin.len_, hat, hy', run_underlying hu w, goInt])
      · rename_i kt e hu
        split at hread <;> first | (cases hread; done) | skip
        · simp only [Option.some.injEq] at hread; subst hread
          unfold VR at hx
          subst hx
          exact fin (by simp [Builtin.len_, hat, hy', run_underlying hu w, goInt])
        · split at hread <;> first | (cases hread; done) | skip
          rename_i es bs ck hg
          simp only [Option.some.injEq] at hread; subst hread
          unfold VR at hx
          obtain ⟨b, s, hb, rfl⟩ := hx
          obtain ⟨b', s', hb', hO⟩ := hr.obj _ _ hg
          rw [hb] at hb'
          cases hb'
          obtain ⟨xs, hx, hm, -⟩ := hO
          have hln : es.length = xs.size := by simpa using hm.len
          exact fin (by simp [Builtin.len_, hat, hy', run_underlying hu w, goInt, getObj_map hx, hln])
    | _ => cases hread
  | entry it =>
    simp only [aread] at hread
    split at hread <;> first | (cases hread; done) | skip
    rename_i n
    split at hread <;> first | (cases hread; done) | skip
    rename_i m since seen last hg
    split at hread <;> first | (cases hread; done) | skip
    rename_i es bs ck hgm
    split at hread <;> first | (cases hread; done) | skip
    rename_i hck
    have hck := Nat.eq_of_beq_eq_true hck
    subst hck
    split at hread <;> first | (cases hread; done) | skip
    rename_i sb hsb
    split at hread <;> first | (cases hread; done) | skip
    rename_i k v' hat
    simp only [Option.some.injEq] at hread; subst hread
    obtain ⟨y, hy, hp⟩ := hv.one
    simp [Op.operands] at hy
    unfold VR at hp
    obtain ⟨b, s, hb, rfl⟩ := hp
    obtain ⟨b', s', hb', hO⟩ := hr.obj _ _ hg
    rw [hb] at hb'
    cases hb'
    obtain ⟨bm, sm, hbm, hx⟩ := hO
    obtain ⟨b', s', hb', hOm⟩ := hr.obj _ _ hgm
    rw [hbm] at hb'
    cases hb'
    obtain ⟨xs, hxm, hm, hbs⟩ := hOm
    obtain ⟨e, he, h1, h2⟩ := atStamp_sound hat hm hbs
    have hback : (seen.toArray).back? = some sb := by
      rw [List.back?_toArray]
      exact lastOf_back hsb
    have hfind : xs.find? (·.born == sb) = some e := by rw [← Array.find?_toList]; exact he
    refine ⟨.tuple #[e.key, e.val], by unfold VR; exact ⟨_, rfl, VRs.cons h1 (VRs.cons h2 VRs.nil)⟩, ?_⟩
    have : (Instr.entry (.pointer (some ⟨b, 0, none⟩))).run P w = .ok (.tuple #[e.key, e.val]) w := by
      unfold Instr.entry
      simp only [Sem.run_bind, getObj_iterH hx, Result.andThen_ok, hback, getObj_map hxm, bne_self_eq_false, Bool.false_eq_true, if_false, hfind, Sem.run_pure]
    simp [hy, this]
  | _ => simp [aread] at hread
end
end Go.Proofs.YtfgomgodfcdijaaGreatDoor.Ex
