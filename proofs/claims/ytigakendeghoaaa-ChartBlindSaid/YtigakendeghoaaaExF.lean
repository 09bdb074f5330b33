/-
  The runner: an operation that looks at no memory gives what the model gives (the rest). No condition.
-/
import Derived.Test.YtigakendeghoaaaExE
namespace Go.Proofs.Ytigakendeghoaaa.Ex
open Go
variable [Nums]
section
variable {P : Program} {ρ : Ren}
theorem VR.notStr {x : AV} {u : Value} (h : VR ρ x u) (hx : ∀ s, x ≠ .str s) : ∀ s, u ≠ .string s := by
  rintro s rfl
  cases x <;> simp [VR] at h
  exact hx _ rfl
theorem VR.ofInt {x : AV} {k : IntKind} {n : Int} (h : VR ρ x (.int k n)) : x = .int k n ∨ ∃ e, x = .sym k e := by
  cases x <;> simp [VR] at h
  · obtain ⟨rfl, rfl⟩ := h
    exact .inl rfl
  · obtain ⟨rfl, _⟩ := h
    exact .inr ⟨_, rfl⟩
theorem VR.noFloat {x : AV} {k : FloatKind} {n : Nat} (h : VR ρ x (.float k n)) : False := by
  cases x <;> simp [VR] at h
theorem VR.noComplex {x : AV} {k : FloatKind} {n m : Nat} (h : VR ρ x (.complex k n m)) : False := by
  cases x <;> simp [VR] at h
omit [Nums] in
theorem binOp_eql {t : TypeId} {u v : Value} (h1 : ∀ k a, u ≠ .int k a) (h1' : ∀ k a, u ≠ .float k a) (h1'' : ∀ k a b, u ≠ .complex k a b) (h2 : ∀ s, u ≠ .string s) :
    binOp .eql t u v = (do pure (.bool (← Op.equal t u v))) := by
  cases u <;> cases v <;> first | rfl | (exact absurd rfl (h1 _ _)) | (exact absurd rfl (h1' _ _)) | (exact absurd rfl (h1'' _ _ _)) | (exact absurd rfl (h2 _))
omit [Nums] in
theorem binOp_neq {t : TypeId} {u v : Value} (h1 : ∀ k a, u ≠ .int k a) (h1' : ∀ k a, u ≠ .float k a) (h1'' : ∀ k a b, u ≠ .complex k a b) (h2 : ∀ s, u ≠ .string s) :
    binOp .neq t u v = (do pure (.bool (!(← Op.equal t u v)))) := by
  cases u <;> cases v <;> first | rfl | (exact absurd rfl (h1 _ _)) | (exact absurd rfl (h1' _ _)) | (exact absurd rfl (h1'' _ _ _)) | (exact absurd rfl (h2 _))
omit [Nums] in
theorem binOp_eql' {t : TypeId} {u v : Value} (h1 : ∀ k a, v ≠ .int k a) (h1' : ∀ k a, v ≠ .float k a) (h1'' : ∀ k a b, v ≠ .complex k a b) (h2 : ∀ s, v ≠ .string s) :
    binOp .eql t u v = (do pure (.bool (← Op.equal t u v))) := by
  cases u <;> cases v <;> first | rfl | (exact absurd rfl (h1 _ _)) | (exact absurd rfl (h1' _ _)) | (exact absurd rfl (h1'' _ _ _)) | (exact absurd rfl (h2 _))
omit [Nums] in
theorem binOp_neq' {t : TypeId} {u v : Value} (h1 : ∀ k a, v ≠ .int k a) (h1' : ∀ k a, v ≠ .float k a) (h1'' : ∀ k a b, v ≠ .complex k a b) (h2 : ∀ s, v ≠ .string s) :
    binOp .neq t u v = (do pure (.bool (!(← Op.equal t u v)))) := by
  cases u <;> cases v <;> first | rfl | (exact absurd rfl (h1 _ _)) | (exact absurd rfl (h1' _ _)) | (exact absurd rfl (h1'' _ _ _)) | (exact absurd rfl (h2 _))
theorem abinop_sound {op : BinOp} {t : TypeId} {x y v : AV} {u1 u2 : Value} (h : abinop P op t x y = some v) (hx : VR ρ x u1) (hy : VR ρ y u2) (ox oy : Operand) :
    ∃ u, VR ρ v u ∧ ∀ w, (do eqGuard op t ox oy u1 u2; binOp op t u1 u2).run P w = .ok u w := by
  have gint : ∀ (k k' : IntKind) (a b : Int) w, (eqGuard op t ox oy (.int k a) (.int k' b)).run P w = .ok () w := by
    intro k k' a b w
    unfold eqGuard
    cases op <;> rfl
  unfold abinop at h
  split at h
  · rename_i k a k' b
    unfold VR at hx hy; subst hx; subst hy
    split at h
    · obtain ⟨u, hu, hr⟩ := ashift_run (P := P) (ρ := ρ) (k' := k') h t
      exact ⟨u, hu, fun w => by simp [gint, hr w]⟩
    · obtain ⟨u, hu, hr⟩ := ashift_run (P := P) (ρ := ρ) (k' := k') h t
      exact ⟨u, hu, fun w => by simp [gint, hr w]⟩
    · rename_i h1 h2
      split at h
      · rename_i hk
        have hk := of_decide_eq_true hk
        subst hk
        obtain ⟨u, hu, hr⟩ := abin_run (P := P) (ρ := ρ) h (fun e => h1 e) (fun e => h2 e) t
        exact ⟨u, hu, fun w => by simp [gint, hr w]⟩
      · cases h
  · obtain ⟨u, hu, ⟨k, a, b, rfl, rfl⟩, hr⟩ := symOp_run (P := P) h hx hy t
    exact ⟨u, hu, fun w => by simp [gint, hr w]⟩
  · obtain ⟨u, hu, ⟨k, a, b, rfl, rfl⟩, hr⟩ := symOp_run (P := P) h hx hy t
    exact ⟨u, hu, fun w => by simp [gint, hr w]⟩
  · cases h
  · cases h
  · rename_i hs1 h2 hs2 h3 h1
    have hns1 := hx.notStr (fun s e => by subst e; exact h2 _ rfl)
    split at h
    · cases h
    · rename_i hg
      have hg' := fun w => guard_run (op := op) (ρ := ρ) hg hx hy ox oy w
      have hni : (∀ k a, u1 ≠ .int k a) ∨ (∀ k a, u2 ≠ .int k a) := by
        by_cases hi : ∃ k a, u1 = .int k a
        · obtain ⟨k, a, rfl⟩ := hi
          right
          rintro k' b rfl
          rcases hx.ofInt with e1 | ⟨q, e1⟩
          · rcases hy.ofInt with e2 | ⟨q, e2⟩
            · subst e1; subst e2
              exact h1 _ _ _ _ rfl rfl
            · exact hs2 _ _ e2
          · exact hs1 _ _ e1
        · left
          rintro k a rfl
          exact hi ⟨k, a, rfl⟩
      have hns2 := hy.notStr (fun s e => by subst e; exact h3 _ rfl)
      have e1 : binOp .eql t u1 u2 = (do pure (.bool (← Op.equal t u1 u2))) := by
        rcases hni with hi | hi
        · exact binOp_eql hi (fun k a e => by subst e; exact hx.noFloat) (fun k a b e => by subst e; exact hx.noComplex) hns1
        · exact binOp_eql' hi (fun k a e => by subst e; exact hy.noFloat) (fun k a b e => by subst e; exact hy.noComplex) hns2
      have e2 : binOp .neq t u1 u2 = (do pure (.bool (!(← Op.equal t u1 u2)))) := by
        rcases hni with hi | hi
        · exact binOp_neq hi (fun k a e => by subst e; exact hx.noFloat) (fun k a b e => by subst e; exact hx.noComplex) hns1
        · exact binOp_neq' hi (fun k a e => by subst e; exact hy.noFloat) (fun k a b e => by subst e; exact hy.noComplex) hns2
      split at h
      · split at h
        · rename_i b hb
          simp only [Option.some.injEq] at h; subst h
          have := aeq_sound (P := P) (ρ := ρ) 40 9960 _ _ _ _ _ _ hb hx hy
          refine ⟨.bool b, by unfold VR; rfl, fun w => ?_⟩
          rw [Sem.run_bind, hg' w, Result.andThen_ok, e1]
          simp only [Op.equal, Op.maxDepth, Sem.run_bind, this w, Result.andThen_ok, Sem.run_pure]
        · cases h
      · split at h
        · rename_i b hb
          simp only [Option.some.injEq] at h; subst h
          have := aeq_sound (P := P) (ρ := ρ) 40 9960 _ _ _ _ _ _ hb hx hy
          refine ⟨.bool (!b), by unfold VR; rfl, fun w => ?_⟩
          rw [Sem.run_bind, hg' w, Result.andThen_ok, e2]
          simp only [Op.equal, Op.maxDepth, Sem.run_bind, this w, Result.andThen_ok, Sem.run_pure]
        · cases h
      · cases h

omit [Nums] in
theorem inRange_spec {i : Int} {len k : Nat} (h : inRange i len = some k) : i = k ∧ k < len := by
  unfold inRange at h
  split at h
  · split at h
    · rename_i hlt
      cases h
      exact ⟨rfl, by simpa using hlt⟩
    · cases h
  · cases h
omit [Nums] in
theorem set_fold (off : Nat) : ∀ (vs : List Value) (j : Nat) (cs : Array Value), off + j + vs.length ≤ cs.size →
    ((vs.toArray.zipIdx j).foldl (fun cs (c, i) => cs.setIfInBounds (off + i) c) cs).toList = cs.toList.take (off + j) ++ (vs ++ cs.toList.drop (off + j + vs.length)) := by
  intro vs
  induction vs with
  | nil => intro j cs h; rw [← Array.foldl_toList]; simp
  | cons v vs ih =>
    intro j cs h
    have e : ((v :: vs).toArray.zipIdx j).toList = (v, j) :: (vs.toArray.zipIdx (j + 1)).toList := by simp
    rw [← Array.foldl_toList, e, List.foldl_cons, Array.foldl_toList]
    simp only [List.length_cons] at h
    rw [ih (j + 1) _ (by rw [Array.size_setIfInBounds]; omega), Array.toList_setIfInBounds]
    have hlt : off + j < cs.toList.length := by rw [Array.length_toList]; omega
    rw [show off + (j + 1) = off + j + 1 from by omega, List.take_set, List.drop_set, if_pos (by omega)]
    have : (List.take (off + j + 1) cs.toList).set (off + j) v = List.take (off + j) cs.toList ++ [v] := by
      rw [List.take_succ_eq_append_getElem hlt, List.set_append_right _ _ (by rw [List.length_take]; omega)]
      rw [List.length_take, Nat.min_eq_left (by omega)]
      simp
    rw [this]
    simp [Nat.add_assoc, Nat.add_comm 1]
theorem fill_sound {pl : Nat → Option (Nat × Nat)} : ∀ {ps : List (Nat × AV)} {qs : List (Nat × Value)} {cells out : List AV} {a : Array Value}, afill pl cells ps = some out → VRs ρ cells a.toList →
    ps.map (·.1) = qs.map (·.1) → VRs ρ (ps.map (·.2)) (qs.map (·.2)) → ∃ b : Array Value, Instr.fill pl a qs = some b ∧ VRs ρ out b.toList
  | [], qs, cells, out, a, h, hc, h1, _ => by
    have : qs = [] := by simpa using h1.symm
    subst this
    simp only [afill, Option.some.injEq] at h
    subst h
    exact ⟨a, rfl, hc⟩
  | (i, v) :: ps, qs, cells, out, a, h, hc, h1, h2 => by
    obtain ⟨q, qs', rfl⟩ : ∃ q qs', qs = q :: qs' := by
      cases qs with
      | nil => simp at h1
      | cons q qs' => exact ⟨q, qs', rfl⟩
    obtain ⟨j, x⟩ := q
    simp only [List.map_cons, List.cons.injEq] at h1
    obtain ⟨rfl, h1⟩ := h1
    obtain ⟨x', xs', he, hx, hxs⟩ := VRs.uncons (by simpa using h2)
    simp only [List.cons.injEq] at he
    obtain ⟨rfl, rfl⟩ := he
    unfold afill at h
    split at h
    · cases h
    · rename_i off size hpl
      split at h
      · cases h
      · rename_i hlen
        have hlen := Nat.eq_of_beq_eq_true hlen
        split at h
        · cases h
        · rename_i hfit
          have hfit : off + size ≤ cells.length := by simpa using hfit
          have hxc := hx.cells
          have hl1 := hxc.len
          have hl2 := hc.len
          simp only [Array.length_toList] at hl1 hl2
          have hsz : x.cells.size = size := by omega
          have hfold := set_fold off x.cells.toList 0 a (by rw [Array.length_toList]; omega)
          simp only [Array.toArray_toList, Nat.add_zero, Array.length_toList, hsz] at hfold
          have hv : VRs ρ (cells.take off ++ (v.cells ++ cells.drop (off + size))) ((x.cells.zipIdx).foldl (fun cs (c, i) => cs.setIfInBounds (off + i) c) a).toList := by
            rw [hfold]
            exact (hc.take off).append (hxc.append (hc.drop (off + size)))
          obtain ⟨b, hb, hr⟩ := fill_sound h hv h1 hxs
          refine ⟨b, ?_, hr⟩
          unfold Instr.fill
          rw [hpl]
          simp only
          rw [if_neg (by simp only [Bool.or_eq_true, decide_eq_true_eq, ne_eq]; omega)]
          exact hb
theorem zipParts_sound : ∀ {parts : List (Nat × Operand)} {vs : List AV} {ps : List (Nat × AV)} {l : List Value}, zipParts parts vs = some ps → VRs ρ vs l →
    ∀ (f : Operand → Value), l = parts.map (fun p => f p.2) → ps.map (·.1) = (parts.map fun p => (p.1, f p.2)).map (·.1) ∧ VRs ρ (ps.map (·.2)) ((parts.map fun p => (p.1, f p.2)).map (·.2))
  | [], [], ps, l, h, hv, f, hl => by
    simp only [zipParts, Option.some.injEq] at h
    subst h
    simp [VRs]
  | [], _ :: _, ps, l, h, hv, f, hl => by simp [zipParts] at h
  | _ :: _, [], ps, l, h, hv, f, hl => by simp [zipParts] at h
  | (i, o) :: parts, v :: vs, ps, l, h, hv, f, hl => by
    unfold zipParts at h
    split at h
    · rename_i r hr
      simp only [Option.some.injEq] at h
      subst h
      obtain ⟨y, ys, rfl, h1, h2⟩ := hv.uncons
      simp only [List.map_cons, List.cons.injEq] at hl
      obtain ⟨rfl, rfl⟩ := hl
      obtain ⟨k1, k2⟩ := zipParts_sound hr h2 f rfl
      refine ⟨by simpa using k1, ?_⟩
      simp only [List.map_cons]
      exact VRs.cons h1 (by simpa using k2)
    · cases h
omit [Nums] in
theorem placesT_sound : ∀ {fs : List Field} {pl : List (Nat × Nat)}, placesT P fs = some pl → fs.mapM (fun f => (P.info? f.type).map fun i => (f.offset, i.size)) = some pl
  | [], pl, h => by simp only [placesT, Option.some.injEq] at h; subst h; rfl
  | f :: fs, pl, h => by
    unfold placesT at h
    split at h
    · rename_i s hs
      split at h
      · rename_i r hr
        simp only [Option.some.injEq] at h
        subst h
        have := placesT_sound hr
        unfold sizeT at hs
        split at hs
        · rename_i i hi
          cases hs
          simp [List.mapM_cons, hi, this]
        · cases hs
      · cases h
    · cases h
theorem VR.agg_inv {l : List AV} {u : Value} (h : VR ρ (.agg l) u) : ∃ a : Array Value, u = .agg a ∧ VRs ρ l a.toList := by unfold VR at h; exact h
theorem build_sound {t : TypeId} {parts : Array (Nat × Operand)} {vs : List AV} {v : AV} {l : List Value} {f : Operand → Value} {x : Operand} (h : apure P (.build t parts) vs = some v) (hv : VRs ρ vs l)
    (hl : l = parts.toList.map (fun p => f p.2)) : ∃ u, VR ρ v u ∧ ∀ w, (Instr.build t (parts.map fun (i, x) => (i, f x))).run P w = .ok u w := by
  simp only [apure] at h
  split at h
  · cases h
  · rename_i ps hps
    obtain ⟨k1, k2⟩ := zipParts_sound hps hv f hl
    split at h
    · cases h
    · rename_i z hz
      obtain ⟨i, zv, hi, hiz, hof, _⟩ := zeroT_run hz
      have hzr := (ofV_sound ρ hof).cells
      have hparts : (parts.map fun (i, x) => (i, f x)).toList = parts.toList.map fun p => (p.1, f p.2) := by simp
      split at h
      · rename_i fs hu
        split at h
        · cases h
        · rename_i pl hpl
          split at h
          · rename_i out hout
            simp only [Option.some.injEq] at h
            subst h
            obtain ⟨b, hb, hr⟩ := fill_sound hout hzr k1 k2
            refine ⟨.agg b, by unfold VR; exact ⟨b, rfl, hr⟩, fun w => run_build w t _ b ?_⟩
            unfold Program.built
            rw [hi, hu, hparts]
            simp only [hiz, placesT_sound hpl]
            rw [← hb]
            congr 1
            funext k
            simp
          · cases h
      · rename_i n e hu
        split at h
        · cases h
        · rename_i s hs
          split at h
          · rename_i out hout
            simp only [Option.some.injEq] at h
            subst h
            obtain ⟨b, hb, hr⟩ := fill_sound hout hzr k1 k2
            refine ⟨.agg b, by unfold VR; exact ⟨b, rfl, hr⟩, fun w => run_build w t _ b ?_⟩
            unfold Program.built
            rw [hi, hu, hparts]
            unfold sizeT at hs
            split at hs
            · rename_i ie hie
              cases hs
              simp only [hiz, hie]
              exact hb
            · cases hs
          · cases h
      · cases h
end
end Go.Proofs.Ytigakendeghoaaa.Ex
