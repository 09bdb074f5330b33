/-
  Texts of this claim, joined. No condition.
-/
import Derived.Test.YthjjpmoifgcepaaGreatJh2
/-
  The runner: an operation that looks at no memory gives what the model gives (the rest). No condition.
-/
namespace Go.Proofs.YthjjpmoifgcepaaGreat.Ex
open Go
variable [Nums]
section
variable {P : Program} {ρ : Ren}
theorem VR.notStr {x : AV} {u : Value} (h : VR ρ x u) (hx : ∀ s, x ≠ .str s) : ∀ s, u ≠ .string s := by
  rintro s rfl
  cases x <;> simp [VR] at h
  exact hx _ rfl
theorem VR.ofInt {x : AV} {k : IntKind} {n : Int} (h : VR ρ x (.int k n)) : x = .int k n ∨ ∃ e, x = .sym k e := by
  cases x <;> simp [VR] at h
  · obtain ⟨rfl, rfl⟩ := h
    exact .inl rfl
  · obtain ⟨rfl, _⟩ := h
    exact .inr ⟨_, rfl⟩
theorem VR.noFloat {x : AV} {k : FloatKind} {n : Nat} (h : VR ρ x (.float k n)) : False := by
  cases x <;> simp [VR] at h
theorem VR.noComplex {x : AV} {k : FloatKind} {n m : Nat} (h : VR ρ x (.complex k n m)) : False := by
  cases x <;> simp [VR] at h
omit [Nums] in
theorem binOp_eql {t : TypeId} {u v : Value} (h1 : ∀ k a, u ≠ .int k a) (h1' : ∀ k a, u ≠ .float k a) (h1'' : ∀ k a b, u ≠ .complex k a b) (h2 : ∀ s, u ≠ .string s) :
    binOp .eql t u v = (do pure (.bool (← Op.equal t u v))) := by
  cases u <;> cases v <;> first | rfl | (exact absurd rfl (h1 _ _)) | (exact absurd rfl (h1' _ _)) | (exact absurd rfl (h1'' _ _ _)) | (exact absurd rfl (h2 _))
omit [Nums] in
theorem binOp_neq {t : TypeId} {u v : Value} (h1 : ∀ k a, u ≠ .int k a) (h1' : ∀ k a, u ≠ .float k a) (h1'' : ∀ k a b, u ≠ .complex k a b) (h2 : ∀ s, u ≠ .string s) :
    binOp .neq t u v = (do pure (.bool (!(← Op.equal t u v)))) := by
  cases u <;> cases v <;> first | rfl | (exact absurd rfl (h1 _ _)) | (exact absurd rfl (h1' _ _)) | (exact absurd rfl (h1'' _ _ _)) | (exact absurd rfl (h2 _))
omit [Nums] in
theorem binOp_eql' {t : TypeId} {u v : Value} (h1 : ∀ k a, v ≠ .int k a) (h1' : ∀ k a, v ≠ .float k a) (h1'' : ∀ k a b, v ≠ .complex k a b) (h2 : ∀ s, v ≠ .string s) :
    binOp .eql t u v = (do pure (.bool (← Op.equal t u v))) := by
  cases u <;> cases v <;> first | rfl | (exact absurd rfl (h1 _ _)) | (exact absurd rfl (h1' _ _)) | (exact absurd rfl (h1'' _ _ _)) | (exact absurd rfl (h2 _))
omit [Nums] in
theorem binOp_neq' {t : TypeId} {u v : Value} (h1 : ∀ k a, v ≠ .int k a) (h1' : ∀ k a, v ≠ .float k a) (h1'' : ∀ k a b, v ≠ .complex k a b) (h2 : ∀ s, v ≠ .string s) :
    binOp .neq t u v = (do pure (.bool (!(← Op.equal t u v)))) := by
  cases u <;> cases v <;> first | rfl | (exact absurd rfl (h1 _ _)) | (exact absurd rfl (h1' _ _)) | (exact absurd rfl (h1'' _ _ _)) | (exact absurd rfl (h2 _))
theorem abinop_sound {op : BinOp} {t : TypeId} {x y v : AV} {u1 u2 : Value} (h : abinop P op t x y = some v) (hx : VR ρ x u1) (hy : VR ρ y u2) (ox oy : Operand) :
    ∃ u, VR ρ v u ∧ ∀ w, (do eqGuard op t ox oy u1 u2; binOp op t u1 u2).run P w = .ok u w := by
  have gint : ∀ (k k' : IntKind) (a b : Int) w, (eqGuard op t ox oy (.int k a) (.int k' b)).run P w = .ok () w := by
    intro k k' a b w
    unfold eqGuard
    cases op <;> rfl
  unfold abinop at h
  split at h
  · rename_i k a k' b
    unfold VR at hx hy; subst hx; subst hy
    split at h
    · obtain ⟨u, hu, hr⟩ := ashift_run (P := P) (ρ := ρ) (k' := k') h t
      exact ⟨u, hu, fun w => by simp [gint, hr w]⟩
    · obtain ⟨u, hu, hr⟩ := ashift_run (P := P) (ρ := ρ) (k' := k') h t
      exact ⟨u, hu, fun w => by simp [gint, hr w]⟩
    · rename_i h1 h2
      split at h
      · rename_i hk
        have hk := of_decide_eq_true hk
        subst hk
        obtain ⟨u, hu, hr⟩ := abin_run (P := P) (ρ := ρ) h (fun e => h1 e) (fun e => h2 e) t
        exact ⟨u, hu, fun w => by simp [gint, hr w]⟩
      · cases h
  · obtain ⟨u, hu, ⟨k, a, b, rfl, rfl⟩, hr⟩ := symOp_run (P := P) h hx hy t
    exact ⟨u, hu, fun w => by simp [gint, hr w]⟩
  · obtain ⟨u, hu, ⟨k, a, b, rfl, rfl⟩, hr⟩ := symOp_run (P := P) h hx hy t
    exact ⟨u, hu, fun w => by simp [gint, hr w]⟩
  · cases h
  · cases h
  · rename_i hs1 h2 hs2 h3 h1
    have hns1 := hx.notStr (fun s e => by subst e; exact h2 _ rfl)
    split at h
    · cases h
    · rename_i hg
      have hg' := fun w => guard_run (op := op) (ρ := ρ) hg hx hy ox oy w
      have hni : (∀ k a, u1 ≠ .int k a) ∨ (∀ k a, u2 ≠ .int k a) := by
        by_cases hi : ∃ k a, u1 = .int k a
        · obtain ⟨k, a, rfl⟩ := hi
          right
          rintro k' b rfl
          rcases hx.ofInt with e1 | ⟨q, e1⟩
          · rcases hy.ofInt with e2 | ⟨q, e2⟩
            · subst e1; subst e2
              exact h1 _ _ _ _ rfl rfl
            · exact hs2 _ _ e2
          · exact hs1 _ _ e1
        · left
          rintro k a rfl
          exact hi ⟨k, a, rfl⟩
      have hns2 := hy.notStr (fun s e => by subst e; exact h3 _ rfl)
      have e1 : binOp .eql t u1 u2 = (do pure (.bool (← Op.equal t u1 u2))) := by
        rcases hni with hi | hi
        · exact binOp_eql hi (fun k a e => by subst e; exact hx.noFloat) (fun k a b e => by subst e; exact hx.noComplex) hns1
        · exact binOp_eql' hi (fun k a e => by subst e; exact hy.noFloat) (fun k a b e => by subst e; exact hy.noComplex) hns2
      have e2 : binOp .neq t u1 u2 = (do pure (.bool (!(← Op.equal t u1 u2)))) := by
        rcases hni with hi | hi
        · exact binOp_neq hi (fun k a e => by subst e; exact hx.noFloat) (fun k a b e => by subst e; exact hx.noComplex) hns1
        · exact binOp_neq' hi (fun k a e => by subst e; exact hy.noFloat) (fun k a b e => by subst e; exact hy.noComplex) hns2
      split at h
      · split at h
        · rename_i b hb
          simp only [Option.some.injEq] at h; subst h
          have := aeq_sound (P := P) (ρ := ρ) 40 9960 _ _ _ _ _ _ hb hx hy
          refine ⟨.bool b, by unfold VR; rfl, fun w => ?_⟩
          rw [Sem.run_bind, hg' w, Result.andThen_ok, e1]
          simp only [Op.equal, Op.maxDepth, Sem.run_bind, this w, Result.andThen_ok, Sem.run_pure]
        · cases h
      · split at h
        · rename_i b hb
          simp only [Option.some.injEq] at h; subst h
          have := aeq_sound (P := P) (ρ := ρ) 40 9960 _ _ _ _ _ _ hb hx hy
          refine ⟨.bool (!b), by unfold VR; rfl, fun w => ?_⟩
          rw [Sem.run_bind, hg' w, Result.andThen_ok, e2]
          simp only [Op.equal, Op.maxDepth, Sem.run_bind, this w, Result.andThen_ok, Sem.run_pure]
        · cases h
      · cases h

omit [Nums] in
theorem inRange_spec {i : Int} {len k : Nat} (h : inRange i len = some k) : i = k ∧ k < len := by
  unfold inRange at h
  split at h
  · split at h
    · rename_i hlt
      cases h
      exact ⟨rfl, by simpa using hlt⟩
    · cases h
  · cases h
omit [Nums] in
theorem set_fold (off : Nat) : ∀ (vs : List Value) (j : Nat) (cs : Array Value), off + j + vs.length ≤ cs.size →
    ((vs.toArray.zipIdx j).foldl (fun cs (c, i) => cs.setIfInBounds (off + i) c) cs).toList = cs.toList.take (off + j) ++ (vs ++ cs.toList.drop (off + j + vs.length)) := by
  intro vs
  induction vs with
  | nil => intro j cs h; rw [← Array.foldl_toList]; simp
  | cons v vs ih =>
    intro j cs h
    have e : ((v :: vs).toArray.zipIdx j).toList = (v, j) :: (vs.toArray.zipIdx (j + 1)).toList := by simp
    rw [← Array.foldl_toList, e, List.foldl_cons, Array.foldl_toList]
    simp only [List.length_cons] at h
    rw [ih (j + 1) _ (by rw [Array.size_setIfInBounds]; omega), Array.toList_setIfInBounds]
    have hlt : off + j < cs.toList.length := by rw [Array.length_toList]; omega
    rw [show off + (j + 1) = off + j + 1 from by omega, List.take_set, List.drop_set, if_pos (by omega)]
    have : (List.take (off + j + 1) cs.toList).set (off + j) v = List.take (off + j) cs.toList ++ [v] := by
      rw [List.take_succ_eq_append_getElem hlt, List.set_append_right _ _ (by rw [List.length_take]; omega)]
      rw [List.length_take, Nat.min_eq_left (by omega)]
      simp
    rw [this]
    simp [Nat.add_assoc, Nat.add_comm 1]
theorem fill_sound {pl : Nat → Option (Nat × Nat)} : ∀ {ps : List (Nat × AV)} {qs : List (Nat × Value)} {cells out : List AV} {a : Array Value}, afill pl cells ps = some out → VRs ρ cells a.toList →
    ps.map (·.1) = qs.map (·.1) → VRs ρ (ps.map (·.2)) (qs.map (·.2)) → ∃ b : Array Value, Instr.fill pl a qs = some b ∧ VRs ρ out b.toList
  | [], qs, cells, out, a, h, hc, h1, _ => by
    have : qs = [] := by simpa using h1.symm
    subst this
    simp only [afill, Option.some.injEq] at h
    subst h
    exact ⟨a, rfl, hc⟩
  | (i, v) :: ps, qs, cells, out, a, h, hc, h1, h2 => by
    obtain ⟨q, qs', rfl⟩ : ∃ q qs', qs = q :: qs' := by
      cases qs with
      | nil => simp at h1
      | cons q qs' => exact ⟨q, qs', rfl⟩
    obtain ⟨j, x⟩ := q
    simp only [List.map_cons, List.cons.injEq] at h1
    obtain ⟨rfl, h1⟩ := h1
    obtain ⟨x', xs', he, hx, hxs⟩ := VRs.uncons (by simpa using h2)
    simp only [List.cons.injEq] at he
    obtain ⟨rfl, rfl⟩ := he
    unfold afill at h
    split at h
    · cases h
    · rename_i off size hpl
      split at h
      · cases h
      · rename_i hlen
        have hlen := Nat.eq_of_beq_eq_true hlen
        split at h
        · cases h
        · rename_i hfit
          have hfit : off + size ≤ cells.length := by simpa using hfit
          have hxc := hx.cells
          have hl1 := hxc.len
          have hl2 := hc.len
          simp only [Array.length_toList] at hl1 hl2
          have hsz : x.cells.size = size := by omega
          have hfold := set_fold off x.cells.toList 0 a (by rw [Array.length_toList]; omega)
          simp only [Array.toArray_toList, Nat.add_zero, Array.length_toList, hsz] at hfold
          have hv : VRs ρ (cells.take off ++ (v.cells ++ cells.drop (off + size))) ((x.cells.zipIdx).foldl (fun cs (c, i) => cs.setIfInBounds (off + i) c) a).toList := by
            rw [hfold]
            exact (hc.take off).append (hxc.append (hc.drop (off + size)))
          obtain ⟨b, hb, hr⟩ := fill_sound h hv h1 hxs
          refine ⟨b, ?_, hr⟩
          unfold Instr.fill
          rw [hpl]
          simp only
          rw [if_neg (by simp only [Bool.or_eq_true, decide_eq_true_eq, ne_eq]; omega)]
          exact hb
theorem zipParts_sound : ∀ {parts : List (Nat × Operand)} {vs : List AV} {ps : List (Nat × AV)} {l : List Value}, zipParts parts vs = some ps → VRs ρ vs l →
    ∀ (f : Operand → Value), l = parts.map (fun p => f p.2) → ps.map (·.1) = (parts.map fun p => (p.1, f p.2)).map (·.1) ∧ VRs ρ (ps.map (·.2)) ((parts.map fun p => (p.1, f p.2)).map (·.2))
  | [], [], ps, l, h, hv, f, hl => by
    simp only [zipParts, Option.some.injEq] at h
    subst h
    simp [VRs]
  | [], _ :: _, ps, l, h, hv, f, hl => by simp [zipParts] at h
  | _ :: _, [], ps, l, h, hv, f, hl => by simp [zipParts] at h
  | (i, o) :: parts, v :: vs, ps, l, h, hv, f, hl => by
    unfold zipParts at h
    split at h
    · rename_i r hr
      simp only [Option.some.injEq] at h
      subst h
      obtain ⟨y, ys, rfl, h1, h2⟩ := hv.uncons
      simp only [List.map_cons, List.cons.injEq] at hl
      obtain ⟨rfl, rfl⟩ := hl
      obtain ⟨k1, k2⟩ := zipParts_sound hr h2 f rfl
      refine ⟨by simpa using k1, ?_⟩
      simp only [List.map_cons]
      exact VRs.cons h1 (by simpa using k2)
    · cases h
omit [Nums] in
theorem placesT_sound : ∀ {fs : List Field} {pl : List (Nat × Nat)}, placesT P fs = some pl → fs.mapM (fun f => (P.info? f.type).map fun i => (f.offset, i.size)) = some pl
  | [], pl, h => by simp only [placesT, Option.some.injEq] at h; subst h; rfl
  | f :: fs, pl, h => by
    unfold placesT at h
    split at h
    · rename_i s hs
      split at h
      · rename_i r hr
        simp only [Option.some.injEq] at h
        subst h
        have := placesT_sound hr
        unfold sizeT at hs
        split at hs
        · rename_i i hi
          cases hs
          simp [List.mapM_cons, hi, this]
        · cases hs
      · cases h
    · cases h
theorem VR.agg_inv {l : List AV} {u : Value} (h : VR ρ (.agg l) u) : ∃ a : Array Value, u = .agg a ∧ VRs ρ l a.toList := by unfold VR at h; exact h
theorem build_sound {t : TypeId} {parts : Array (Nat × Operand)} {vs : List AV} {v : AV} {l : List Value} {f : Operand → Value} {x : Operand} (h : apure P (.build t parts) vs = some v) (hv : VRs ρ vs l)
    (hl : l = parts.toList.map (fun p => f p.2)) : ∃ u, VR ρ v u ∧ ∀ w, (Instr.build t (parts.map fun (i, x) => (i, f x))).run P w = .ok u w := by
  simp only [apure] at h
  split at h
  · cases h
  · rename_i ps hps
    obtain ⟨k1, k2⟩ := zipParts_sound hps hv f hl
    split at h
    · cases h
    · rename_i z hz
      obtain ⟨i, zv, hi, hiz, hof, _⟩ := zeroT_run hz
      have hzr := (ofV_sound ρ hof).cells
      have hparts : (parts.map fun (i, x) => (i, f x)).toList = parts.toList.map fun p => (p.1, f p.2) := by simp
      split at h
      · rename_i fs hu
        split at h
        · cases h
        · rename_i pl hpl
          split at h
          · rename_i out hout
            simp only [Option.some.injEq] at h
            subst h
            obtain ⟨b, hb, hr⟩ := fill_sound hout hzr k1 k2
            refine ⟨.agg b, by unfold VR; exact ⟨b, rfl, hr⟩, fun w => run_build w t _ b ?_⟩
            unfold Program.built
            rw [hi, hu, hparts]
            simp only [hiz, placesT_sound hpl]
            rw [← hb]
            congr 1
            funext k
            simp
          · cases h
      · rename_i n e hu
        split at h
        · cases h
        · rename_i s hs
          split at h
          · rename_i out hout
            simp only [Option.some.injEq] at h
            subst h
            obtain ⟨b, hb, hr⟩ := fill_sound hout hzr k1 k2
            refine ⟨.agg b, by unfold VR; exact ⟨b, rfl, hr⟩, fun w => run_build w t _ b ?_⟩
            unfold Program.built
            rw [hi, hu, hparts]
            unfold sizeT at hs
            split at hs
            · rename_i ie hie
              cases hs
              simp only [hiz, hie]
              exact hb
            · cases hs
          · cases h
      · cases h
end
end Go.Proofs.YthjjpmoifgcepaaGreat.Ex

/-
  The runner: an operation that looks at no memory gives what the model gives (all). No condition.
-/
namespace Go.Proofs.YthjjpmoifgcepaaGreat.Ex
open Go
variable [Nums]
section
variable {P : Program} {ρ : Ren}
omit [Nums] in
theorem blt_no {a b : Nat} (h : Nat.blt a b = false) : ¬ a < b := fun hc => by
  have : Nat.blt a b = true := by simpa using hc
  rw [this] at h
  cases h
def VRo (ρ : Ren) : Option AV → Option Value → Prop
  | none, o => o = none
  | some x, o => ∃ y, o = some y ∧ VR ρ x y
theorem bnd_spec {d y k : Nat} {ao : Option AV} {ov : Option Value} (h : bnd d y ao = some k) (hv : VRo ρ ao ov) : (ao = none ∧ ov = none ∧ k = d) ∨ ∃ kk, ov = some (.int kk (k : Int)) ∧ k ≤ y := by
  unfold bnd at h
  split at h
  · cases h
    exact .inl ⟨rfl, hv, rfl⟩
  · rename_i kk n
    split at h
    · rename_i hle
      cases h
      obtain ⟨u, rfl, hu⟩ := hv
      unfold VR at hu
      subst hu
      exact .inr ⟨kk, rfl, by simpa using hle⟩
    · cases h
  · cases h
omit [Nums] in
theorem sliceBound_ok (kk : IntKind) (k y : Nat) (code : BoundsCode) (h : k ≤ y) (w : World) : (Instr.sliceBound (.int kk (k : Int)) y code).run P w = .ok k w := by
  have := run_sliceBound (P := P) w kk (k : Int) y code (by omega) (by omega)
  simpa using this
omit [Nums] in
theorem slice_run {t e : TypeId} {s : Nat} (hu : P.underlying t = some (.slice e)) (hs : sizeT P e = some s) (a : Option Addr) (len cap : Nat) (ol oh om : Option Value) (l h m : Nat)
    (hm : (om = none ∧ m = cap) ∨ ∃ k, om = some (.int k (m : Int)) ∧ m ≤ cap) (hh : (oh = none ∧ om = none ∧ h = len) ∨ ∃ k, oh = some (.int k (h : Int)) ∧ h ≤ m) (hl : (ol = none ∧ l = 0) ∨ ∃ k, ol = some (.int k (l : Int)) ∧ l ≤ h) (w : World) :
    (Instr.sliceAt t (.slice a len cap) ol oh om).run P w = .ok (.slice (if m = l then a else a.map (·.add (l * s))) (h - l) (m - l)) w := by
  have hsz := sizeT_run hs w
  have hb : (Instr.sliceBounds true len cap ol oh om).run P w = .ok (l, h, m) w := by
    rcases hm with ⟨rfl, rfl⟩ | ⟨k1, rfl, h1⟩ <;> rcases hh with ⟨rfl, h0, rfl⟩ | ⟨k2, rfl, h2⟩ <;> rcases hl with ⟨rfl, rfl⟩ | ⟨k3, rfl, h3⟩ <;>
      first
      | (cases h0; done)
      | simp [Instr.sliceBounds, sliceBound_ok, *]
  simp [Instr.sliceAt, run_underlying hu w, Instr.slice, hb, hsz]
omit [Nums] in
theorem offAt_ev {σ : Nat → Int} {off : SE} {q : Nat} (h0 : 0 ≤ off.ev σ) (h4 : off.ev σ + q ≤ 4000000000) : (offAt off q).ev σ = off.ev σ + q := by
  cases q with
  | zero => simp [offAt]
  | succ q =>
    have e1 : Int.ofNat (q + 1) = ((q + 1 : Nat) : Int) := rfl
    by_cases hc : ∃ n, off = .lit n
    · obtain ⟨n, rfl⟩ := hc
      show n + Int.ofNat (q + 1) = n + _
      omega
    · have e : offAt off (q + 1) = .bin .add off (.lit (Int.ofNat (q + 1))) := by
        cases off <;> first | rfl | exact absurd ⟨_, rfl⟩ hc
      rw [e]
      simp only [SE.ev]
      rw [IntKind.wrap_i64]
      omega
omit [Nums] in
theorem spanOf_ok {σ : Nat → Int} {x y x' : SE} {k : Nat} (h : spanOf x y = some (x', k)) : x'.ev σ = x.ev σ ∧ ((x.ev σ + k = y.ev σ) ∨ y.ev σ = IntKind.i64.wrap (x.ev σ + k)) := by
  unfold spanOf at h
  split at h
  · rename_i a b
    split at h <;> first | (cases h; done) | skip
    rename_i k' hk
    simp only [Option.some.injEq, Prod.mk.injEq] at h
    obtain ⟨rfl, rfl⟩ := h
    refine ⟨rfl, .inl ?_⟩
    simp only [SE.ev]
    have : b - a = (k' : Int) := hk
    omega
  · rename_i x0 k0 _
    split at h <;> first | (cases h; done) | skip
    rename_i hb
    simp only [Option.some.injEq, Prod.mk.injEq] at h
    obtain ⟨rfl, rfl⟩ := h
    have := SE.beq_eq hb
    subst this
    exact ⟨rfl, .inr (by simp only [SE.ev]; rfl)⟩
  · cases h
theorem slice_sound {t e : TypeId} {x v : AV} {al ah am : Option AV} {u : Value} {ol oh om : Option Value} (hu : P.underlying t = some (.slice e)) (h : asliceOf P e x al ah am = some v) (hx : VR ρ x u)
    (hl : VRo ρ al ol) (hh : VRo ρ ah oh) (hm : VRo ρ am om) : ∃ y, VR ρ v y ∧ ∀ w, (Instr.sliceAt t u ol oh om).run P w = .ok y w := by
  unfold asliceOf at h
  split at h
  · -- nil
    unfold VR at hx
    subst hx
    split at h <;> first | (cases h; done) | skip
    rename_i m0 e1
    split at h <;> first | (cases h; done) | skip
    rename_i h0 e2
    split at h <;> first | (cases h; done) | skip
    rename_i l0 e3
    split at h
    · cases h
    · rename_i hno
      split at h <;> first | (cases h; done) | skip
      rename_i s hs
      simp only [Option.some.injEq] at h
      subst h
      refine ⟨.slice none 0 0, by unfold VR; rfl, fun w => ?_⟩
      have q1 : (om = none ∧ 0 = 0) ∨ ∃ k, om = some (.int k ((0 : Nat) : Int)) ∧ 0 ≤ 0 := by
        rcases bnd_spec e1 hm with ⟨_, r1, _⟩ | ⟨k, r1, r2⟩
        · exact .inl ⟨r1, rfl⟩
        · obtain rfl : m0 = 0 := by omega
          exact .inr ⟨k, r1, Nat.le_refl _⟩
      have q2 : (oh = none ∧ om = none ∧ 0 = 0) ∨ ∃ k, oh = some (.int k ((0 : Nat) : Int)) ∧ 0 ≤ 0 := by
        rcases bnd_spec e2 hh with ⟨r0, r1, _⟩ | ⟨k, r1, r2⟩
        · rcases bnd_spec e1 hm with ⟨_, r3, _⟩ | ⟨k, r3, r4⟩
          · exact .inl ⟨r1, r3, rfl⟩
          · exfalso
            subst r0
            cases am with
            | none => rw [show om = none from hm] at r3; cases r3
            | some am => exact hno _ rfl rfl
        · obtain rfl : h0 = 0 := by omega
          exact .inr ⟨k, r1, Nat.le_refl _⟩
      have q3 : (ol = none ∧ 0 = 0) ∨ ∃ k, ol = some (.int k ((0 : Nat) : Int)) ∧ 0 ≤ 0 := by
        rcases bnd_spec e3 hl with ⟨_, r1, _⟩ | ⟨k, r1, r2⟩
        · exact .inl ⟨r1, rfl⟩
        · obtain rfl : l0 = 0 := by omega
          exact .inr ⟨k, r1, Nat.le_refl _⟩
      rw [slice_run hu hs none 0 0 ol oh om 0 0 0 q1 q2 q3 w]
      rfl
  · rename_i n off len sz r
    unfold VR at hx
    obtain ⟨b, s0, c, hρ, rfl, hlc, hcm, hroom⟩ := hx
    split at h <;> first | (cases h; done) | skip
    rename_i s hs
    split at h
    · cases h
    · rename_i hsz
      have hsz := Nat.eq_of_beq_eq_true hsz
      subst hsz
      split at h
      · -- no third bound
        have hom : om = none := hm
        split at h <;> first | (cases h; done) | skip
        rename_i hi e1
        split at h <;> first | (cases h; done) | skip
        rename_i lo e2
        have q1 : (om = none ∧ c = c) ∨ ∃ k, om = some (.int k (c : Int)) ∧ c ≤ c := .inl ⟨hom, rfl⟩
        have q2 : (oh = none ∧ om = none ∧ hi = len) ∨ ∃ k, oh = some (.int k (hi : Int)) ∧ hi ≤ c := by
          rcases bnd_spec e1 hh with ⟨_, r1, r2⟩ | ⟨k, r1, r2⟩
          · exact .inl ⟨r1, hom, r2⟩
          · exact .inr ⟨k, r1, by omega⟩
        have hhl : hi ≤ len := by
          rcases bnd_spec e1 hh with ⟨_, r1, r2⟩ | ⟨k, r1, r2⟩ <;> omega
        have q3 : (ol = none ∧ lo = 0) ∨ ∃ k, ol = some (.int k (lo : Int)) ∧ lo ≤ hi := by
          rcases bnd_spec e2 hl with ⟨_, r1, r2⟩ | ⟨k, r1, r2⟩
          · exact .inl ⟨r1, r2⟩
          · exact .inr ⟨k, r1, r2⟩
        have hrun := fun w => slice_run hu hs (some ⟨b, off, none⟩) len c ol oh om lo hi c q1 q2 q3 w
        split at h
        · rename_i h0
          have h0 := Nat.eq_of_beq_eq_true h0
          subst h0
          simp only [Option.some.injEq] at h
          subst h
          refine ⟨_, ?_, hrun⟩
          unfold VR
          refine ⟨b, s0, c, hρ, ?_, by omega, hcm, hroom⟩
          simp [Addr.add]
        · rename_i h0
          split at h
          · rename_i h1
            have h1 : lo < hi := by simpa using h1
            simp only [Option.some.injEq] at h
            subst h
            refine ⟨_, ?_, hrun⟩
            unfold VR
            refine ⟨b, s0, c - lo, hρ, ?_, ?_, by omega, trivial⟩
            · rw [if_neg (by omega)]
              simp only [Option.map_some, Addr.add_mid]
              rfl
            · show hi - lo ≤ c - lo
              omega
          · rename_i h1
            have h1 : ¬ lo < hi := blt_no h1
            simp only [Option.some.injEq] at h
            subst h
            refine ⟨_, ?_, hrun⟩
            unfold VR
            have hll : lo ≤ hi := by rcases q3 with ⟨_, r⟩ | ⟨k, _, r⟩ <;> omega
            rw [show hi - lo = 0 from by omega]
            by_cases hc : c = lo
            · rw [if_pos hc]; exact ⟨_, _, rfl⟩
            · rw [if_neg hc]; exact ⟨_, _, rfl⟩
      · rename_i am
        split at h <;> first | (cases h; done) | skip
        rename_i ahv
        split at h <;> first | (cases h; done) | skip
        rename_i m e0
        split at h <;> first | (cases h; done) | skip
        rename_i hi e1
        split at h <;> first | (cases h; done) | skip
        rename_i lo e2
        split at h
        · rename_i h0
          have h0 := Nat.eq_of_beq_eq_true h0
          subst h0
          simp only [Option.some.injEq] at h
          subst h
          obtain ⟨k0, r0, r0'⟩ : ∃ k, om = some (.int k (m : Int)) ∧ m ≤ len := by
            rcases bnd_spec e0 hm with ⟨r, _⟩ | r
            · cases r
            · exact r
          obtain ⟨k1, r1, r1'⟩ : ∃ k, oh = some (.int k (hi : Int)) ∧ hi ≤ m := by
            rcases bnd_spec e1 hh with ⟨r, _⟩ | r
            · cases r
            · exact r
          have q3 : (ol = none ∧ 0 = 0) ∨ ∃ k, ol = some (.int k ((0 : Nat) : Int)) ∧ 0 ≤ hi := by
            rcases bnd_spec e2 hl with ⟨_, r1, r2⟩ | ⟨k, r1, r2⟩
            · exact .inl ⟨r1, r2⟩
            · exact .inr ⟨k, r1, r2⟩
          refine ⟨_, ?_, fun w => slice_run hu hs (some ⟨b, off, none⟩) len c ol oh om 0 hi m (.inr ⟨k0, r0, by omega⟩) (.inr ⟨k1, r1, r1'⟩) q3 w⟩
          unfold VR
          refine ⟨b, s0, m, hρ, ?_, by omega, by omega, rfl⟩
          simp [Addr.add]
        · cases h
  · rename_i n len sz
    split at h <;> first | (cases h; done) | skip
    rename_i s hs
    split at h <;> first | (cases h; done) | skip
    rename_i hsz
    rw [Bool.and_eq_true] at hsz
    have hsz1 := Nat.eq_of_beq_eq_true hsz.1
    have hpos : 0 < s := by simpa using hsz.2
    subst hsz1
    split at h <;> first | (cases h; done) | skip
    rename_i va vb
    split at h <;> first | (cases h; done) | skip
    rename_i ka x hx1
    split at h <;> first | (cases h; done) | skip
    rename_i kb y hy1
    split at h <;> first | (cases h; done) | skip
    rename_i x' k hsp
    split at h <;> first | (cases h; done) | skip
    rename_i hlo
    split at h <;> first | (cases h; done) | skip
    rename_i hhi
    split at h <;> first | (cases h; done) | skip
    rename_i hk
    rw [Bool.and_eq_true] at hk
    have hk0 : 0 < k := by simpa using hk.1
    have hk1 : k < 1000000000 := by simpa using hk.2
    have hlo := of_decide_eq_false (askLt_ok hlo)
    have hhi := of_decide_eq_true (askLt_ok hhi)
    simp only [SE.ev] at hlo hhi
    obtain ⟨e1, e2⟩ := spanOf_ok (σ := Nums.σ) hsp
    have hfit : v = .ssl n x' k s ∧ x'.ev Nums.σ + k ≤ len.ev Nums.σ := by
      split at h
      · rename_i hle
        have hle := of_decide_eq_false (askLt_ok hle)
        simp only [SE.ev] at hle
        have hw : IntKind.i64.wrap (x'.ev Nums.σ + Int.ofNat k) = x'.ev Nums.σ + k := by
          rw [IntKind.wrap_i64]
          show _ = x'.ev Nums.σ + (k : Int)
          have : Int.ofNat k = (k : Int) := rfl
          omega
        rw [hw] at hle
        cases h
        exact ⟨rfl, by omega⟩
      · split at h <;> first | (cases h; done) | skip
        rename_i hwn
        obtain ⟨w1, w2⟩ := within_ok hwn
        have hq : Nat.sub k 1 = k - 1 := rfl
        rw [offAt_ev (by omega) (by omega)] at w2
        cases h
        exact ⟨rfl, by omega⟩
    obtain ⟨rfl, hfit⟩ := hfit
    unfold VR at hx
    obtain ⟨b, z, l, c, hb, rfl, hlc, hcm, hz, hlen⟩ := hx
    obtain ⟨ua, rfl, ha⟩ := hl
    obtain ⟨ub, rfl, hb2⟩ := hh
    have hom : om = none := hm
    subst hom
    have ha := toSE_ok hx1 ha
    have hb2 := toSE_ok hy1 hb2
    subst ha
    subst hb2
    have ex : x.ev Nums.σ = (((x'.ev Nums.σ).toNat : Nat) : Int) := by omega
    have ey : y.ev Nums.σ = (((x'.ev Nums.σ).toNat + k : Nat) : Int) := by
      rcases e2 with e2 | e2
      · omega
      · rw [e2, IntKind.wrap_i64]
        omega
    rw [ex, ey]
    have hkl : (x'.ev Nums.σ).toNat + k ≤ c := by omega
    refine ⟨_, ?_, fun w => slice_run hu hs (some ⟨b, 0, none⟩) l c _ _ none (x'.ev Nums.σ).toNat ((x'.ev Nums.σ).toNat + k) c (.inl ⟨rfl, rfl⟩) (.inr ⟨kb, rfl, hkl⟩) (.inr ⟨ka, rfl, by omega⟩) w⟩
    unfold VR
    refine ⟨b, z, c - (x'.ev Nums.σ).toNat, hb, ?_, by omega, by omega, by omega, by omega⟩
    rw [if_neg (by omega)]
    simp only [Option.map_some, Addr.add_mid, Nat.zero_add, Nat.add_sub_cancel_left]
  · cases h
theorem aint2_sound {mx : Bool} {x y v : AV} {a b : Value} (h : aint2 mx x y = some v) (hx : VR ρ x a) (hy : VR ρ y b) : ∃ u, VR ρ v u ∧ ∀ w, ((if mx then Builtin.max2 a b else Builtin.min2 a b) : Sem Value).run P w = .ok u w := by
  unfold aint2 at h
  split at h
  · unfold VR at hx hy
    subst hx; subst hy
    split at h <;> (simp only [Option.some.injEq] at h; subst h; refine ⟨_, by unfold VR; rfl, fun w => ?_⟩)
    · simp [Builtin.max2]
    · simp [Builtin.min2]
  · split at h <;> first | (cases h; done) | skip
    rename_i k a' h1
    split at h <;> first | (cases h; done) | skip
    rename_i k' b' h2
    have e1 := toSE_ok h1 hx
    have e2 := toSE_ok h2 hy
    split at h <;> first | (cases h; done) | skip
    rename_i hk
    have hk := of_decide_eq_true hk
    subst hk
    split at h <;> first | (cases h; done) | skip
    split at h <;> first | (cases h; done) | skip
    · rename_i hr
      have := of_decide_eq_true (askLt_ok hr)
      cases h
      subst e1; subst e2
      exact ⟨_, hy, fun w => by simp [Builtin.max2, this]⟩
    · rename_i hr
      have := of_decide_eq_false (askLt_ok hr)
      cases h
      subst e1; subst e2
      exact ⟨_, hx, fun w => by simp [Builtin.max2, this]⟩
theorem afold_sound (mx : Bool) : ∀ {l : List AV} {x v : AV} {a : Value} {m : List Value}, afoldInt mx x l = some v → VR ρ x a → VRs ρ l m → ∃ u, VR ρ v u ∧ ∀ w, (m.foldlM (fun a b => if mx then Builtin.max2 a b else Builtin.min2 a b) a : Sem Value).run P w = .ok u w
  | [], x, v, a, m, h, hx, hl => by
    unfold VRs at hl
    subst hl
    simp only [afoldInt, Option.some.injEq] at h
    subst h
    exact ⟨a, hx, fun w => by simp⟩
  | y :: l, x, v, a, m, h, hx, hl => by
    obtain ⟨b, bs, rfl, h1, h2⟩ := hl.uncons
    unfold afoldInt at h
    split at h
    · rename_i u hu
      obtain ⟨c, hc, hr⟩ := aint2_sound (P := P) hu hx h1
      obtain ⟨d, hd, hr'⟩ := afold_sound mx h hc h2
      refine ⟨d, hd, fun w => ?_⟩
      rw [List.foldlM_cons, Sem.run_bind, hr w, Result.andThen_ok, hr' w]
    · cases h
theorem VR.int_inv {k : IntKind} {n : Int} {u : Value} (h : VR ρ (.int k n) u) : u = .int k n := by unfold VR at h; exact h
theorem VR.ptr_inv {n off : Nat} {u : Value} (h : VR ρ (.ptr n off) u) : ∃ b s, ρ n = some (b, s) ∧ u = .pointer (some ⟨b, off, none⟩) := by unfold VR at h; exact h
omit [Nums] in
theorem map_list {l : Array Operand} {f : Operand → Value} : (l.map f).toList = l.toList.map f := by simp
theorem aindex_sound {t : TypeId} {x v : AV} {e : SE} {u : Value} {k : IntKind} (h : aindex P t x e = some v) (hx : VR ρ x u) :
    ∃ y, VR ρ v y ∧ ∀ w, (Instr.indexAt t u (.int k (e.ev Nums.σ))).run P w = .ok y w := by
  unfold aindex at h
  split at h <;> first | (cases h; done) | skip
  · rename_i n len z
    split at h <;> first | (cases h; done) | skip
    rename_i el hu
    split at h <;> first | (cases h; done) | skip
    rename_i s hs
    split at h <;> first | (cases h; done) | skip
    rename_i hsz
    have hsz := Nat.eq_of_beq_eq_true hsz
    subst hsz
    split at h <;> first | (cases h; done) | skip
    rename_i hw
    obtain ⟨w1, w2⟩ := within_ok hw
    simp only [Option.some.injEq] at h; subst h
    unfold VR at hx
    obtain ⟨b, z, l, c, hb, rfl, hlc, hcm, hz, hl⟩ := hx
    refine ⟨.pointer (some ⟨b, (e.ev Nums.σ).toNat * s + 0, none⟩), by unfold VR; exact ⟨b, z, hb, rfl⟩, fun w => ?_⟩
    have h1 : ¬ e.ev Nums.σ < 0 := by omega
    have h2 : e.ev Nums.σ < (l : Int) := by omega
    have h3 : (e.ev Nums.σ).toNat < l := by omega
    simp [Instr.indexAt, asIntOf, run_underlying hu w, h1, h2, h3, w1, sizeT_run hs w, Addr.add_mid]
  · rename_i n off len z r
    split at h <;> first | (cases h; done) | skip
    rename_i el hu
    split at h <;> first | (cases h; done) | skip
    rename_i s hs
    split at h <;> first | (cases h; done) | skip
    rename_i hsz
    rw [Bool.and_eq_true] at hsz
    have hsz0 := Nat.eq_of_beq_eq_true hsz.1
    have hoff := Nat.eq_of_beq_eq_true hsz.2
    subst hsz0; subst hoff
    split at h <;> first | (cases h; done) | skip
    rename_i hw
    obtain ⟨w1, w2⟩ := within_ok hw
    simp only [SE.ev] at w2
    simp only [Option.some.injEq] at h; subst h
    unfold VR at hx
    obtain ⟨b, z, c, hb, rfl, hlc, hcm, _⟩ := hx
    refine ⟨.pointer (some ⟨b, (e.ev Nums.σ).toNat * s + 0, none⟩), by unfold VR; exact ⟨b, z, hb, rfl⟩, fun w => ?_⟩
    have h1 : ¬ e.ev Nums.σ < 0 := by omega
    have h2 : e.ev Nums.σ < (len : Int) := w2
    have h3 : (e.ev Nums.σ).toNat < len := by omega
    simp [Instr.indexAt, asIntOf, run_underlying hu w, h1, h2, h3, w1, sizeT_run hs w, Addr.add_mid]
  · rename_i n off
    split at h <;> first | (cases h; done) | skip
    rename_i len el hu
    split at h <;> first | (cases h; done) | skip
    rename_i s hs
    split at h <;> first | (cases h; done) | skip
    rename_i hoff
    have hoff := Nat.eq_of_beq_eq_true hoff
    subst hoff
    split at h <;> first | (cases h; done) | skip
    rename_i hw
    obtain ⟨w1, w2⟩ := within_ok hw
    simp only [SE.ev] at w2
    simp only [Option.some.injEq] at h; subst h
    obtain ⟨b, z, hb, rfl⟩ := hx.ptr_inv
    refine ⟨.pointer (some ⟨b, (e.ev Nums.σ).toNat * s + 0, none⟩), by unfold VR; exact ⟨b, z, hb, rfl⟩, fun w => ?_⟩
    have h1 : ¬ e.ev Nums.σ < 0 := by omega
    have h2 : e.ev Nums.σ < (len : Int) := w2
    have h3 : (e.ev Nums.σ).toNat < len := by omega
    simp [Instr.indexAt, asIntOf, run_underlying hu w, h1, h2, h3, w1, sizeT_run hs w, Addr.add_mid, Instr.sureAddr]
  · rename_i i
    split at h <;> first | (cases h; done) | skip
    rename_i el hu
    split at h <;> first | (cases h; done) | skip
    rename_i s hs
    split at h <;> first | (cases h; done) | skip
    rename_i hsz
    have hsz := Nat.eq_of_beq_eq_true hsz
    subst hsz
    split at h <;> first | (cases h; done) | skip
    rename_i hw
    obtain ⟨w1, w2⟩ := within_ok hw
    simp only [Option.some.injEq] at h; subst h
    unfold VR at hx
    obtain ⟨A, l, c, hro, rfl, hlc, hcm, hl0, hl⟩ := hx
    simp only [SE.ev, SE.evN] at w2
    have h2 : e.ev Nums.σ < (l : Int) := by omega
    cases A with
    | none => exact absurd (hl rfl) (by omega)
    | some A =>
      have h1 : ¬ e.ev Nums.σ < 0 := by omega
      have h3 : (e.ev Nums.σ).toNat < l := by omega
      refine ⟨.pointer (some (A.add (e.ev Nums.σ).toNat)), by unfold VR; exact ⟨A, l, c, hro, rfl, h3⟩, fun w => ?_⟩
      simp [Instr.indexAt, asIntOf, run_underlying hu w, h1, h2, h3, w1, sizeT_run hs w]
theorem pure_sound {o : Oper} {a : Act} {vs : List AV} {v : AV} (h : apure P o.op vs = some v) (hv : VRs ρ vs (o.op.operands.toList.map a.eval)) :
    ∃ x, VR ρ v x ∧ ∀ w, (execOp a.eval o).run P w = .ok (.value x) w := by
  unfold execOp
  generalize o.op = op at h hv
  cases op with
  | move x =>
    simp only [apure] at h
    split at h <;> first | (cases h; done) | skip
    simp only [Option.some.injEq] at h; subst h
    obtain ⟨y, hy, hr⟩ := hv.one
    simp [Op.operands] at hy
    exact ⟨_, hr, fun w => by simp [hy]⟩
  | assign x =>
    simp only [apure] at h
    split at h <;> first | (cases h; done) | skip
    simp only [Option.some.injEq] at h; subst h
    obtain ⟨y, hy, hr⟩ := hv.one
    simp [Op.operands] at hy
    exact ⟨_, hr, fun w => by simp [hy]⟩
  | pick c x y =>
    simp only [apure] at h
    split at h <;> first | (cases h; done) | skip
    · simp only [Option.some.injEq] at h; subst h
      obtain ⟨y1, y2, y3, hy, hr1, hr2, hr3⟩ := hv.three
      simp [Op.operands] at hy
      obtain ⟨e1, e2, e3⟩ := hy
      unfold VR at hr1
      subst hr1
      exact ⟨_, hr2, fun w => by simp [e1, e2, asBool]⟩
    · simp only [Option.some.injEq] at h; subst h
      obtain ⟨y1, y2, y3, hy, hr1, hr2, hr3⟩ := hv.three
      simp [Op.operands] at hy
      obtain ⟨e1, e2, e3⟩ := hy
      unfold VR at hr1
      subst hr1
      exact ⟨_, hr3, fun w => by simp [e1, e3, asBool]⟩
    · rename_i c p u v'
      obtain ⟨y1, y2, y3, hy, hr1, hr2, hr3⟩ := hv.three
      simp [Op.operands] at hy
      obtain ⟨e1, e2, e3⟩ := hy
      unfold VR at hr1
      split at h <;> first | (cases h; done) | skip
      rename_i q hq
      have hq := askC_ok hq
      rw [hq] at hr1
      subst hr1
      split at h
      · rename_i hqp
        simp only [Option.some.injEq] at h; subst h
        exact ⟨_, hr2, fun w => by simp [e1, e2, asBool, hqp]⟩
      · rename_i hqp
        simp only [Option.some.injEq] at h; subst h
        exact ⟨_, hr3, fun w => by simp [e1, e3, asBool, hqp]⟩
  | build t parts =>
    obtain ⟨u, hu, hr⟩ := build_sound (ρ := ρ) (x := .const undef) h hv (f := a.eval) (by simp [Op.operands])
    exact ⟨u, hu, fun w => by simp [hr w]⟩
  | nilCheck x =>
    simp only [apure] at h
    split at h <;> first | (cases h; done) | skip
    · simp only [Option.some.injEq] at h; subst h
      obtain ⟨y, hy, hr⟩ := hv.one
      simp [Op.operands] at hy
      obtain ⟨b, s, _, rfl⟩ := hr.ptr_inv
      exact ⟨_, hr, fun w => by simp [hy]⟩
    · simp only [Option.some.injEq] at h; subst h
      obtain ⟨y, hy, hr⟩ := hv.one
      simp [Op.operands] at hy
      have hr' := hr
      unfold VR at hr'
      obtain ⟨_, _, rfl, _⟩ := hr'
      exact ⟨_, hr, fun w => by simp [hy]⟩
  | binOp op t x y yt =>
    simp only [apure] at h
    split at h <;> first | (cases h; done) | skip
    obtain ⟨y1, y2, hy, hr1, hr2⟩ := hv.two
    simp [Op.operands] at hy
    obtain ⟨e1, e2⟩ := hy
    obtain ⟨u, hu, hr⟩ := abinop_sound h hr1 hr2 x y
    refine ⟨u, hu, fun w => ?_⟩
    have := hr w
    simp only [e1, e2]
    simp only [Sem.run_bind] at this ⊢
    rw [this]
    simp
  | unOp op t x =>
    simp only [apure] at h
    split at h <;> first | (cases h; done) | skip
    obtain ⟨y, hy, hr⟩ := hv.one
    simp [Op.operands] at hy
    obtain ⟨u, hu, hr'⟩ := aun_run (P := P) h hr
    exact ⟨u, hu, fun w => by simp [hy, hr' w]⟩
  | convert src dst x =>
    simp only [apure] at h
    split at h <;> first | (cases h; done) | skip
    rotate_left
    · split at h <;> first | (cases h; done) | skip
      rename_i d hsu
      split at h <;> first | (cases h; done) | skip
      rename_i k hu
      simp only [Option.some.injEq] at h; subst h
      obtain ⟨y, hy, hr⟩ := hv.one
      simp [Op.operands] at hy
      unfold VR at hr
      subst hr
      rename_i kk e _ _
      refine ⟨.int k (k.wrap (e.ev Nums.σ)), by unfold VR; rfl, fun w => ?_⟩
      have : (convert src dst (.int kk (e.ev Nums.σ))).run P w = .ok (.int k (k.wrap (e.ev Nums.σ))) w := by
        unfold convert
        rw [Sem.run_bind, run_underlying hsu w, Result.andThen_ok, Sem.run_bind, run_underlying hu w, Result.andThen_ok]
        cases d <;> rfl
      simp [hy, this]
    split at h <;> first | (cases h; done) | skip
    rename_i d hsu
    split at h <;> first | (cases h; done) | skip
    rename_i k hu
    simp only [Option.some.injEq] at h; subst h
    obtain ⟨y, hy, hr⟩ := hv.one
    simp [Op.operands] at hy
    have hr := hr.int_inv
    subst hr
    rename_i kk n _ _
    refine ⟨.int k (k.wrap n), by unfold VR; rfl, fun w => ?_⟩
    have : (convert src dst (.int kk n)).run P w = .ok (.int k (k.wrap n)) w := by
      unfold convert
      rw [Sem.run_bind, run_underlying hsu w, Result.andThen_ok, Sem.run_bind, run_underlying hu w, Result.andThen_ok]
      cases d <;> rfl
    simp [hy, this]
  | makeFunc fn first captured =>
    simp only [apure, Option.some.injEq] at h; subst h
    refine ⟨.func fn (first.map a.eval) (captured.map a.eval), ?_, fun w => by simp [Instr.makeFunc]⟩
    unfold VR
    simp only [Op.operands, Array.toList_append, List.map_append] at hv
    refine ⟨_, _, rfl, ?_, ?_⟩
    · have := hv.take first.size
      rw [List.take_left' (by simp)] at this
      simpa using this
    · have := hv.drop first.size
      rw [List.drop_left' (by simp)] at this
      simpa using this
  | slice t x lo hi mx =>
    simp only [apure] at h
    split at h <;> first | (cases h; done) | skip
    rename_i e hu
    have fin : ∀ {x' v' : AV} {al ah am : Option AV}, asliceOf P e x' al ah am = some v' → VR ρ x' (a.eval x) → VRo ρ al (lo.map a.eval) → VRo ρ ah (hi.map a.eval) → VRo ρ am (mx.map a.eval) →
        ∃ y, VR ρ v' y ∧ ∀ w, ((do pure (.value (← Instr.sliceAt t (a.eval x) (lo.map a.eval) (hi.map a.eval) (mx.map a.eval))) : Sem Next)).run P w = .ok (.value y) w := by
      intro x' v' al ah am h1 h2 h3 h4 h5
      obtain ⟨y, hy, hr⟩ := slice_sound hu h1 h2 h3 h4 h5
      exact ⟨y, hy, fun w => by simp [hr w]⟩
    split at h
    · obtain ⟨y, hy, hr⟩ := hv.one
      simp [Op.operands] at hy
      subst hy
      exact fin h hr rfl rfl rfl
    · obtain ⟨y, y2, hy, hr, hr2⟩ := hv.two
      simp [Op.operands] at hy
      obtain ⟨rfl, rfl⟩ := hy
      exact fin h hr ⟨_, rfl, hr2⟩ rfl rfl
    · obtain ⟨y, y2, hy, hr, hr2⟩ := hv.two
      simp [Op.operands] at hy
      obtain ⟨rfl, rfl⟩ := hy
      exact fin h hr rfl ⟨_, rfl, hr2⟩ rfl
    · obtain ⟨y, y2, y3, hy, hr, hr2, hr3⟩ := hv.three
      simp [Op.operands] at hy
      obtain ⟨rfl, rfl, rfl⟩ := hy
      exact fin h hr ⟨_, rfl, hr2⟩ ⟨_, rfl, hr3⟩ rfl
    · obtain ⟨y, y2, y3, hy, hr, hr2, hr3⟩ := hv.three
      simp [Op.operands] at hy
      obtain ⟨rfl, rfl, rfl⟩ := hy
      exact fin h hr rfl ⟨_, rfl, hr2⟩ ⟨_, rfl, hr3⟩
    · obtain ⟨y, y2, y3, y4, hy, hr, hr2, hr3, hr4⟩ := hv.four
      simp [Op.operands] at hy
      obtain ⟨rfl, rfl, rfl, rfl⟩ := hy
      exact fin h hr ⟨_, rfl, hr2⟩ ⟨_, rfl, hr3⟩ ⟨_, rfl, hr4⟩
    · cases h
  | fieldAddr s x f =>
    simp only [apure] at h
    split at h <;> first | (cases h; done) | skip
    · split at h <;> first | (cases h; done) | skip
      rename_i n off _ fs hu
      split at h <;> first | (cases h; done) | skip
      rename_i fd hfd
      split at h <;> first | (cases h; done) | skip
      rename_i sz hsz
      simp only [Option.some.injEq] at h; subst h
      obtain ⟨y, hy, hr⟩ := hv.one
      simp [Op.operands] at hy
      obtain ⟨b, s, hb, rfl⟩ := hr.ptr_inv
      refine ⟨.pointer (some ⟨b, off + fd.offset, none⟩), by unfold VR; exact ⟨b, s, hb, rfl⟩, fun w => ?_⟩
      simp [Instr.fieldAt, run_underlying hu w, hfd, hy, Instr.sureAddr, fieldPlace, sizeT_run hsz w, Addr.add_mid]
    · split at h <;> first | (cases h; done) | skip
      rename_i n ie z j _ fs hu
      split at h <;> first | (cases h; done) | skip
      rename_i fd hfd
      split at h <;> first | (cases h; done) | skip
      rename_i sz hsz
      simp only [Option.some.injEq] at h; subst h
      obtain ⟨y, hy, hr⟩ := hv.one
      simp [Op.operands] at hy
      unfold VR at hr
      obtain ⟨b, s, hb, rfl⟩ := hr
      refine ⟨.pointer (some ⟨b, (ie.ev Nums.σ).toNat * z + (j + fd.offset), none⟩), by unfold VR; exact ⟨b, s, hb, rfl⟩, fun w => ?_⟩
      simp [Instr.fieldAt, run_underlying hu w, hfd, hy, Instr.sureAddr, fieldPlace, sizeT_run hsz w, Addr.add_mid, Nat.add_assoc]
  | field t x f =>
    simp only [apure] at h
    split at h <;> first | (cases h; done) | skip
    split at h <;> first | (cases h; done) | skip
    rename_i cs _ fs hu
    split at h <;> first | (cases h; done) | skip
    rename_i fd hfd
    obtain ⟨y, hy, hr⟩ := hv.one
    simp [Op.operands] at hy
    obtain ⟨ar, rfl, hc⟩ := hr.agg_inv
    obtain ⟨u, hu', hr'⟩ := part_sound h hc
    exact ⟨u, hu', fun w => by simp [Instr.field, run_underlying hu w, hfd, hy, asAgg, hr' w]⟩
  | indexAddr t x i =>
    simp only [apure] at h
    split at h <;> first | (cases h; done) | skip
    · rename_i n off len sz r k j
      split at h <;> first | (cases h; done) | skip
      rename_i e hu
      split at h <;> first | (cases h; done) | skip
      rename_i q hq
      obtain ⟨rfl, hlt⟩ := inRange_spec hq
      split at h <;> first | (cases h; done) | skip
      rename_i s hs
      split at h <;> first | (cases h; done) | skip
      rename_i hsz
      have hsz := Nat.eq_of_beq_eq_true hsz
      subst hsz
      simp only [Option.some.injEq] at h; subst h
      obtain ⟨y, y2, hy, hr, hr2⟩ := hv.two
      simp [Op.operands] at hy
      obtain ⟨e1, e2⟩ := hy
      have hr2 := hr2.int_inv
      subst hr2
      unfold VR at hr
      obtain ⟨b, s0, c, hb, rfl, _⟩ := hr
      refine ⟨.pointer (some ⟨b, off + q * s, none⟩), by unfold VR; exact ⟨b, s0, hb, rfl⟩, fun w => ?_⟩
      have h0 : (0 : Int) ≤ q ∧ (q : Int) < len := by omega
      simp [Instr.indexAt, asIntOf, run_underlying hu w, e1, e2, hlt, sizeT_run hs w, Addr.add_mid]
    · rename_i n off k j
      split at h <;> first | (cases h; done) | skip
      rename_i len e hu
      split at h <;> first | (cases h; done) | skip
      rename_i q hq
      obtain ⟨rfl, hlt⟩ := inRange_spec hq
      split at h <;> first | (cases h; done) | skip
      rename_i s hs
      simp only [Option.some.injEq] at h; subst h
      obtain ⟨y, y2, hy, hr, hr2⟩ := hv.two
      simp [Op.operands] at hy
      obtain ⟨e1, e2⟩ := hy
      have hr2 := hr2.int_inv
      subst hr2
      obtain ⟨b, s0, hb, rfl⟩ := hr.ptr_inv
      refine ⟨.pointer (some ⟨b, off + q * s, none⟩), by unfold VR; exact ⟨b, s0, hb, rfl⟩, fun w => ?_⟩
      simp [Instr.indexAt, asIntOf, run_underlying hu w, e1, e2, hlt, sizeT_run hs w, Addr.add_mid, Instr.sureAddr]
    · rename_i b off k j
      split at h <;> first | (cases h; done) | skip
      rename_i len e hu
      split at h <;> first | (cases h; done) | skip
      rename_i q hq
      obtain ⟨rfl, hlt⟩ := inRange_spec hq
      split at h <;> first | (cases h; done) | skip
      rename_i s hs
      simp only [Option.some.injEq] at h; subst h
      obtain ⟨y, y2, hy, hr, hr2⟩ := hv.two
      simp [Op.operands] at hy
      obtain ⟨e1, e2⟩ := hy
      have hr2 := hr2.int_inv
      subst hr2
      unfold VR at hr
      subst hr
      refine ⟨.pointer (some ⟨b, off + q * s, none⟩), by unfold VR; rfl, fun w => ?_⟩
      simp [Instr.indexAt, asIntOf, run_underlying hu w, e1, e2, hlt, sizeT_run hs w, Addr.add_mid, Instr.sureAddr]
    · rename_i n off len z k j
      split at h <;> first | (cases h; done) | skip
      rename_i e hu
      split at h <;> first | (cases h; done) | skip
      rename_i q hq
      obtain ⟨rfl, hlt⟩ := inRange_spec hq
      split at h <;> first | (cases h; done) | skip
      rename_i s hs
      split at h <;> first | (cases h; done) | skip
      rename_i hsz
      have hsz := Nat.eq_of_beq_eq_true hsz
      subst hsz
      simp only [Option.some.injEq] at h; subst h
      obtain ⟨y, y2, hy, hr, hr2⟩ := hv.two
      simp [Op.operands] at hy
      obtain ⟨e1, e2⟩ := hy
      have hr2 := hr2.int_inv
      subst hr2
      unfold VR at hr
      obtain ⟨b, s0, c, hb, rfl, hlc, hcm, h0, h4⟩ := hr
      have hoff : (offAt off q).ev Nums.σ = off.ev Nums.σ + q := offAt_ev h0 (by omega)
      refine ⟨.pointer (some ⟨b, (off.ev Nums.σ).toNat * s + q * s, none⟩), ?_, fun w => ?_⟩
      · unfold VR
        refine ⟨b, s0, hb, ?_⟩
        rw [hoff]
        congr 3
        rw [← Nat.add_mul, Nat.add_zero]
        congr 1
        omega
      · simp [Instr.indexAt, asIntOf, run_underlying hu w, e1, e2, hlt, sizeT_run hs w, Addr.add_mid]
    · rename_i n off len sz r k se
      split at h
      · obtain ⟨y, y2, hy, hr, hr2⟩ := hv.two
        simp [Op.operands] at hy
        obtain ⟨e1, e2⟩ := hy
        unfold VR at hr2
        subst hr2
        obtain ⟨p, hp, hrun⟩ := aindex_sound (k := k) h hr
        exact ⟨p, hp, fun w => by simp [e1, e2, hrun w]⟩
      · rename_i j hlit
        have hlit := litOf_ok hlit
        split at h <;> first | (cases h; done) | skip
        rename_i e hu
        split at h <;> first | (cases h; done) | skip
        rename_i q hq
        obtain ⟨rfl, hlt⟩ := inRange_spec hq
        split at h <;> first | (cases h; done) | skip
        rename_i s hs
        split at h <;> first | (cases h; done) | skip
        rename_i hsz
        have hsz := Nat.eq_of_beq_eq_true hsz
        subst hsz
        simp only [Option.some.injEq] at h; subst h
        obtain ⟨y, y2, hy, hr, hr2⟩ := hv.two
        simp [Op.operands] at hy
        obtain ⟨e1, e2⟩ := hy
        unfold VR at hr2
        rw [hlit] at hr2
        subst hr2
        unfold VR at hr
        obtain ⟨b, s0, c, hb, rfl, _⟩ := hr
        refine ⟨.pointer (some ⟨b, off + q * s, none⟩), by unfold VR; exact ⟨b, s0, hb, rfl⟩, fun w => ?_⟩
        have h0 : (0 : Int) ≤ q ∧ (q : Int) < len := by omega
        simp [Instr.indexAt, asIntOf, run_underlying hu w, e1, e2, hlt, sizeT_run hs w, Addr.add_mid]
    · rename_i n off k se
      split at h
      · obtain ⟨y, y2, hy, hr, hr2⟩ := hv.two
        simp [Op.operands] at hy
        obtain ⟨e1, e2⟩ := hy
        unfold VR at hr2
        subst hr2
        obtain ⟨p, hp, hrun⟩ := aindex_sound (k := k) h hr
        exact ⟨p, hp, fun w => by simp [e1, e2, hrun w]⟩
      · rename_i j hlit
        have hlit := litOf_ok hlit
        split at h <;> first | (cases h; done) | skip
        rename_i len e hu
        split at h <;> first | (cases h; done) | skip
        rename_i q hq
        obtain ⟨rfl, hlt⟩ := inRange_spec hq
        split at h <;> first | (cases h; done) | skip
        rename_i s hs
        simp only [Option.some.injEq] at h; subst h
        obtain ⟨y, y2, hy, hr, hr2⟩ := hv.two
        simp [Op.operands] at hy
        obtain ⟨e1, e2⟩ := hy
        unfold VR at hr2
        rw [hlit] at hr2
        subst hr2
        obtain ⟨b, s0, hb, rfl⟩ := hr.ptr_inv
        refine ⟨.pointer (some ⟨b, off + q * s, none⟩), by unfold VR; exact ⟨b, s0, hb, rfl⟩, fun w => ?_⟩
        simp [Instr.indexAt, asIntOf, run_underlying hu w, e1, e2, hlt, sizeT_run hs w, Addr.add_mid, Instr.sureAddr]
    · rename_i b off k se
      split at h <;> first | (cases h; done) | skip
      rename_i j hlit
      have hlit := litOf_ok hlit
      split at h <;> first | (cases h; done) | skip
      rename_i len e hu
      split at h <;> first | (cases h; done) | skip
      rename_i q hq
      obtain ⟨rfl, hlt⟩ := inRange_spec hq
      split at h <;> first | (cases h; done) | skip
      rename_i s hs
      simp only [Option.some.injEq] at h; subst h
      obtain ⟨y, y2, hy, hr, hr2⟩ := hv.two
      simp [Op.operands] at hy
      obtain ⟨e1, e2⟩ := hy
      unfold VR at hr2
      rw [hlit] at hr2
      subst hr2
      unfold VR at hr
      subst hr
      refine ⟨.pointer (some ⟨b, off + q * s, none⟩), by unfold VR; rfl, fun w => ?_⟩
      simp [Instr.indexAt, asIntOf, run_underlying hu w, e1, e2, hlt, sizeT_run hs w, Addr.add_mid, Instr.sureAddr]
    · rename_i ux uy _ _ _ _ _ _ _
      split at h <;> first | (cases h; done) | skip
      rename_i k ie hse
      obtain ⟨y, y2, hy, hr, hr2⟩ := hv.two
      simp [Op.operands] at hy
      obtain ⟨e1, e2⟩ := hy
      have hr2 := toSE_ok hse hr2
      subst hr2
      obtain ⟨p, hp, hrun⟩ := aindex_sound (k := k) h hr
      exact ⟨p, hp, fun w => by simp [e1, e2, hrun w]⟩
  | index t x i =>
    simp only [apure] at h
    split at h <;> first | (cases h; done) | skip
    rename_i cs k j
    split at h <;> first | (cases h; done) | skip
    rename_i len e hu
    unfold asCells at h
    split at h <;> first | (cases h; done) | skip
    rename_i q hq
    obtain ⟨rfl, hlt⟩ := inRange_spec hq
    split at h <;> first | (cases h; done) | skip
    rename_i s hs
    obtain ⟨y, y2, hy, hr, hr2⟩ := hv.two
    simp [Op.operands] at hy
    obtain ⟨e1, e2⟩ := hy
    have hr2 := hr2.int_inv
    subst hr2
    obtain ⟨ar, rfl, hc⟩ := hr.agg_inv
    obtain ⟨u, hu', hr'⟩ := part_sound h hc
    refine ⟨u, hu', fun w => ?_⟩
    have hr'' := hr' w
    have hm : Nat.mul q s = q * s := rfl
    rw [hm] at hr''
    simp [Instr.index, asIntOf, run_underlying hu w, e1, e2, hlt, sizeT_run hs w, hr'']
  | extract t i =>
    simp only [apure] at h
    split at h <;> first | (cases h; done) | skip
    obtain ⟨y, hy, hr⟩ := hv.one
    simp [Op.operands] at hy
    unfold VR at hr
    obtain ⟨ar, rfl, hc⟩ := hr
    obtain ⟨u, hu, hr'⟩ := hc.get h
    rw [Array.getElem?_toList] at hu
    exact ⟨u, hr', fun w => by simp [Instr.extract, hy, hu]⟩
  | makeInterface t x =>
    simp only [apure] at h
    split at h <;> first | (cases h; done) | skip
    split at h <;> first | (cases h; done) | skip
    rename_i v d hd hu
    simp only [Option.some.injEq] at h; subst h
    obtain ⟨y, hy, hr⟩ := hv.one
    simp [Op.operands] at hy
    refine ⟨.iface t y, by unfold VR; exact ⟨y, rfl, hr⟩, fun w => ?_⟩
    have : (Instr.makeInterface t y).run P w = .ok (.iface t y) w := by
      unfold Instr.makeInterface
      rw [Sem.run_bind, run_underlying hu w]
      simp only [Result.andThen_ok]
      first
        | rfl
        | (split
           · exact absurd rfl (hd _)
           · rfl)
    simp [hy, this]
  | call c =>
    simp only [apure] at h
    obtain ⟨callee, args, argTypes⟩ := c
    cases callee with
    | builtin b =>
      have hop : (Op.call ⟨.builtin b, args, argTypes⟩).operands = args := by simp [Op.operands, Call.operands]
      rw [hop] at hv
      cases b <;> first
        | (cases h; done)
        | skip
      · dsimp only at h
        split at h <;> first | (cases h; done) | skip
        obtain ⟨y, ys, hy, h1, h2⟩ := hv.uncons
        obtain ⟨u, hu, hr⟩ := afold_sound (P := P) true h h1 h2
        refine ⟨u, hu, fun w => ?_⟩
        have := hr w
        simp only [if_true] at this
        have this : (List.foldlM Builtin.max2 y ys : Sem Value).run P w = .ok u w := this
        simp only [resolve, invoke, builtin, Sem.run_bind, Sem.run_pure, Result.andThen_ok, Builtin.max_, Array.toList_map, hy]
        rw [this]
        rfl
      · dsimp only at h
        split at h <;> first | (cases h; done) | skip
        obtain ⟨y, ys, hy, h1, h2⟩ := hv.uncons
        obtain ⟨u, hu, hr⟩ := afold_sound (P := P) false h h1 h2
        refine ⟨u, hu, fun w => ?_⟩
        have := hr w
        simp only [Bool.false_eq_true, if_false] at this
        have this : (List.foldlM Builtin.min2 y ys : Sem Value).run P w = .ok u w := this
        simp only [resolve, invoke, builtin, Sem.run_bind, Sem.run_pure, Result.andThen_ok, Builtin.min_, Array.toList_map, hy]
        rw [this]
        rfl
    | _ => cases h
  | _ => simp [apure] at h
end
end Go.Proofs.YthjjpmoifgcepaaGreat.Ex

/-
  The runner: reads, and what makes a block. No condition.
-/
namespace Go.Proofs.YthjjpmoifgcepaaGreat.Ex
open Go
variable [Nums]
section
variable {P : Program} {ρ ρ' : Ren}
omit [Nums] in
theorem getN_len {cs : T AV} : ∀ {n i : Nat} {l : List AV}, getN cs i n = some l → l.length = n
  | 0, _, l, h => by simp only [getN, Option.some.injEq] at h; subst h; rfl
  | n + 1, i, l, h => by
    unfold getN at h
    split at h <;> first | (cases h; done) | skip
    split at h <;> first | (cases h; done) | skip
    rename_i m hm
    simp only [Option.some.injEq] at h; subst h
    simp [getN_len hm]
def CellsOk (ρ : Ren) (cs : T AV) (cur : Array Value) : Prop := ∀ i v, cs.get i = some v → v.one = true ∧ ∃ y, cur[i]? = some y ∧ VR ρ v y
theorem getN_sound {cs : T AV} {cur : Array Value} (hc : CellsOk ρ cs cur) : ∀ {n i : Nat} {l : List AV}, getN cs i n = some l → ∃ ys : List Value, ys.length = n ∧ VRs ρ l ys ∧ (∀ (j : Nat) y, ys[j]? = some y → cur[i + j]? = some y) ∧ ∀ y ∈ ys, y.oneCell' = true
  | 0, _, l, h => by simp only [getN, Option.some.injEq] at h; subst h; exact ⟨[], rfl, VRs.nil, by simp, by simp⟩
  | n + 1, i, l, h => by
    unfold getN at h
    split at h <;> first | (cases h; done) | skip
    rename_i v hv
    split at h <;> first | (cases h; done) | skip
    rename_i m hm
    simp only [Option.some.injEq] at h; subst h
    obtain ⟨h1, y, hy, hr⟩ := hc _ _ hv
    obtain ⟨ys, hl, hrs, hg, ho⟩ := getN_sound hc hm
    refine ⟨y :: ys, by simp [hl], VRs.cons hr hrs, fun j z hz => ?_, fun z hz => ?_⟩
    · cases j with
      | zero => simp at hz; subst hz; simpa using hy
      | succ j =>
        have := hg j z (by simpa using hz)
        rwa [show Nat.add i 1 + j = i + (j + 1) from by show i + 1 + j = _; omega] at this
    · rcases List.mem_cons.1 hz with rfl | hz
      · exact hr.oneCell h1
      · exact ho z hz
omit [Nums] in
theorem setN_get : ∀ {l : List AV} {cs : T AV} {i j : Nat} {v : AV}, (setN cs i l).get j = some v → (i ≤ j ∧ j < i + l.length ∧ l[j - i]? = some v) ∨ ((j < i ∨ i + l.length ≤ j) ∧ cs.get j = some v)
  | [], cs, i, j, v, h => .inr ⟨by simp; omega, h⟩
  | x :: l, cs, i, j, v, h => by
    unfold setN at h
    rcases setN_get h with ⟨h1, h2, h3⟩ | ⟨h1, h2⟩
    · have h1 : i + 1 ≤ j := h1
      have h2 : j < i + 1 + l.length := h2
      refine .inl ⟨by omega, by simp; omega, ?_⟩
      have h3 : l[j - (i + 1)]? = some v := h3
      rw [show j - i = (j - (i + 1)) + 1 from by omega, List.getElem?_cons_succ]
      exact h3
    · have h1 : j < i + 1 ∨ i + 1 + l.length ≤ j := h1
      rcases T.get_put h2 with ⟨h3, h4⟩ | ⟨h3, h4⟩
      · subst h3
        refine .inl ⟨Nat.le_refl _, by simp, ?_⟩
        rw [Nat.sub_self]
        simpa using h4
      · refine .inr ⟨?_, h4⟩
        simp only [List.length_cons]
        omega
omit [Nums] in
theorem T.get_e {α : Type} (j : Nat) : (T.e : T α).get j = none := T.getP_e _
theorem cellsOf_or {l : List AV} {ys : List Value} (h : VRs ρ l ys) (h1 : allOne l = true) (e : TypeId) : OR ρ (cellsOf e l) ys.length (some (.cells ys.toArray e (0, 0))) := by
  refine ⟨ys.toArray, rfl, by simp, by rw [h.len]; exact Nat.le_refl _, fun i v hv => ?_⟩
  rcases setN_get hv with ⟨_, _, h3⟩ | ⟨_, h3⟩
  · rw [Nat.sub_zero] at h3
    refine ⟨allOne_mem h1 v (List.mem_of_getElem? h3), ?_⟩
    obtain ⟨y, hy, hr⟩ := h.get h3
    exact ⟨y, by simpa using hy, hr⟩
  · rw [T.get_e] at h3; cases h3

theorem toSE_sound {y : AV} {k : IntKind} {e : SE} {u : Value} (h : toSE y = some (k, e)) (hv : VR ρ y u) : u = .int k (e.ev Nums.σ) := by
  unfold toSE at h
  split at h <;> first | (cases h; done) | skip
  · simp only [Option.some.injEq, Prod.mk.injEq] at h
    obtain ⟨rfl, rfl⟩ := h
    exact hv.int_inv
  · simp only [Option.some.injEq, Prod.mk.injEq] at h
    obtain ⟨rfl, rfl⟩ := h
    unfold VR at hv
    exact hv
theorem lookE_sound {d k : IntKind} {e : SE} : ∀ {es : List (AV × AV)} {xs : List MapEntry} {r : Option (Nat × AV)} (idx : Nat), lookE k e es = some r → MR ρ es xs →
    (r = none ∧ Instr.findNow (.int d) (.int k (e.ev Nums.σ)) xs idx = some none) ∨ ∃ j v x, r = some (j, v) ∧ Instr.findNow (.int d) (.int k (e.ev Nums.σ)) xs idx = some (some (idx + j, x.val)) ∧ xs[j]? = some x ∧ x.key = .int k (e.ev Nums.σ) ∧ VR ρ v x.val
  | [], xs, r, idx, h, hm => by
    unfold lookE at h
    simp only [Option.some.injEq] at h; subst h
    have : xs = [] := hm
    subst this
    exact .inl ⟨rfl, rfl⟩
  | (a, v) :: es, xs, r, idx, h, hm => by
    obtain ⟨x, xs', rfl, h1, h2, h3⟩ := hm
    unfold lookE at h
    split at h <;> first | (cases h; done) | skip
    rename_i k' e' hse
    have hk := toSE_sound hse h1
    split at h <;> first | (cases h; done) | skip
    rename_i hkk
    have hkk := of_decide_eq_true hkk
    subst hkk
    split at h <;> first | (cases h; done) | skip
    · rename_i hq
      have hq := askEq_ok hq
      simp only [Option.some.injEq] at h; subst h
      have he : e.ev Nums.σ = e'.ev Nums.σ := eq_of_beq hq
      refine .inr ⟨0, v, x, rfl, ?_, rfl, by rw [hk, he], h2⟩
      simp [Instr.findNow, Instr.sameNow, hk, he]
    · rename_i hq
      have hq := askEq_ok hq
      have step : ∀ r', Instr.findNow (.int d) (.int k (e.ev Nums.σ)) xs' (idx + 1) = r' → Instr.findNow (.int d) (.int k (e.ev Nums.σ)) (x :: xs') idx = r' := fun r' hr' => by
        simp only [Instr.findNow, Instr.sameNow, hk, if_true, hq]
        exact hr'
      split at h
      · rename_i n u hn
        simp only [Option.some.injEq] at h; subst h
        rcases lookE_sound (d := d) (idx + 1) hn h3 with ⟨h4, _⟩ | ⟨j, v', x', h4, h5, h6, h7, h8⟩
        · cases h4
        · cases h4
          exact .inr ⟨n + 1, u, x', rfl, by rw [step _ h5, show idx + 1 + n = idx + (n + 1) by omega], by simpa using h6, h7, h8⟩
      · rename_i hne
        rcases lookE_sound (d := d) (idx + 1) h h3 with ⟨h4, h5⟩ | ⟨j, v', x', h4, h5, h6, h7, h8⟩
        · exact .inl ⟨h4, step _ h5⟩
        · exact absurd (h.trans (congrArg some h4)) (hne _ _)
theorem lookAV_sound {d : IntKind} {es : List (AV × AV)} {xs : List MapEntry} {y : AV} {y2 : Value} {r : Option (Nat × AV)} (h : lookAV es y = some r) (hm : MR ρ es xs) (hy : VR ρ y y2) :
    ∃ k i, y2 = .int k i ∧ ((r = none ∧ Instr.findNow (.int d) (.int k i) xs 0 = some none) ∨ ∃ j v x, r = some (j, v) ∧ Instr.findNow (.int d) (.int k i) xs 0 = some (some (j, x.val)) ∧ xs[j]? = some x ∧ x.key = .int k i ∧ VR ρ v x.val) := by
  unfold lookAV at h
  split at h <;> first | (cases h; done) | skip
  rename_i k e hse
  refine ⟨k, _, toSE_sound hse hy, ?_⟩
  rcases lookE_sound (d := d) 0 h hm with h1 | ⟨j, v, x, h1, h2, h3⟩
  · exact .inl h1
  · exact .inr ⟨j, v, x, h1, by rw [h2, Nat.zero_add], h3⟩
omit [Nums] in
theorem checkKey_int (b : Bool) (n : Nat) {kt : TypeId} {d k : IntKind} {i : Int} (hu : P.underlying kt = some (.int d)) (w : World) : (Instr.checkKey b (n + 1) kt (.int k i)).run P w = .ok () w := by
  unfold Instr.checkKey
  rw [Sem.run_bind, run_underlying hu w]
  rfl
omit [Nums] in
theorem findKey_run {es : List MapEntry} {kt : TypeId} {d k : IntKind} {i : Int} {r : Option (Nat × Value)} (hu : P.underlying kt = some (.int d)) (h : Instr.findNow (.int d) (.int k i) es 0 = some r) (w : World) :
    (Instr.findKey kt (.int k i) es).run P w = .ok r w := by
  unfold Instr.findKey
  rw [Sem.run_bind, run_underlying hu w]
  simp only [Result.andThen_ok, h]
  rfl
omit [Nums] in
theorem getObj_map {r : Nat} {w : World} {xs : Array MapEntry} {c : Nat} (h : w.heap[r]? = some (.map xs c)) : (getObj r).run P w = .ok (.map xs c) w := by
  simp only [getObj, Sem.run, h]
theorem litV1_sound {y : AV} {v x : Value} (h : litV1 y = some v) (hx : VR ρ y x) : x = v := by
  unfold litV1 at h
  split at h <;> first | (cases h; done) | skip
  · cases h; unfold VR at hx; exact hx
  · cases h; unfold VR at hx; exact hx
theorem litVs_sound : ∀ {l : List AV} {vs xs : List Value}, litVs l = some vs → VRs ρ l xs → xs = vs
  | [], vs, xs, h, hx => by
    unfold litVs at h
    cases h
    have := VRs.len hx
    exact List.length_eq_zero_iff.1 this.symm
  | v :: l, vs, xs, h, hx => by
    unfold litVs at h
    split at h <;> first | (cases h; done) | skip
    rename_i x hv
    split at h <;> first | (cases h; done) | skip
    rename_i ys hvs
    cases h
    obtain ⟨y, zs, rfl, h1, h2⟩ := hx.uncons
    rw [litV1_sound hv h1, litVs_sound hvs h2]
theorem litV_sound {y : AV} {v x : Value} (h : litV y = some v) (hx : VR ρ y x) : x = v := by
  unfold litV at h
  split at h <;> first | (cases h; done) | skip
  split at h <;> first | (cases h; done) | skip
  rename_i vs hvs
  cases h
  unfold VR at hx
  obtain ⟨a, rfl, ha⟩ := hx
  have := litVs_sound hvs ha
  subst this
  rfl
theorem litEq_go : ∀ {a b : List AV} {ys zs : List Value}, litEq.go a b = true → VRs ρ a ys → VRs ρ b zs → ys = zs
  | [], [], ys, zs, _, h1, h2 => by
    have := VRs.len h1
    have e1 := List.length_eq_zero_iff.1 this.symm
    have := VRs.len h2
    have e2 := List.length_eq_zero_iff.1 this.symm
    rw [e1, e2]
  | x :: a, y :: b, ys, zs, h, h1, h2 => by
    unfold litEq.go at h
    split at h <;> first | (cases h; done) | skip
    · rename_i e1 e2
      cases e1
    · rename_i k n a' k' n' b' e1 e2
      cases e1
      cases e2
      rw [Bool.and_eq_true, Bool.and_eq_true] at h
      obtain ⟨hk, hn, hr⟩ := h
      obtain ⟨u, us, rfl, g1, g2⟩ := h1.uncons
      obtain ⟨v, vs, rfl, g3, g4⟩ := h2.uncons
      unfold VR at g1 g3
      rw [g1, g3, of_decide_eq_true hk, eq_of_beq hn, litEq_go hr g2 g4]
  | [], _ :: _, _, _, h, _, _ => by unfold litEq.go at h; cases h
  | x :: _, [], _, _, h, _, _ => by cases x <;> (unfold litEq.go at h; cases h)
theorem litEq_sound {x y : AV} {u v : Value} (h : litEq y x = true) (hy : VR ρ y v) (hx : VR ρ x u) : u = v := by
  unfold litEq at h
  split at h <;> first | (cases h; done) | skip
  unfold VR at hx hy
  obtain ⟨a, rfl, ha⟩ := hy
  obtain ⟨b, rfl, hb⟩ := hx
  have := litEq_go h ha hb
  rw [Array.ext' this]
omit [Nums] in
theorem findAsk_cons {kt : TypeId} {k : Value} {e : MapEntry} {es : List MapEntry} {i : Nat} {b : Bool} (w : World) (h : (Op.equal kt k e.key).run P w = .ok b w) :
    (Instr.findAsking kt k (e :: es) i).run P w = if b then .ok (some (i, e.val)) w else (Instr.findAsking kt k es (i + 1)).run P w := by
  rw [Instr.findAsking, Sem.run_bind, h, Result.andThen_ok]
  cases b <;> rfl
theorem lookA_sound {kt : TypeId} {y : AV} {y2 : Value} (hy : VR ρ y y2) : ∀ {es : List (AV × AV)} {xs : List MapEntry} {r : Option (Nat × AV)} (idx : Nat), lookA P litEq kt y es = some r → MR ρ es xs →
    (r = none ∧ ∀ w, (Instr.findAsking kt y2 xs idx).run P w = .ok none w) ∨ ∃ j v x, r = some (j, v) ∧ (∀ w, (Instr.findAsking kt y2 xs idx).run P w = .ok (some (idx + j, x.val)) w) ∧ xs[j]? = some x ∧ x.key = y2 ∧ VR ρ v x.val
  | [], xs, r, idx, h, hm => by
    unfold lookA at h
    simp only [Option.some.injEq] at h; subst h
    have : xs = [] := hm
    subst this
    exact .inl ⟨rfl, fun w => rfl⟩
  | (a, v) :: es, xs, r, idx, h, hm => by
    obtain ⟨x, xs', rfl, h1, h2, h3⟩ := hm
    unfold lookA at h
    split at h <;> first | (cases h; done) | skip
    · rename_i hq
      have hq := fun w => aeq_sound (P := P) (ρ := ρ) 40 9960 _ _ _ _ _ _ hq hy h1 w
      split at h <;> first | (cases h; done) | skip
      rename_i hl
      simp only [Option.some.injEq] at h; subst h
      exact .inr ⟨0, v, x, rfl, fun w => by rw [findAsk_cons w (hq w)]; rfl, rfl, litEq_sound hl hy h1, h2⟩
    · rename_i hq
      have hq := fun w => aeq_sound (P := P) (ρ := ρ) 40 9960 _ _ _ _ _ _ hq hy h1 w
      have step : ∀ w, (Instr.findAsking kt y2 (x :: xs') idx).run P w = (Instr.findAsking kt y2 xs' (idx + 1)).run P w := fun w => by rw [findAsk_cons w (hq w)]; rfl
      split at h
      · rename_i n u hn
        simp only [Option.some.injEq] at h; subst h
        rcases lookA_sound hy (idx + 1) hn h3 with ⟨h4, _⟩ | ⟨j, v', x', h4, h5, h6, h7, h8⟩
        · cases h4
        · cases h4
          exact .inr ⟨n + 1, u, x', rfl, fun w => by rw [step w, h5 w, show idx + 1 + n = idx + (n + 1) by omega], by simpa using h6, h7, h8⟩
      · rename_i hne
        rcases lookA_sound hy (idx + 1) h h3 with ⟨h4, h5⟩ | ⟨j, v', x', h4, h5, h6, h7, h8⟩
        · exact .inl ⟨h4, fun w => (step w).trans (h5 w)⟩
        · exact absurd (h.trans (congrArg some h4)) (hne _ _)
omit [Nums] in
theorem sameBits_int (n : Nat) (k : IntKind) (i : Int) : Instr.sameBits n (.int k i) (.int k i) = true := by
  cases n <;> simp [Instr.sameBits]
omit [Nums] in
theorem sameBits_all (n : Nat) : ∀ {l : List AV} {vs : List Value}, litVs l = some vs → (vs.zip vs).all (fun p => Instr.sameBits n p.1 p.2) = true
  | [], vs, h => by unfold litVs at h; cases h; rfl
  | v :: l, vs, h => by
    unfold litVs at h
    split at h <;> first | (cases h; done) | skip
    rename_i x hv
    split at h <;> first | (cases h; done) | skip
    rename_i ys hvs
    cases h
    have h1 : Instr.sameBits n x x = true := by
      unfold litV1 at hv
      split at hv <;> first | (cases hv; done) | skip
      · cases hv; cases n <;> simp [Instr.sameBits]
      · cases hv; exact sameBits_int _ _ _
    simp only [List.zip_cons_cons, List.all_cons, h1, Bool.true_and]
    exact sameBits_all n hvs
omit [Nums] in
theorem sameBits_lits (n : Nat) {y : AV} {v : Value} (h : litV y = some v) : Instr.sameBits (n + 1) v v = true := by
  unfold litV at h
  split at h <;> first | (cases h; done) | skip
  split at h <;> first | (cases h; done) | skip
  rename_i vs hvs
  cases h
  simp only [Instr.sameBits, beq_self_eq_true, Bool.true_and]
  exact sameBits_all n hvs
/-- what a look for a key comes to -/
theorem lookM_sound {kt : TypeId} {es : List (AV × AV)} {xs : List MapEntry} {y : AV} {y2 : Value} {r : Option (Nat × AV)} (h : lookM P kt es y = some r) (hm : MR ρ es xs) (hy : VR ρ y y2) :
    (∀ b w, (Instr.checkKey b 10000 kt y2).run P w = .ok () w) ∧ (∀ w, (Instr.keyThatStays y2 y2).run P w = .ok y2 w) ∧
    ((r = none ∧ ∀ w, (Instr.findKey kt y2 xs).run P w = .ok none w) ∨ ∃ j v x, r = some (j, v) ∧ (∀ w, (Instr.findKey kt y2 xs).run P w = .ok (some (j, x.val)) w) ∧ xs[j]? = some x ∧ x.key = y2 ∧ VR ρ v x.val) := by
  unfold lookM at h
  split at h <;> first | (cases h; done) | skip
  · rename_i d hku
    obtain ⟨k, i, rfl, hf⟩ := lookAV_sound (d := d) h hm hy
    refine ⟨fun b w => checkKey_int b 9999 hku w, fun w => ?_, ?_⟩
    · unfold Instr.keyThatStays
      rw [sameBits_int, if_pos rfl]
      rfl
    · rcases hf with ⟨h1, h2⟩ | ⟨j, v, x, h1, h2, h3, h4, h5⟩
      · exact .inl ⟨h1, fun w => findKey_run hku h2 w⟩
      · exact .inr ⟨j, v, x, h1, fun w => findKey_run hku h2 w, h3, h4, h5⟩
  · rename_i fs hku
    split at h <;> first | (cases h; done) | skip
    rename_i hk
    unfold keyA at hk
    split at hk <;> first | (cases hk; done) | skip
    rename_i v0 hv0
    have e0 := litV_sound hv0 hy
    subst e0
    rw [Bool.and_eq_true, Bool.and_eq_true] at hk
    obtain ⟨k1, k2, k3⟩ := hk
    obtain ⟨la, hla⟩ := Option.isSome_iff_exists.1 k3
    have hfk : ∀ r', (∀ w, (Instr.findAsking kt y2 xs 0).run P w = .ok r' w) → ∀ w, (Instr.findKey kt y2 xs).run P w = .ok r' w := fun r' hr' w => by
      unfold Instr.findKey
      rw [Sem.run_bind, run_underlying hku w, Result.andThen_ok]
      cases xs with
      | nil =>
        have := hr' w
        simpa [Instr.findNow, Instr.findAsking] using this
      | cons e es' =>
        have hn : Instr.findNow (.struct fs) y2 (e :: es') 0 = none := by simp [Instr.findNow, Instr.sameNow]
        rw [hn]
        exact hr' w
    refine ⟨fun b w => run_checkKey_deep b 9980 20 kt k1 w 20 y2 la k2 hla, fun w => ?_, ?_⟩
    · unfold Instr.keyThatStays
      rw [show Instr.sameBits 10000 y2 y2 = true from sameBits_lits 9999 hv0, if_pos rfl]
      rfl
    · rcases lookA_sound hy 0 h hm with ⟨h1, h2⟩ | ⟨j, v, x, h1, h2, h3, h4, h5⟩
      · exact .inl ⟨h1, hfk _ h2⟩
      · exact .inr ⟨j, v, x, h1, hfk _ (fun w => by rw [h2 w, Nat.zero_add]), h3, h4, h5⟩
theorem MR.len : ∀ {es : List (AV × AV)} {xs : List MapEntry}, MR ρ es xs → es.length = xs.length
  | [], xs, h => by have : xs = [] := h; subst this; rfl
  | _ :: es, xs, h => by
    obtain ⟨e, xs', rfl, _, _, h3⟩ := h
    simp [MR.len h3]
/-! records -/
omit [Nums] in
theorem CK.one (k : CK) (n : Int) : (k.val n).oneCell' = true := by cases k <;> rfl
theorem ofCK_rel (k : CK) (e : SE) : VR ρ (ofCK k e) (k.val (e.ev Nums.σ)) := by
  cases k with
  | int k => unfold ofCK VR CK.val; rfl
  | bool =>
    unfold ofCK VR CK.val Cnd.ev
    simp only [SE.ev]
    cases h : (e.ev Nums.σ == 0) <;> rfl
omit [Nums] in
theorem ofCK_one (k : CK) (e : SE) : (ofCK k e).one = true := by cases k <;> rfl
omit [Nums] in
theorem aggT_row {t : TypeId} (h : aggT P t = some true) : ∃ d, P.underlying t = some d ∧ d.isRow = true := by
  unfold aggT at h
  split at h
  · rename_i hu; exact ⟨_, hu, rfl⟩
  · rename_i hu; exact ⟨_, hu, rfl⟩
  · cases h
  · cases h
theorem atE_ev {e : SE} {j : Nat} (he : e.ev Nums.σ ≥ 0) : ∀ l : SE, (atE e j l).ev Nums.σ = l.evA Nums.σ (e.ev Nums.σ).toNat j
  | .lset l x k v => by
    have ih := atE_ev (j := j) he l
    unfold atE
    simp only [SE.evA]
    split
    · rename_i hjk
      have hjk : j ≠ k := Nat.ne_of_beq_eq_false hjk
      rw [ih, if_neg (by omega)]
    · rename_i hjk
      have hjk : j = k := Nat.eq_of_beq_eq_true hjk
      split
      · rename_i hq
        have hq := eq_of_beq (askEq_ok hq)
        rw [hq, if_pos ⟨rfl, hjk⟩]
      · rename_i hq
        have hq := ne_of_beq_false (askEq_ok hq)
        split
        · rename_i hx
          have hx := of_decide_eq_false (askLt_ok hx)
          simp only [SE.ev] at hx
          rw [ih, if_neg (by omega)]
        · simp only [SE.ev, SE.evA]
      · simp only [SE.ev, SE.evA]
  | .lvar _ | .lsnoc _ _ | .rcons _ _ | .rnil | .at _ _ _ | .len _ | .var _ | .lit _ | .bin _ _ _ | .ubin _ _ _ | .cv _ _ => by simp only [atE, SE.ev]
  | .rep _ => by simp only [atE, SE.ev, SE.evA]
theorem recGet_sound {l e : SE} {ks : List CK} {cur : Array Value} (he : e.ev Nums.σ ≥ 0) (hcur : ∀ j k, ks[j]? = some k → cur[(e.ev Nums.σ).toNat * ks.length + j]? = some (k.val (l.evA Nums.σ (e.ev Nums.σ).toNat j))) :
    ∀ {n j : Nat} {r : List AV}, recGet l e ks j n = some r → ∃ ys : List Value, ys.length = n ∧ VRs ρ r ys ∧ ∀ (i : Nat) y, ys[i]? = some y → cur[(e.ev Nums.σ).toNat * ks.length + j + i]? = some y
  | 0, j, r, h => by
    simp only [recGet, Option.some.injEq] at h
    subst h
    exact ⟨[], rfl, VRs.nil, by simp⟩
  | n + 1, j, r, h => by
    unfold recGet at h
    split at h <;> first | (cases h; done) | skip
    rename_i k hk
    split at h <;> first | (cases h; done) | skip
    rename_i r' hr
    simp only [Option.some.injEq] at h
    subst h
    obtain ⟨ys, h1, h2, h3⟩ := recGet_sound he hcur hr
    refine ⟨k.val (l.evA Nums.σ (e.ev Nums.σ).toNat j) :: ys, by simp [h1], VRs.cons ?_ h2, fun i y hy => ?_⟩
    · have := ofCK_rel (ρ := ρ) k (atE e j l)
      rwa [atE_ev he] at this
    · cases i with
      | zero =>
        simp only [List.getElem?_cons_zero, Option.some.injEq] at hy
        subst hy
        exact hcur j k hk
      | succ i =>
        have := h3 i y (by simpa using hy)
        rwa [show (e.ev Nums.σ).toNat * ks.length + Nat.add j 1 + i = (e.ev Nums.σ).toNat * ks.length + j + (i + 1) from by show _ + (j + 1) + i = _; omega] at this
theorem recLoad_sound {t : TypeId} {b : Bool} {s : Nat} {l e : SE} {ks : List CK} {j blk : Nat} {v : AV} {w : World} {z : Nat} {et : TypeId} (hb : aggT P t = some b) (hs : sizeT P t = some s) (h : recLoad b s l e ks j = some v)
    (hO : OR ρ (.recs l ks et) z w.heap[blk]?) {off : Nat} (hoff : off = (e.ev Nums.σ).toNat * ks.length + j) : ∃ x, VR ρ v x ∧ (loadVar t ⟨blk, off, none⟩).run P w = .ok x w := by
  subst hoff
  obtain ⟨cur, hcur, hsz, hle, hat⟩ := hO
  unfold recLoad at h
  split at h <;> first | (cases h; done) | skip
  rename_i hw
  obtain ⟨w1, w2⟩ := within_ok hw
  rw [lenE_ev] at w2
  have hr : (e.ev Nums.σ).toNat < l.evN Nums.σ := by omega
  split at h
  · split at h <;> first | (cases h; done) | skip
    rename_i r hg
    simp only [Option.some.injEq] at h
    subst h
    obtain ⟨ys, h1, h2, h3⟩ := recGet_sound (ρ := ρ) (cur := cur) w1 (fun j k hk => hat _ j k hr hk) hg
    have hrange : w.rangeAt blk ((e.ev Nums.σ).toNat * ks.length + j) ys := fun i y hy => by
      have := h3 i y hy
      simp [World.cell?, hcur, this]
    obtain ⟨d, hu, hd⟩ := aggT_row hb
    have := run_loadAt_mid (P := P) w blk ((e.ev Nums.σ).toNat * ks.length + j) t ys d hrange hu hd (by rw [sizeT_info hs, h1])
    refine ⟨.agg ys.toArray, by unfold VR; exact ⟨_, rfl, by simpa using h2⟩, ?_⟩
    simpa [Instr.loadAt, Instr.sureAddr] using this
  · split at h <;> first | (cases h; done) | skip
    rename_i k hk
    simp only [Option.some.injEq] at h
    subst h
    refine ⟨k.val (l.evA Nums.σ (e.ev Nums.σ).toNat j), ?_, ?_⟩
    · have := ofCK_rel (ρ := ρ) k (atE e j l)
      rwa [atE_ev w1] at this
    · have hc : w.cell? ⟨blk, (e.ev Nums.σ).toNat * ks.length + j, none⟩ = some (k.val (l.evA Nums.σ (e.ev Nums.σ).toNat j)) := by
        simp [World.cell?, hcur, hat _ j k hr hk]
      simp [loadVar, aggT_run hb w, hc]
omit [Nums] in
theorem recAt_eq {ks : List CK} (off : Nat) : off = (recAt ks off).1 * ks.length + (recAt ks off).2 := by
  unfold recAt
  show off = off / ks.length * ks.length + off % ks.length
  rw [Nat.mul_comm]
  exact (Nat.div_add_mod _ _).symm
omit [Nums] in
theorem getObj_iterH {r : Nat} {w : World} {m : Option Nat} {since last : Nat} {seen : Array Nat} (h : w.heap[r]? = some (.mapIter m since seen last)) : (getObj r).run P w = .ok (.mapIter m since seen last) w := by
  simp [getObj, Sem.run, h]
omit [Nums] in
theorem lastOf_back : ∀ {l : List Nat} {b : Nat}, lastOf l = some b → l.getLast? = some b
  | a :: l, b, h => by
    unfold lastOf at h
    split at h
    · rename_i c hc
      have := lastOf_back hc
      cases l with
      | nil => cases this
      | cons x l => rw [List.getLast?_cons_cons, this]; exact h
    · rename_i hc
      cases l with
      | nil => exact h
      | cons x l =>
        unfold lastOf at hc
        split at hc <;> cases hc
theorem atStamp_sound {b : Nat} {k v : AV} : ∀ {es : List (AV × AV)} {bs : List Nat} {xs : List MapEntry}, atStamp b es bs = some (k, v) → MR ρ es xs → xs.map (·.born) = bs → ∃ e, xs.find? (·.born == b) = some e ∧ VR ρ k e.key ∧ VR ρ v e.val
  | p :: es, c :: bs, xs, h, hm, hb => by
    obtain ⟨e, xs', rfl, h1, h2, h3⟩ := hm
    rw [List.map_cons, List.cons.injEq] at hb
    obtain ⟨rfl, hb⟩ := hb
    unfold atStamp at h
    split at h
    · rename_i hc
      have hc := Nat.eq_of_beq_eq_true hc
      simp only [Option.some.injEq] at h
      subst h
      refine ⟨e, ?_, h1, h2⟩
      rw [List.find?_cons, show (e.born == b) = true by simpa using hc]
    · rename_i hc
      have hc := Nat.ne_of_beq_eq_false hc
      obtain ⟨e', h4, h5⟩ := atStamp_sound h h3 hb
      refine ⟨e', ?_, h5⟩
      rw [List.find?_cons, show (e.born == b) = false by simpa using hc]
      exact h4
  | [], _, _, h, _, _ => by simp [atStamp] at h
  | _ :: _, [], _, h, _, _ => by simp [atStamp] at h
theorem read_sound {o : Oper} {a : Act} {vs : List AV} {v : AV} {h : AH} {nx : Nat} {w : World} (hr : HR ρ h.get nx w) (hread : aread P o.op vs h = some v) (hv : VRs ρ vs (o.op.operands.toList.map a.eval)) :
    ∃ x, VR ρ v x ∧ (execOp a.eval o).run P w = .ok (.value x) w := by
  unfold execOp
  generalize o.op = op at hread hv
  cases op with
  | load t p =>
    simp only [aread] at hread
    split at hread <;> first | (cases hread; done) | skip
    case h_2 =>
      rename_i n e z j
      split at hread <;> first | (cases hread; done) | skip
      rename_i l ks et hg
      split at hread <;> first | (cases hread; done) | skip
      rename_i hz
      have hz := Nat.eq_of_beq_eq_true hz
      subst hz
      split at hread <;> first | (cases hread; done) | skip
      rename_i bb hagg
      split at hread <;> first | (cases hread; done) | skip
      rename_i s hs
      obtain ⟨y, hy, hp⟩ := hv.one
      simp [Op.operands] at hy
      unfold VR at hp
      obtain ⟨b, z, hb, rfl⟩ := hp
      obtain ⟨b', s', hb', hO⟩ := hr.obj _ _ hg
      rw [hb] at hb'
      cases hb'
      obtain ⟨x, hx, hrun⟩ := recLoad_sound hagg hs hread hO rfl
      exact ⟨x, hx, by simp [hy, Instr.loadAt, Instr.sureAddr, hrun]⟩
    case h_3 =>
      rename_i i e
      split at hread <;> first | (cases hread; done) | skip
      rename_i hagg
      split at hread <;> first | (cases hread; done) | skip
      rename_i k hk
      simp only [Option.some.injEq] at hread; subst hread
      obtain ⟨y, hy, hp⟩ := hv.one
      simp [Op.operands] at hy
      unfold VR at hp
      obtain ⟨A, len, c, hro, rfl, hlt⟩ := hp
      have hc := ((hr.rl i k (some A) len c hk hro).2 A rfl (by omega)).2 _ hlt
      refine ⟨k.val (Nums.σ (lc i (e.ev Nums.σ).toNat 0)), ?_, ?_⟩
      · have := ofCK_rel (ρ := ρ) k (.at (.lvar i) e 0)
        simpa only [SE.ev, SE.evA] using this
      · simp [hy, Instr.loadAt, Instr.sureAddr, loadVar, aggT_run hagg w, hc]
    case h_4 =>
      rename_i b off
      split at hread <;> first | (cases hread; done) | skip
      rename_i l hl
      split at hread <;> first | (cases hread; done) | skip
      rename_i hagg
      split at hread <;> first | (cases hread; done) | skip
      rename_i c hc
      simp only [Option.some.injEq] at hread; subst hread
      obtain ⟨y, hy, hp⟩ := hv.one
      simp [Op.operands] at hy
      unfold VR at hp
      subst hp
      obtain ⟨e, q, hcur⟩ := hr.gl b l hl
      refine ⟨.int .i64 c, by unfold VR; rfl, ?_⟩
      have hc' : w.cell? ⟨b, off, none⟩ = some (.int .i64 c) := by simp [World.cell?, hcur, hc]
      simp [hy, Instr.loadAt, Instr.sureAddr, loadVar, aggT_run hagg w, hc']
    rename_i n off
    split at hread <;> first | (cases hread; done) | skip
    rotate_left
    · rename_i l ks et hg
      split at hread <;> first | (cases hread; done) | skip
      rename_i bb hagg
      split at hread <;> first | (cases hread; done) | skip
      rename_i s hs
      split at hread <;> first | (cases hread; done) | skip
      obtain ⟨y, hy, hp⟩ := hv.one
      simp [Op.operands] at hy
      obtain ⟨b, z, hb, rfl⟩ := hp.ptr_inv
      obtain ⟨b', s', hb', hO⟩ := hr.obj _ _ hg
      rw [hb] at hb'
      cases hb'
      obtain ⟨x, hx, hrun⟩ := recLoad_sound (off := off) hagg hs hread hO (by simp only [SE.ev]; exact recAt_eq off)
      exact ⟨x, hx, by simp [hy, Instr.loadAt, Instr.sureAddr, hrun]⟩
    rename_i cs k e hg
    obtain ⟨y, hy, hp⟩ := hv.one
    simp [Op.operands] at hy
    obtain ⟨b, s, hb, rfl⟩ := hp.ptr_inv
    obtain ⟨b', s', hb', hO⟩ := hr.obj _ _ hg
    rw [hb] at hb'
    cases hb'
    obtain ⟨cur, hcur, hs, hk, hcells⟩ := hO
    split at hread
    · rename_i hagg
      split at hread <;> first | (cases hread; done) | skip
      rename_i sz hsz
      split at hread <;> first | (cases hread; done) | skip
      rename_i l hl
      simp only [Option.some.injEq] at hread; subst hread
      obtain ⟨ys, hyl, hrs, hat, _⟩ := getN_sound hcells hl
      refine ⟨.agg ys.toArray, by unfold VR; exact ⟨_, rfl, by simpa using hrs⟩, ?_⟩
      have hrange : w.rangeAt b off ys := fun j z hz => by
        have := hat j z hz
        simp [World.cell?, hcur, this]
      obtain ⟨d, hu, hd⟩ : ∃ d, P.underlying t = some d ∧ d.isRow = true := by
        unfold aggT at hagg
        split at hagg
        · rename_i hu; exact ⟨_, hu, rfl⟩
        · rename_i hu; exact ⟨_, hu, rfl⟩
        · cases hagg
        · cases hagg
      have := run_loadAt_mid (P := P) w b off t ys d hrange hu hd (by rw [sizeT_info hsz, hyl])
      simp [hy, this]
    · rename_i hagg
      obtain ⟨h1, z, hz, hzr⟩ := hcells _ _ hread
      refine ⟨z, hzr, ?_⟩
      have hc : w.cell? ⟨b, off, none⟩ = some z := by simp [World.cell?, hcur, hz]
      simp [hy, Instr.loadAt, Instr.sureAddr, loadVar, aggT_run hagg w, hc]
    · cases hread
  | lookup t m ix ok =>
    simp only [aread] at hread
    split at hread <;> first | (cases hread; done) | skip
    rename_i kt e hu
    split at hread <;> first | (cases hread; done) | skip
    rename_i x y
    obtain ⟨y1, y2, hy, hr1, hr2⟩ := hv.two
    simp [Op.operands] at hy
    obtain ⟨e1, e2⟩ := hy
    split at hread <;> first | (cases hread; done) | skip
    rename_i es hes
    have hcase : ∃ xs : Array MapEntry, MR ρ es xs.toList ∧ ((y1 = .map none ∧ xs = #[]) ∨ ∃ b c, y1 = .map (some b) ∧ w.heap[b]? = some (.map xs c)) := by
      split at hes
      · simp only [Option.some.injEq] at hes; subst hes
        unfold VR at hr1
        subst hr1
        exact ⟨#[], rfl, .inl ⟨rfl, rfl⟩⟩
      · rename_i n
        split at hes <;> first | (cases hes; done) | skip
        rename_i es' bs' ck' hg
        simp only [Option.some.injEq] at hes; subst hes
        unfold VR at hr1
        obtain ⟨b, s, hb, rfl⟩ := hr1
        obtain ⟨b', s', hb', hO⟩ := hr.obj _ _ hg
        rw [hb] at hb'
        cases hb'
        obtain ⟨xs, hx, hm, -⟩ := hO
        exact ⟨xs, hm, .inr ⟨b, _, rfl, hx⟩⟩
      · cases hes
    obtain ⟨xs, hm, hcase⟩ := hcase
    obtain ⟨r0, hl0⟩ : ∃ r0, lookM P kt es y = some r0 := by
      cases hl : lookM P kt es y with
      | none => rw [hl] at hread; cases hread
      | some r => exact ⟨r, rfl⟩
    obtain ⟨hck0, -, hfound⟩ := lookM_sound hl0 hm hr2
    have run_all : ∀ {r : Option (Nat × Value)}, (∀ w, (Instr.findKey kt y2 xs.toList).run P w = .ok r w) →
        (Instr.lookup t y1 y2 ok).run P w = (match r with | some (_, v) => (Result.ok (v, true) w) | none => ((zeroValue e).run P w).andThen fun z w' => .ok (z, false) w').andThen fun p w' => .ok (if ok then .tuple #[p.1, .bool p.2] else p.1) w' := by
      intro r hf
      have hck := hck0 xs.isEmpty w
      have hfk := hf w
      unfold Instr.lookup
      rcases hcase with ⟨rfl, rfl⟩ | ⟨b, c, rfl, hx⟩
      · simp only [Sem.run_bind, run_underlying hu w, Result.andThen_ok, Sem.run_pure, hck, hfk]
        cases r with
        | none => cases hz : (zeroValue e).run P w <;> simp [hz]
        | some p => simp
      · simp only [Sem.run_bind, run_underlying hu w, Result.andThen_ok, Sem.run_pure, getObj_map hx, hck, hfk]
        cases r with
        | none => cases hz : (zeroValue e).run P w <;> simp [hz]
        | some p => simp
    split at hread <;> first | (cases hread; done) | skip
    · rename_i j0 v0 hl
      rw [hl0] at hl
      cases hl
      rcases hfound with ⟨h1, _⟩ | ⟨j, v', xe, h1, h2, -, -, h3⟩
      · cases h1
      · cases h1
        obtain ⟨x', hx'⟩ : ∃ x', xe.val = x' := ⟨_, rfl⟩
        simp only [hx'] at h2 h3
        have := run_all h2
        split at hread <;> (simp only [Option.some.injEq] at hread; subst hread)
        · refine ⟨.tuple #[x', .bool true], by unfold VR; exact ⟨_, rfl, VRs.cons h3 (VRs.cons (by unfold VR; rfl) VRs.nil)⟩, ?_⟩
          simp [e1, e2, this]
        · refine ⟨x', h3, ?_⟩
          simp [e1, e2, this]
    · rename_i hl
      rw [hl0] at hl
      cases hl
      rcases hfound with ⟨_, h2⟩ | ⟨j, v', x', h1, _⟩
      · split at hread <;> first | (cases hread; done) | skip
        rename_i z hz
        obtain ⟨_, zv, _, _, hof, hzr⟩ := zeroT_run hz
        have hzv := ofV_sound ρ hof
        have := run_all h2
        simp only [hzr w, Result.andThen_ok] at this
        split at hread <;> (simp only [Option.some.injEq] at hread; subst hread)
        · refine ⟨.tuple #[zv, .bool false], by unfold VR; exact ⟨_, rfl, VRs.cons hzv (VRs.cons (by unfold VR; rfl) VRs.nil)⟩, ?_⟩
          simp [e1, e2, this]
        · refine ⟨zv, hzv, ?_⟩
          simp [e1, e2, this]
      · cases h1
  | call c =>
    simp only [aread] at hread
    obtain ⟨callee, args, argTypes⟩ := c
    cases callee with
    | builtin b =>
      have hop : (Op.call ⟨.builtin b, args, argTypes⟩).operands = args := by simp [Op.operands, Call.operands]
      rw [hop] at hv
      cases b <;> first
        | (cases hread; done)
        | skip
      dsimp only at hread
      split at hread <;> first | (cases hread; done) | skip
      rename_i x t hat
      obtain ⟨y, hy, hx⟩ := hv.one
      have hy' : (args.map a.eval)[0]? = some y := by
        rw [← Array.getElem?_toList, Array.toList_map, hy]; rfl
      have fin : ∀ {n : Int}, (Builtin.len_ argTypes o.type (args.map a.eval)).run P w = .ok (.int .i64 n) w → ∃ x, VR ρ (.int .i64 n) x ∧
          ((do let d ← resolve a.eval { callee := .builtin .len, args := args, argTypes := argTypes } o.type; invoke d.target d.args : Sem Next)).run P w = .ok (.value x) w := by
        intro n hn
        refine ⟨_, by unfold VR; rfl, ?_⟩
        simp [resolve, invoke, builtin, hn]
      have fin' : ∀ {e : SE}, (Builtin.len_ argTypes o.type (args.map a.eval)).run P w = .ok (.int .i64 (e.ev Nums.σ)) w → ∃ x, VR ρ (.sym .i64 e) x ∧
          ((do let d ← resolve a.eval { callee := .builtin .len, args := args, argTypes := argTypes } o.type; invoke d.target d.args : Sem Next)).run P w = .ok (.value x) w := by
        intro e hn
        refine ⟨_, by unfold VR; rfl, ?_⟩
        simp [resolve, invoke, builtin, hn]
      split at hread <;> first | (cases hread; done) | skip
      · rename_i e hu
        split at hread <;> first | (cases hread; done) | skip
        all_goals (simp only [Option.some.injEq] at hread; subst hread; unfold VR at hx)
        · subst hx
          exact fin (by simp [Builtin.len_, hat, hy', run_underlying hu w, goInt])
        · obtain ⟨_, _, rfl⟩ := hx
          exact fin (by simp [Builtin.len_, hat, hy', run_underlying hu w, goInt])
        · obtain ⟨_, _, rfl, _⟩ := hx
          exact fin (by simp [Builtin.len_, hat, hy', run_underlying hu w, goInt])
        · obtain ⟨_, l, _, rfl, _, _, hl⟩ := hx
          refine fin' ?_
          rw [hl]
          simp [Builtin.len_, hat, hy', run_underlying hu w, goInt]
        · obtain ⟨_, _, _, _, rfl, _⟩ := hx
          exact fin (by simp [Builtin.len_, hat, hy', run_underlying hu w, goInt])
        · obtain ⟨_, _, l, _, _, rfl, _, _, _, hl⟩ := hx
          refine fin' ?_
          rw [hl]
          simp [Builtin.len_, hat, hy', run_underlying hu w, goInt]
        · obtain ⟨_, _, _, _, rfl, _⟩ := hx
          exact fin (by simp [Builtin.len_, hat, hy', run_underlying hu w, goInt])
        · obtain ⟨_, l, _, _, rfl, _, _, hl, _⟩ := hx
          refine fin' ?_
          simp only [SE.ev, SE.evN, hl]
          simp [Builtin.len_, hat, hy', run_underlying hu w, goInt]
      · rename_i n e hu
        simp only [Option.some.injEq] at hread; subst hread
        exact fin (by simp [Builtin.len_, hat, hy', run_underlying hu w, goInt])
      · rename_i kt e hu
        split at hread <;> first | (cases hread; done) | skip
        · simp only [Option.some.injEq] at hread; subst hread
          unfold VR at hx
          subst hx
          exact fin (by simp [Builtin.len_, hat, hy', run_underlying hu w, goInt])
        · split at hread <;> first | (cases hread; done) | skip
          rename_i es bs ck hg
          simp only [Option.some.injEq] at hread; subst hread
          unfold VR at hx
          obtain ⟨b, s, hb, rfl⟩ := hx
          obtain ⟨b', s', hb', hO⟩ := hr.obj _ _ hg
          rw [hb] at hb'
          cases hb'
          obtain ⟨xs, hx, hm, -⟩ := hO
          have hln : es.length = xs.size := by simpa using hm.len
          exact fin (by simp [Builtin.len_, hat, hy', run_underlying hu w, goInt, getObj_map hx, hln])
    | _ => cases hread
  | entry it =>
    simp only [aread] at hread
    split at hread <;> first | (cases hread; done) | skip
    rename_i n
    split at hread <;> first | (cases hread; done) | skip
    rename_i m since seen last hg
    split at hread <;> first | (cases hread; done) | skip
    rename_i es bs ck hgm
    split at hread <;> first | (cases hread; done) | skip
    rename_i hck
    have hck := Nat.eq_of_beq_eq_true hck
    subst hck
    split at hread <;> first | (cases hread; done) | skip
    rename_i sb hsb
    split at hread <;> first | (cases hread; done) | skip
    rename_i k v' hat
    simp only [Option.some.injEq] at hread; subst hread
    obtain ⟨y, hy, hp⟩ := hv.one
    simp [Op.operands] at hy
    unfold VR at hp
    obtain ⟨b, s, hb, rfl⟩ := hp
    obtain ⟨b', s', hb', hO⟩ := hr.obj _ _ hg
    rw [hb] at hb'
    cases hb'
    obtain ⟨bm, sm, hbm, hx⟩ := hO
    obtain ⟨b', s', hb', hOm⟩ := hr.obj _ _ hgm
    rw [hbm] at hb'
    cases hb'
    obtain ⟨xs, hxm, hm, hbs⟩ := hOm
    obtain ⟨e, he, h1, h2⟩ := atStamp_sound hat hm hbs
    have hback : (seen.toArray).back? = some sb := by
      rw [List.back?_toArray]
      exact lastOf_back hsb
    have hfind : xs.find? (·.born == sb) = some e := by rw [← Array.find?_toList]; exact he
    refine ⟨.tuple #[e.key, e.val], by unfold VR; exact ⟨_, rfl, VRs.cons h1 (VRs.cons h2 VRs.nil)⟩, ?_⟩
    have : (Instr.entry (.pointer (some ⟨b, 0, none⟩))).run P w = .ok (.tuple #[e.key, e.val]) w := by
      unfold Instr.entry
      simp only [Sem.run_bind, getObj_iterH hx, Result.andThen_ok, hback, getObj_map hxm, bne_self_eq_false, Bool.false_eq_true, if_false, hfind, Sem.run_pure]
    simp [hy, this]
  | _ => simp [aread] at hread
end
end Go.Proofs.YthjjpmoifgcepaaGreat.Ex
