/-
  Texts of this claim, joined. No condition.
-/
import Derived.Test.YtfgomgodfcdijaaGreatDoorKn3
/-
  The runner: an operation that looks at no memory gives what the model gives (the rest). No condition.
-/
namespace Go.Proofs.YtfgomgodfcdijaaGreatDoor.Ex
open Go
variable [Nums]
section
variable {P : Program} {ρ : Ren}
theorem VR.notStr {x : AV} {u : Value} (h : VR ρ x u) (hx : ∀ s, x ≠ .str s) : ∀ s, u ≠ .string s := by
  rintro s rfl
  cases x <;> simp [VR] at h
  exact hx _ rfl
theorem VR.ofInt {x : AV} {k : IntKind} {n : Int} (h : VR ρ x (.int k n)) : x = .int k n ∨ ∃ e, x = .sym k e := by
  cases x <;> simp [VR] at h
  · obtain ⟨rfl, rfl⟩ := h
    exact .inl rfl
  · obtain ⟨rfl, _⟩ := h
    exact .inr ⟨_, rfl⟩
theorem VR.noFloat {x : AV} {k : FloatKind} {n : Nat} (h : VR ρ x (.float k n)) : False := by
  cases x <;> simp [VR] at h
theorem VR.noComplex {x : AV} {k : FloatKind} {n m : Nat} (h : VR ρ x (.complex k n m)) : False := by
  cases x <;> simp [VR] at h
omit [Nums] in
theorem binOp_eql {t : TypeId} {u v : Value} (h1 : ∀ k a, u ≠ .int k a) (h1' : ∀ k a, u ≠ .float k a) (h1'' : ∀ k a b, u ≠ .complex k a b) (h2 : ∀ s, u ≠ .string s) :
    binOp .eql t u v = (do pure (.bool (← Op.equal t u v))) := by
  cases u <;> cases v <;> first | rfl | (exact absurd rfl (h1 _ _)) | (exact absurd rfl (h1' _ _)) | (exact absurd rfl (h1'' _ _ _)) | (exact absurd rfl (h2 _))
omit [Nums] in
theorem binOp_neq {t : TypeId} {u v : Value} (h1 : ∀ k a, u ≠ .int k a) (h1' : ∀ k a, u ≠ .float k a) (h1'' : ∀ k a b, u ≠ .complex k a b) (h2 : ∀ s, u ≠ .string s) :
    binOp .neq t u v = (do pure (.bool (!(← Op.equal t u v)))) := by
  cases u <;> cases v <;> first | rfl | (exact absurd rfl (h1 _ _)) | (exact absurd rfl (h1' _ _)) | (exact absurd rfl (h1'' _ _ _)) | (exact absurd rfl (h2 _))
omit [Nums] in
theorem binOp_eql' {t : TypeId} {u v : Value} (h1 : ∀ k a, v ≠ .int k a) (h1' : ∀ k a, v ≠ .float k a) (h1'' : ∀ k a b, v ≠ .complex k a b) (h2 : ∀ s, v ≠ .string s) :
    binOp .eql t u v = (do pure (.bool (← Op.equal t u v))) := by
  cases u <;> cases v <;> first | rfl | (exact absurd rfl (h1 _ _)) | (exact absurd rfl (h1' _ _)) | (exact absurd rfl (h1'' _ _ _)) | (exact absurd rfl (h2 _))
omit [Nums] in
theorem binOp_neq' {t : TypeId} {u v : Value} (h1 : ∀ k a, v ≠ .int k a) (h1' : ∀ k a, v ≠ .float k a) (h1'' : ∀ k a b, v ≠ .complex k a b) (h2 : ∀ s, v ≠ .string s) :
    binOp .neq t u v = (do pure (.bool (!(← Op.equal t u v)))) := by
  cases u <;> cases v <;> first | rfl | (exact absurd rfl (h1 _ _)) | (exact absurd rfl (h1' _ _)) | (exact absurd rfl (h1'' _ _ _)) | (exact absurd rfl (h2 _))
theorem abinop_sound {op : BinOp} {t : TypeId} {x y v : AV} {u1 u2 : Value} (h : abinop P op t x y = some v) (hx : VR ρ x u1) (hy : VR ρ y u2) (ox oy : Operand) :
    ∃ u, VR ρ v u ∧ ∀ w, (do eqGuard op t ox oy u1 u2; binOp op t u1 u2).run P w = .ok u w := by
  have gint : ∀ (k k' : IntKind) (a b : Int) w, (eqGuard op t ox oy (.int k a) (.int k' b)).run P w = .ok () w := by
    intro k k' a b w
    unfold eqGuard
    cases op <;> rfl
  unfold abinop at h
  split at h
  · rename_i k a k' b
    unfold VR at hx hy; subst hx; subst hy
    split at h
    · obtain ⟨u, hu, hr⟩ := ashift_run (P := P) (ρ := ρ) (k' := k') h t
      exact ⟨u, hu, fun w => by simp [gint, hr w]⟩
    · obtain ⟨u, hu, hr⟩ := ashift_run (P := P) (ρ := ρ) (k' := k') h t
      exact ⟨u, hu, fun w => by simp [gint, hr w]⟩
    · rename_i h1 h2
      split at h
      · rename_i hk
        have hk := of_decide_eq_true hk
        subst hk
        obtain ⟨u, hu, hr⟩ := abin_run (P := P) (ρ := ρ) h (fun e => h1 e) (fun e => h2 e) t
        exact ⟨u, hu, fun w => by simp [gint, hr w]⟩
      · cases h
  · obtain ⟨u, hu, ⟨k, a, b, rfl, rfl⟩, hr⟩ := symOp_run (P := P) h hx hy t
    exact ⟨u, hu, fun w => by simp [gint, hr w]⟩
  · obtain ⟨u, hu, ⟨k, a, b, rfl, rfl⟩, hr⟩ := symOp_run (P := P) h hx hy t
    exact ⟨u, hu, fun w => by simp [gint, hr w]⟩
  · cases h
  · cases h
  · rename_i hs1 h2 hs2 h3 h1
    have hns1 := hx.notStr (fun s e => by subst e; exact h2 _ rfl)
    split at h
    · cases h
    · rename_i hg
      have hg' := fun w => guard_run (op := op) (ρ := ρ) hg hx hy ox oy w
      have hni : (∀ k a, u1 ≠ .int k a) ∨ (∀ k a, u2 ≠ .int k a) := by
        by_cases hi : ∃ k a, u1 = .int k a
        · obtain ⟨k, a, rfl⟩ := hi
          right
          rintro k' b rfl
          rcases hx.ofInt with e1 | ⟨q, e1⟩
          · rcases hy.ofInt with e2 | ⟨q, e2⟩
            · subst e1; subst e2
              exact h1 _ _ _ _ rfl rfl
            · exact hs2 _ _ e2
          · exact hs1 _ _ e1
        · left
          rintro k a rfl
          exact hi ⟨k, a, rfl⟩
      have hns2 := hy.notStr (fun s e => by subst e; exact h3 _ rfl)
      have e1 : binOp .eql t u1 u2 = (do pure (.bool (← Op.equal t u1 u2))) := by
        rcases hni with hi | hi
        · exact binOp_eql hi (fun k a e => by subst e; exact hx.noFloat) (fun k a b e => by subst e; exact hx.noComplex) hns1
        · exact binOp_eql' hi (fun k a e => by subst e; exact hy.noFloat) (fun k a b e => by subst e; exact hy.noComplex) hns2
      have e2 : binOp .neq t u1 u2 = (do pure (.bool (!(← Op.equal t u1 u2)))) := by
        rcases hni with hi | hi
        · exact binOp_neq hi (fun k a e => by subst e; exact hx.noFloat) (fun k a b e => by subst e; exact hx.noComplex) hns1
        · exact binOp_neq' hi (fun k a e => by subst e; exact hy.noFloat) (fun k a b e => by subst e; exact hy.noComplex) hns2
      split at h
      · split at h
        · rename_i b hb
          simp only [Option.some.injEq] at h; subst h
          have := aeq_sound (P := P) (ρ := ρ) 40 9960 _ _ _ _ _ _ hb hx hy
          refine ⟨.bool b, by unfold VR; rfl, fun w => ?_⟩
          rw [Sem.run_bind, hg' w, Result.andThen_ok, e1]
          simp only [Op.equal, Op.maxDepth, Sem.run_bind, this w, Result.andThen_ok, Sem.run_pure]
        · cases h
      · split at h
        · rename_i b hb
          simp only [Option.some.injEq] at h; subst h
          have := aeq_sound (P := P) (ρ := ρ) 40 9960 _ _ _ _ _ _ hb hx hy
          refine ⟨.bool (!b), by unfold VR; rfl, fun w => ?_⟩
          rw [Sem.run_bind, hg' w, Result.andThen_ok, e2]
          simp only [Op.equal, Op.maxDepth, Sem.run_bind, this w, Result.andThen_ok, Sem.run_pure]
        · cases h
      · cases h

omit [Nums] in
theorem inRange_spec {i : Int} {len k : Nat} (h : inRange i len = some k) : i = k ∧ k < len := by
  unfold inRange at h
  split at h
  · split at h
    · rename_i hlt
      cases h
      exact ⟨rfl, by simpa using hlt⟩
    · cases h
  · cases h
omit [Nums] in
theorem set_fold (off : Nat) : ∀ (vs : List Value) (j : Nat) (cs : Array Value), off + j + vs.length ≤ cs.size →
    ((vs.toArray.zipIdx j).foldl (fun cs (c, i) => cs.setIfInBounds (off + i) c) cs).toList = cs.toList.take (off + j) ++ (vs ++ cs.toList.drop (off + j + vs.length)) := by
  intro vs
  induction vs with
  | nil => intro j cs h; rw [← Array.foldl_toList]; simp
  | cons v vs ih =>
    intro j cs h
    have e : ((v :: vs).toArray.zipIdx j).toList = (v, j) :: (vs.toArray.zipIdx (j + 1)).toList := by simp
    rw [← Array.foldl_toList, e, List.foldl_cons, Array.foldl_toList]
    simp only [List.length_cons] at h
    rw [ih (j + 1) _ (by rw [Array.size_setIfInBounds]; omega), Array.toList_setIfInBounds]
    have hlt : off + j < cs.toList.length := by rw [Array.length_toList]; omega
    rw [show off + (j + 1) = off + j + 1 from by omega, List.take_set, List.drop_set, if_pos (by omega)]
    have : (List.take (off + j + 1) cs.toList).set (off + j) v = List.take (off + j) cs.toList ++ [v] := by
      rw [List.take_succ_eq_append_getElem hlt, List.set_append_right _ _ (by rw [List.length_take]; omega)]
      rw [List.length_take, Nat.min_eq_left (by omega)]
      simp
    rw [this]
    simp [Nat.add_assoc, Nat.add_comm 1]
theorem fill_sound {pl : Nat → Option (Nat × Nat)} : ∀ {ps : List (Nat × AV)} {qs : List (Nat × Value)} {cells out : List AV} {a : Array Value}, afill pl cells ps = some out → VRs ρ cells a.toList →
    ps.map (·.1) = qs.map (·.1) → VRs ρ (ps.map (·.2)) (qs.map (·.2)) → ∃ b : Array Value, Instr.fill pl a qs = some b ∧ VRs ρ out b.toList
  | [], qs, cells, out, a, h, hc, h1, _ => by
    have : qs = [] := by simpa using h1.symm
    subst this
    simp only [afill, Option.some.injEq] at h
    subst h
    exact ⟨a, rfl, hc⟩
  | (i, v) :: ps, qs, cells, out, a, h, hc, h1, h2 => by
    obtain ⟨q, qs', rfl⟩ : ∃ q qs', qs = q :: qs' := by
      cases qs with
      | nil => simp at h1
      | cons q qs' => exact ⟨q, qs', rfl⟩
    obtain ⟨j, x⟩ := q
    simp only [List.map_cons, List.cons.injEq] at h1
    obtain ⟨rfl, h1⟩ := h1
    obtain ⟨x', xs', he, hx, hxs⟩ := VRs.uncons (by simpa using h2)
    simp only [List.cons.injEq] at he
    obtain ⟨rfl, rfl⟩ := he
    unfold afill at h
    split at h
    · cases h
    · rename_i off size hpl
      split at h
      · cases h
      · rename_i hlen
        have hlen := Nat.eq_of_beq_eq_true hlen
        split at h
        · cases h
        · rename_i hfit
          have hfit : off + size ≤ cells.length := by simpa using hfit
          have hxc := hx.cells
          have hl1 := hxc.len
          have hl2 := hc.len
          simp only [Array.length_toList] at hl1 hl2
          have hsz : x.cells.size = size := by omega
          have hfold := set_fold off x.cells.toList 0 a (by rw [Array.length_toList]; omega)
          simp only [Array.toArray_toList, Nat.add_zero, Array.length_toList, hsz] at hfold
          have hv : VRs ρ (cells.take off ++ (v.cells ++ cells.drop (off + size))) ((x.cells.zipIdx).foldl (fun cs (c, i) => cs.setIfInBounds (off + i) c) a).toList := by
            rw [hfold]
            exact (hc.take off).append (hxc.append (hc.drop (off + size)))
          obtain ⟨b, hb, hr⟩ := fill_sound h hv h1 hxs
          refine ⟨b, ?_, hr⟩
          unfold Instr.fill
          rw [hpl]
          simp only
          rw [if_neg (by simp only [Bool.or_eq_true, decide_eq_true_eq, ne_eq]; omega)]
          exact hb
theorem zipParts_sound : ∀ {parts : List (Nat × Operand)} {vs : List AV} {ps : List (Nat × AV)} {l : List Value}, zipParts parts vs = some ps → VRs ρ vs l →
    ∀ (f : Operand → Value), l = parts.map (fun p => f p.2) → ps.map (·.1) = (parts.map fun p => (p.1, f p.2)).map (·.1) ∧ VRs ρ (ps.map (·.2)) ((parts.map fun p => (p.1, f p.2)).map (·.2))
  | [], [], ps, l, h, hv, f, hl => by
    simp only [zipParts, Option.some.injEq] at h
    subst h
    simp [VRs]
  | [], _ :: _, ps, l, h, hv, f, hl => by simp [zipParts] at h
  | _ :: _, [], ps, l, h, hv, f, hl => by simp [zipParts] at h
  | (i, o) :: parts, v :: vs, ps, l, h, hv, f, hl => by
    unfold zipParts at h
    split at h
    · rename_i r hr
      simp only [Option.some.injEq] at h
      subst h
      obtain ⟨y, ys, rfl, h1, h2⟩ := hv.uncons
      simp only [List.map_cons, List.cons.injEq] at hl
      obtain ⟨rfl, rfl⟩ := hl
      obtain ⟨k1, k2⟩ := zipParts_sound hr h2 f rfl
      refine ⟨by simpa using k1, ?_⟩
      simp only [List.map_cons]
      exact VRs.cons h1 (by simpa using k2)
    · cases h
omit [Nums] in
theorem placesT_sound : ∀ {fs : List Field} {pl : List (Nat × Nat)}, placesT P fs = some pl → fs.mapM (fun f => (P.info? f.type).map fun i => (f.offset, i.size)) = some pl
  | [], pl, h => by simp only [placesT, Option.some.injEq] at h; subst h; rfl
  | f :: fs, pl, h => by
    unfold placesT at h
    split at h
    · rename_i s hs
      split at h
      · rename_i r hr
        simp only [Option.some.injEq] at h
        subst h
        have := placesT_sound hr
        unfold sizeT at hs
        split at hs
        · rename_i i hi
          cases hs
          simp [List.mapM_cons, hi, this]
        · cases hs
      · cases h
    · cases h
theorem VR.agg_inv {l : List AV} {u : Value} (h : VR ρ (.agg l) u) : ∃ a : Array Value, u = .agg a ∧ VRs ρ l a.toList := by unfold VR at h; exact h
theorem build_sound {t : TypeId} {parts : Array (Nat × Operand)} {vs : List AV} {v : AV} {l : List Value} {f : Operand → Value} {_x : Operand} (h : apure P (.build t parts) vs = some v) (hv : VRs ρ vs l)
    (hl : l = parts.toList.map (fun p => f p.2)) : ∃ u, VR ρ v u ∧ ∀ w, (Instr.build t (parts.map fun (i, x) => (i, f x))).run P w = .ok u w := by
  simp only [apure] at h
  split at h
  · cases h
  · rename_i ps hps
    obtain ⟨k1, k2⟩ := zipParts_sound hps hv f hl
    split at h
    · cases h
    · rename_i z hz
      obtain ⟨i, zv, hi, hiz, hof, _⟩ := zeroT_run hz
      have hzr := (ofV_sound ρ hof).cells
      have hparts : (parts.map fun (i, x) => (i, f x)).toList = parts.toList.map fun p => (p.1, f p.2) := by simp
      split at h
      · rename_i fs hu
        split at h
        · cases h
        · rename_i pl hpl
          split at h
          · rename_i out hout
            simp only [Option.some.injEq] at h
            subst h
            obtain ⟨b, hb, hr⟩ := fill_sound hout hzr k1 k2
            refine ⟨.agg b, by unfold VR; exact ⟨b, rfl, hr⟩, fun w => run_build w t _ b ?_⟩
            unfold Program.built
            rw [hi, hu, hparts]
            simp only [hiz, placesT_sound hpl]
            rw [← hb]
            congr 1
            funext k
            simp
          · cases h
      · rename_i n e hu
        split at h
        · cases h
        · rename_i s hs
          split at h
          · rename_i out hout
            simp only [Option.some.injEq] at h
            subst h
            obtain ⟨b, hb, hr⟩ := fill_sound hout hzr k1 k2
            refine ⟨.agg b, by unfold VR; exact ⟨b, rfl, hr⟩, fun w => run_build w t _ b ?_⟩
            unfold Program.built
            rw [hi, hu, hparts]
            unfold sizeT at hs
            split at hs
            · rename_i ie hie
              cases hs
              simp only [hiz, hie]
              exact hb
            · cases hs
          · cases h
      · cases h
end
end Go.Proofs.YtfgomgodfcdijaaGreatDoor.Ex

/-
  The runner: an operation that looks at no memory gives what the model gives (all). No condition.
-/
namespace Go.Proofs.YtfgomgodfcdijaaGreatDoor.Ex
open Go
variable [Nums]
section
variable {P : Program} {ρ : Ren}
omit [Nums] in
theorem blt_no {a b : Nat} (h : Nat.blt a b = false) : ¬ a < b := fun hc => by
  have : Nat.blt a b = true := by simpa using hc
  rw [this] at h
  cases h
def VRo (ρ : Ren) : Option AV → Option Value → Prop
  | none, o => o = none
  | some x, o => ∃ y, o = some y ∧ VR ρ x y
theorem bnd_spec {d y k : Nat} {ao : Option AV} {ov : Option Value} (h : bnd d y ao = some k) (hv : VRo ρ ao ov) : (ao = none ∧ ov = none ∧ k = d) ∨ ∃ kk, ov = some (.int kk (k : Int)) ∧ k ≤ y := by
  unfold bnd at h
  split at h
  · cases h
    exact .inl ⟨rfl, hv, rfl⟩
  · rename_i kk n
    split at h
    · rename_i hle
      cases h
      obtain ⟨u, rfl, hu⟩ := hv
      unfold VR at hu
      subst hu
      exact .inr ⟨kk, rfl, by simpa using hle⟩
    · cases h
  · cases h
omit [Nums] in
theorem sliceBound_ok (kk : IntKind) (k y : Nat) (code : BoundsCode) (h : k ≤ y) (w : World) : (Instr.sliceBound (.int kk (k : Int)) y code).run P w = .ok k w := by
  have := run_sliceBound (P := P) w kk (k : Int) y code (by omega) (by omega)
  simpa using this
omit [Nums] in
theorem slice_run {t e : TypeId} {s : Nat} (hu : P.underlying t = some (.slice e)) (hs : sizeT P e = some s) (a : Option Addr) (len cap : Nat) (ol oh om : Option Value) (l h m : Nat)
    (hm : (om = none ∧ m = cap) ∨ ∃ k, om = some (.int k (m : Int)) ∧ m ≤ cap) (hh : (oh = none ∧ om = none ∧ h = len) ∨ ∃ k, oh = some (.int k (h : Int)) ∧ h ≤ m) (hl : (ol = none ∧ l = 0) ∨ ∃ k, ol = some (.int k (l : Int)) ∧ l ≤ h) (w : World) :
    (Instr.sliceAt t (.slice a len cap) ol oh om).run P w = .ok (.slice (if m = l then a else a.map (·.add (l * s))) (h - l) (m - l)) w := by
  have hsz := sizeT_run hs w
  have hb : (Instr.sliceBounds true len cap ol oh om).run P w = .ok (l, h, m) w := by
    rcases hm with ⟨rfl, rfl⟩ | ⟨k1, rfl, h1⟩ <;> rcases hh with ⟨rfl, h0, rfl⟩ | ⟨k2, rfl, h2⟩ <;> rcases hl with ⟨rfl, rfl⟩ | ⟨k3, rfl, h3⟩ <;>
      first
      | (cases h0; done)
      | simp [Instr.sliceBounds, sliceBound_ok, *]
  simp [Instr.sliceAt, run_underlying hu w, Instr.slice, hb, hsz]
omit [Nums] in
theorem offAt_ev {σ : Nat → Int} {off : SE} {q : Nat} (h0 : 0 ≤ off.ev σ) (h4 : off.ev σ + q ≤ 4000000000) : (offAt off q).ev σ = off.ev σ + q := by
  cases q with
  | zero => simp [offAt]
  | succ q =>
    have e1 : Int.ofNat (q + 1) = ((q + 1 : Nat) : Int) := rfl
    by_cases hc : ∃ n, off = .lit n
    · obtain ⟨n, rfl⟩ := hc
      show n + Int.ofNat (q + 1) = n + _
      omega
    · have e : offAt off (q + 1) = .bin .add off (.lit (Int.ofNat (q + 1))) := by
        cases off <;> first | rfl | exact absurd ⟨_, rfl⟩ hc
      rw [e]
      simp only [SE.ev]
      rw [IntKind.wrap_i64]
      omega
omit [Nums] in
theorem spanOf_ok {σ : Nat → Int} {x y x' : SE} {k : Nat} (h : spanOf x y = some (x', k)) : x'.ev σ = x.ev σ ∧ ((x.ev σ + k = y.ev σ) ∨ y.ev σ = IntKind.i64.wrap (x.ev σ + k)) := by
  unfold spanOf at h
  split at h
  · rename_i a b
    split at h <;> first | (cases h; done) | skip
    rename_i k' hk
    simp only [Option.some.injEq, Prod.mk.injEq] at h
    obtain ⟨rfl, rfl⟩ := h
    refine ⟨rfl, .inl ?_⟩
    simp only [SE.ev]
    have : b - a = (k' : Int) := hk
    omega
  · rename_i x0 k0 _
    split at h <;> first | (cases h; done) | skip
    rename_i hb
    simp only [Option.some.injEq, Prod.mk.injEq] at h
    obtain ⟨rfl, rfl⟩ := h
    have := SE.beq_eq hb
    subst this
    exact ⟨rfl, .inr (by simp only [SE.ev]; rfl)⟩
  · cases h
theorem slice_sound {t e : TypeId} {x v : AV} {al ah am : Option AV} {u : Value} {ol oh om : Option Value} (hu : P.underlying t = some (.slice e)) (h : asliceOf P e x al ah am = some v) (hx : VR ρ x u)
    (hl : VRo ρ al ol) (hh : VRo ρ ah oh) (hm : VRo ρ am om) : ∃ y, VR ρ v y ∧ ∀ w, (Instr.sliceAt t u ol oh om).run P w = .ok y w := by
  unfold asliceOf at h
  split at h
  · -- nil
    unfold VR at hx
    subst hx
    split at h <;> first | (cases h; done) | skip
    rename_i m0 e1
    split at h <;> first | (cases h; done) | skip
    rename_i h0 e2
    split at h <;> first | (cases h; done) | skip
    rename_i l0 e3
    split at h
    · cases h
    · rename_i hno
      split at h <;> first | (cases h; done) | skip
      rename_i s hs
      simp only [Option.some.injEq] at h
      subst h
      refine ⟨.slice none 0 0, by unfold VR; rfl, fun w => ?_⟩
      have q1 : (om = none ∧ 0 = 0) ∨ ∃ k, om = some (.int k ((0 : Nat) : Int)) ∧ 0 ≤ 0 := by
        rcases bnd_spec e1 hm with ⟨_, r1, _⟩ | ⟨k, r1, r2⟩
        · exact .inl ⟨r1, rfl⟩
        · obtain rfl : m0 = 0 := by omega
          exact .inr ⟨k, r1, Nat.le_refl _⟩
      have q2 : (oh = none ∧ om = none ∧ 0 = 0) ∨ ∃ k, oh = some (.int k ((0 : Nat) : Int)) ∧ 0 ≤ 0 := by
        rcases bnd_spec e2 hh with ⟨r0, r1, _⟩ | ⟨k, r1, r2⟩
        · rcases bnd_spec e1 hm with ⟨_, r3, _⟩ | ⟨k, r3, r4⟩
          · exact .inl ⟨r1, r3, rfl⟩
          · exfalso
            subst r0
            cases am with
            | none => rw [show om = none from hm] at r3; cases r3
            | some am => exact hno _ rfl rfl
        · obtain rfl : h0 = 0 := by omega
          exact .inr ⟨k, r1, Nat.le_refl _⟩
      have q3 : (ol = none ∧ 0 = 0) ∨ ∃ k, ol = some (.int k ((0 : Nat) : Int)) ∧ 0 ≤ 0 := by
        rcases bnd_spec e3 hl with ⟨_, r1, _⟩ | ⟨k, r1, r2⟩
        · exact .inl ⟨r1, rfl⟩
        · obtain rfl : l0 = 0 := by omega
          exact .inr ⟨k, r1, Nat.le_refl _⟩
      rw [slice_run hu hs none 0 0 ol oh om 0 0 0 q1 q2 q3 w]
      rfl
  · rename_i n off len sz r
    unfold VR at hx
    obtain ⟨b, s0, c, hρ, rfl, hlc, hcm, hroom⟩ := hx
    split at h <;> first | (cases h; done) | skip
    rename_i s hs
    split at h
    · cases h
    · rename_i hsz
      have hsz := Nat.eq_of_beq_eq_true hsz
      subst hsz
      split at h
      · -- no third bound
        have hom : om = none := hm
        split at h <;> first | (cases h; done) | skip
        rename_i hi e1
        split at h <;> first | (cases h; done) | skip
        rename_i lo e2
        have q1 : (om = none ∧ c = c) ∨ ∃ k, om = some (.int k (c : Int)) ∧ c ≤ c := .inl ⟨hom, rfl⟩
        have q2 : (oh = none ∧ om = none ∧ hi = len) ∨ ∃ k, oh = some (.int k (hi : Int)) ∧ hi ≤ c := by
          rcases bnd_spec e1 hh with ⟨_, r1, r2⟩ | ⟨k, r1, r2⟩
          · exact .inl ⟨r1, hom, r2⟩
          · exact .inr ⟨k, r1, by omega⟩
        have hhl : hi ≤ len := by
          rcases bnd_spec e1 hh with ⟨_, r1, r2⟩ | ⟨k, r1, r2⟩ <;> omega
        have q3 : (ol = none ∧ lo = 0) ∨ ∃ k, ol = some (.int k (lo : Int)) ∧ lo ≤ hi := by
          rcases bnd_spec e2 hl with ⟨_, r1, r2⟩ | ⟨k, r1, r2⟩
          · exact .inl ⟨r1, r2⟩
          · exact .inr ⟨k, r1, r2⟩
        have hrun := fun w => slice_run hu hs (some ⟨b, off, none⟩) len c ol oh om lo hi c q1 q2 q3 w
        split at h
        · rename_i h0
          have h0 := Nat.eq_of_beq_eq_true h0
          subst h0
          simp only [Option.some.injEq] at h
          subst h
          refine ⟨_, ?_, hrun⟩
          unfold VR
          refine ⟨b, s0, c, hρ, ?_, by omega, hcm, hroom⟩
          simp [Addr.add]
        · rename_i h0
          split at h
          · rename_i h1
            have h1 : lo < hi := by simpa using h1
            simp only [Option.some.injEq] at h
            subst h
            refine ⟨_, ?_, hrun⟩
            unfold VR
            refine ⟨b, s0, c - lo, hρ, ?_, ?_, by omega, trivial⟩
            · rw [if_neg (by omega)]
              simp only [Option.map_some, Addr.add_mid]
              rfl
            · show hi - lo ≤ c - lo
              omega
          · rename_i h1
            have h1 : ¬ lo < hi := blt_no h1
            simp only [Option.some.injEq] at h
            subst h
            refine ⟨_, ?_, hrun⟩
            unfold VR
            have hll : lo ≤ hi := by rcases q3 with ⟨_, r⟩ | ⟨k, _, r⟩ <;> omega
            rw [show hi - lo = 0 from by omega]
            by_cases hc : c = lo
            · rw [if_pos hc]; exact ⟨_, _, rfl⟩
            · rw [if_neg hc]; exact ⟨_, _, rfl⟩
      · rename_i am
        split at h <;> first | (cases h; done) | skip
        rename_i ahv
        split at h <;> first | (cases h; done) | skip
        rename_i m e0
        split at h <;> first | (cases h; done) | skip
        rename_i hi e1
        split at h <;> first | (cases h; done) | skip
        rename_i lo e2
        split at h
        · rename_i h0
          have h0 := Nat.eq_of_beq_eq_true h0
          subst h0
          simp only [Option.some.injEq] at h
          subst h
          obtain ⟨k0, r0, r0'⟩ : ∃ k, om = some (.int k (m : Int)) ∧ m ≤ len := by
            rcases bnd_spec e0 hm with ⟨r, _⟩ | r
            · cases r
            · exact r
          obtain ⟨k1, r1, r1'⟩ : ∃ k, oh = some (.int k (hi : Int)) ∧ hi ≤ m := by
            rcases bnd_spec e1 hh with ⟨r, _⟩ | r
            · cases r
            · exact r
          have q3 : (ol = none ∧ 0 = 0) ∨ ∃ k, ol = some (.int k ((0 : Nat) : Int)) ∧ 0 ≤ hi := by
            rcases bnd_spec e2 hl with ⟨_, r1, r2⟩ | ⟨k, r1, r2⟩
            · exact .inl ⟨r1, r2⟩
            · exact .inr ⟨k, r1, r2⟩
          refine ⟨_, ?_, fun w => slice_run hu hs (some ⟨b, off, none⟩) len c ol oh om 0 hi m (.inr ⟨k0, r0, by omega⟩) (.inr ⟨k1, r1, r1'⟩) q3 w⟩
          unfold VR
          refine ⟨b, s0, m, hρ, ?_, by omega, by omega, rfl⟩
          simp [Addr.add]
        · cases h
  · rename_i n len sz
    split at h <;> first | (cases h; done) | skip
    rename_i s hs
    split at h <;> first | (cases h; done) | skip
    rename_i hsz
    rw [Bool.and_eq_true] at hsz
    have hsz1 := Nat.eq_of_beq_eq_true hsz.1
    have hpos : 0 < s := by simpa using hsz.2
    subst hsz1
    split at h <;> first | (cases h; done) | skip
    rename_i va vb
    split at h <;> first | (cases h; done) | skip
    rename_i ka x hx1
    split at h <;> first | (cases h; done) | skip
    rename_i kb y hy1
    split at h <;> first | (cases h; done) | skip
    rename_i x' k hsp
    split at h <;> first | (cases h; done) | skip
    rename_i hlo
    split at h <;> first | (cases h; done) | skip
    rename_i hhi
    split at h <;> first | (cases h; done) | skip
    rename_i hk
    rw [Bool.and_eq_true] at hk
    have hk0 : 0 < k := by simpa using hk.1
    have hk1 : k < 1000000000 := by simpa using hk.2
    have hlo := of_decide_eq_false (askLt_ok hlo)
    have hhi := of_decide_eq_true (askLt_ok hhi)
    simp only [SE.ev] at hlo hhi
    obtain ⟨e1, e2⟩ := spanOf_ok (σ := Nums.σ) hsp
    have hfit : v = .ssl n x' k s ∧ x'.ev Nums.σ + k ≤ len.ev Nums.σ := by
      split at h
      · rename_i hle
        have hle := of_decide_eq_false (askLt_ok hle)
        simp only [SE.ev] at hle
        have hw : IntKind.i64.wrap (x'.ev Nums.σ + Int.ofNat k) = x'.ev Nums.σ + k := by
          rw [IntKind.wrap_i64]
          show _ = x'.ev Nums.σ + (k : Int)
          have : Int.ofNat k = (k : Int) := rfl
          omega
        rw [hw] at hle
        cases h
        exact ⟨rfl, by omega⟩
      · split at h <;> first | (cases h; done) | skip
        rename_i hwn
        obtain ⟨w1, w2⟩ := within_ok hwn
        have hq : Nat.sub k 1 = k - 1 := rfl
        rw [offAt_ev (by omega) (by omega)] at w2
        cases h
        exact ⟨rfl, by omega⟩
    obtain ⟨rfl, hfit⟩ := hfit
    unfold VR at hx
    obtain ⟨b, z, l, c, hb, rfl, hlc, hcm, hz, hlen⟩ := hx
    obtain ⟨ua, rfl, ha⟩ := hl
    obtain ⟨ub, rfl, hb2⟩ := hh
    have hom : om = none := hm
    subst hom
    have ha := toSE_ok hx1 ha
    have hb2 := toSE_ok hy1 hb2
    subst ha
    subst hb2
    have ex : x.ev Nums.σ = (((x'.ev Nums.σ).toNat : Nat) : Int) := by omega
    have ey : y.ev Nums.σ = (((x'.ev Nums.σ).toNat + k : Nat) : Int) := by
      rcases e2 with e2 | e2
      · omega
      · rw [e2, IntKind.wrap_i64]
        omega
    rw [ex, ey]
    have hkl : (x'.ev Nums.σ).toNat + k ≤ c := by omega
    refine ⟨_, ?_, fun w => slice_run hu hs (some ⟨b, 0, none⟩) l c _ _ none (x'.ev Nums.σ).toNat ((x'.ev Nums.σ).toNat + k) c (.inl ⟨rfl, rfl⟩) (.inr ⟨kb, rfl, hkl⟩) (.inr ⟨ka, rfl, by omega⟩) w⟩
    unfold VR
    refine ⟨b, z, c - (x'.ev Nums.σ).toNat, hb, ?_, by omega, by omega, by omega, by omega⟩
    rw [if_neg (by omega)]
    simp only [Option.map_some, Addr.add_mid, Nat.zero_add, Nat.add_sub_cancel_left]
  · cases h
theorem aint2_sound {mx : Bool} {x y v : AV} {a b : Value} (h : aint2 mx x y = some v) (hx : VR ρ x a) (hy : VR ρ y b) : ∃ u, VR ρ v u ∧ ∀ w, ((if mx then Builtin.max2 a b else Builtin.min2 a b) : Sem Value).run P w = .ok u w := by
  unfold aint2 at h
  split at h
  · unfold VR at hx hy
    subst hx; subst hy
    split at h <;> (simp only [Option.some.injEq] at h; subst h; refine ⟨_, by unfold VR; rfl, fun w => ?_⟩)
    · simp [Builtin.max2]
    · simp [Builtin.min2]
  · split at h <;> first | (cases h; done) | skip
    rename_i k a' h1
    split at h <;> first | (cases h; done) | skip
    rename_i k' b' h2
    have e1 := toSE_ok h1 hx
    have e2 := toSE_ok h2 hy
    split at h <;> first | (cases h; done) | skip
    rename_i hk
    have hk := of_decide_eq_true hk
    subst hk
    split at h <;> first | (cases h; done) | skip
    split at h <;> first | (cases h; done) | skip
    · rename_i hr
      have := of_decide_eq_true (askLt_ok hr)
      cases h
      subst e1; subst e2
      exact ⟨_, hy, fun w => by simp [Builtin.max2, this]⟩
    · rename_i hr
      have := of_decide_eq_false (askLt_ok hr)
      cases h
      subst e1; subst e2
      exact ⟨_, hx, fun w => by simp [Builtin.max2, this]⟩
theorem afold_sound (mx : Bool) : ∀ {l : List AV} {x v : AV} {a : Value} {m : List Value}, afoldInt mx x l = some v → VR ρ x a → VRs ρ l m → ∃ u, VR ρ v u ∧ ∀ w, (m.foldlM (fun a b => if mx then Builtin.max2 a b else Builtin.min2 a b) a : Sem Value).run P w = .ok u w
  | [], x, v, a, m, h, hx, hl => by
    unfold VRs at hl
    subst hl
    simp only [afoldInt, Option.some.injEq] at h
    subst h
    exact ⟨a, hx, fun w => by simp⟩
  | y :: l, x, v, a, m, h, hx, hl => by
    obtain ⟨b, bs, rfl, h1, h2⟩ := hl.uncons
    unfold afoldInt at h
    split at h
    · rename_i u hu
      obtain ⟨c, hc, hr⟩ := aint2_sound (P := P) hu hx h1
      obtain ⟨d, hd, hr'⟩ := afold_sound mx h hc h2
      refine ⟨d, hd, fun w => ?_⟩
      rw [List.foldlM_cons, Sem.run_bind, hr w, Result.andThen_ok, hr' w]
    · cases h
theorem VR.int_inv {k : IntKind} {n : Int} {u : Value} (h : VR ρ (.int k n) u) : u = .int k n := by unfold VR at h; exact h
theorem VR.ptr_inv {n off : Nat} {u : Value} (h : VR ρ (.ptr n off) u) : ∃ b s, ρ n = some (b, s) ∧ u = .pointer (some ⟨b, off, none⟩) := by unfold VR at h; exact h
omit [Nums] in
theorem map_list {l : Array Operand} {f : Operand → Value} : (l.map f).toList = l.toList.map f := by simp
theorem aindex_sound {t : TypeId} {x v : AV} {e : SE} {u : Value} {k : IntKind} (h : aindex P t x e = some v) (hx : VR ρ x u) :
    ∃ y, VR ρ v y ∧ ∀ w, (Instr.indexAt t u (.int k (e.ev Nums.σ))).run P w = .ok y w := by
  unfold aindex at h
  split at h <;> first | (cases h; done) | skip
  · rename_i n len z
    split at h <;> first | (cases h; done) | skip
    rename_i el hu
    split at h <;> first | (cases h; done) | skip
    rename_i s hs
    split at h <;> first | (cases h; done) | skip
    rename_i hsz
    have hsz := Nat.eq_of_beq_eq_true hsz
    subst hsz
    split at h <;> first | (cases h; done) | skip
    rename_i hw
    obtain ⟨w1, w2⟩ := within_ok hw
    simp only [Option.some.injEq] at h; subst h
    unfold VR at hx
    obtain ⟨b, z, l, c, hb, rfl, hlc, hcm, hz, hl⟩ := hx
    refine ⟨.pointer (some ⟨b, (e.ev Nums.σ).toNat * s + 0, none⟩), by unfold VR; exact ⟨b, z, hb, rfl⟩, fun w => ?_⟩
    have h1 : ¬ e.ev Nums.σ < 0 := by omega
    have h2 : e.ev Nums.σ < (l : Int) := by omega
    have h3 : (e.ev Nums.σ).toNat < l := by omega
    simp [Instr.indexAt, asIntOf, run_underlying hu w, h2, w1, sizeT_run hs w, Addr.add_mid]
  · rename_i n off len z r
    split at h <;> first | (cases h; done) | skip
    rename_i el hu
    split at h <;> first | (cases h; done) | skip
    rename_i s hs
    split at h <;> first | (cases h; done) | skip
    rename_i hsz
    rw [Bool.and_eq_true] at hsz
    have hsz0 := Nat.eq_of_beq_eq_true hsz.1
    have hoff := Nat.eq_of_beq_eq_true hsz.2
    subst hsz0; subst hoff
    split at h <;> first | (cases h; done) | skip
    rename_i hw
    obtain ⟨w1, w2⟩ := within_ok hw
    simp only [SE.ev] at w2
    simp only [Option.some.injEq] at h; subst h
    unfold VR at hx
    obtain ⟨b, z, c, hb, rfl, hlc, hcm, _⟩ := hx
    refine ⟨.pointer (some ⟨b, (e.ev Nums.σ).toNat * s + 0, none⟩), by unfold VR; exact ⟨b, z, hb, rfl⟩, fun w => ?_⟩
    have h1 : ¬ e.ev Nums.σ < 0 := by omega
    have h2 : e.ev Nums.σ < (len : Int) := w2
    have h3 : (e.ev Nums.σ).toNat < len := by omega
    simp [Instr.indexAt, asIntOf, run_underlying hu w, h2, w1, sizeT_run hs w, Addr.add_mid]
  · rename_i n off
    split at h <;> first | (cases h; done) | skip
    rename_i len el hu
    split at h <;> first | (cases h; done) | skip
    rename_i s hs
    split at h <;> first | (cases h; done) | skip
    rename_i hoff
    have hoff := Nat.eq_of_beq_eq_true hoff
    subst hoff
    split at h <;> first | (cases h; done) | skip
    rename_i hw
    obtain ⟨w1, w2⟩ := within_ok hw
    simp only [SE.ev] at w2
    simp only [Option.some.injEq] at h; subst h
    obtain ⟨b, z, hb, rfl⟩ := hx.ptr_inv
    refine ⟨.pointer (some ⟨b, (e.ev Nums.σ).toNat * s + 0, none⟩), by unfold VR; exact ⟨b, z, hb, rfl⟩, fun w => ?_⟩
    have h1 : ¬ e.ev Nums.σ < 0 := by omega
    have h2 : e.ev Nums.σ < (len : Int) := w2
    have h3 : (e.ev Nums.σ).toNat < len := by omega
    simp [Instr.indexAt, asIntOf, run_underlying hu w, h2, w1, sizeT_run hs w, Addr.add_mid, Instr.sureAddr]
  · rename_i i
    split at h <;> first | (cases h; done) | skip
    rename_i el hu
    split at h <;> first | (cases h; done) | skip
    rename_i s hs
    split at h <;> first | (cases h; done) | skip
    rename_i hsz
    have hsz := Nat.eq_of_beq_eq_true hsz
    subst hsz
    split at h <;> first | (cases h; done) | skip
    rename_i hw
    obtain ⟨w1, w2⟩ := within_ok hw
    simp only [Option.some.injEq] at h; subst h
    unfold VR at hx
    obtain ⟨A, l, c, hro, rfl, hlc, hcm, hl0, hl⟩ := hx
    simp only [SE.ev, SE.evN] at w2
    have h2 : e.ev Nums.σ < (l : Int) := by omega
    cases A with
    | none => exact absurd (hl rfl) (by omega)
    | some A =>
      have h1 : ¬ e.ev Nums.σ < 0 := by omega
      have h3 : (e.ev Nums.σ).toNat < l := by omega
      refine ⟨.pointer (some (A.add (e.ev Nums.σ).toNat)), by unfold VR; exact ⟨A, l, c, hro, rfl, h3⟩, fun w => ?_⟩
      simp [Instr.indexAt, asIntOf, run_underlying hu w, h2, w1, sizeT_run hs w]
theorem pure_sound {o : Oper} {a : Act} {vs : List AV} {v : AV} (h : apure P o.op vs = some v) (hv : VRs ρ vs (o.op.operands.toList.map a.eval)) :
    ∃ x, VR ρ v x ∧ ∀ w, (execOp a.eval o).run P w = .ok (.value x) w := by
  unfold execOp
  generalize o.op = op at h hv
  cases op with
  | move x =>
    simp only [apure] at h
    split at h <;> first | (cases h; done) | skip
    simp only [Option.some.injEq] at h; subst h
    obtain ⟨y, hy, hr⟩ := hv.one
    simp [Op.operands] at hy
    exact ⟨_, hr, fun w => by simp [hy]⟩
  | assign x =>
    simp only [apure] at h
    split at h <;> first | (cases h; done) | skip
    simp only [Option.some.injEq] at h; subst h
    obtain ⟨y, hy, hr⟩ := hv.one
    simp [Op.operands] at hy
    exact ⟨_, hr, fun w => by simp [hy]⟩
  | pick c x y =>
    simp only [apure] at h
    split at h <;> first | (cases h; done) | skip
    · simp only [Option.some.injEq] at h; subst h
      obtain ⟨y1, y2, y3, hy, hr1, hr2, hr3⟩ := hv.three
      simp [Op.operands] at hy
      obtain ⟨e1, e2, e3⟩ := hy
      unfold VR at hr1
      subst hr1
      exact ⟨_, hr2, fun w => by simp [e1, e2, asBool]⟩
    · simp only [Option.some.injEq] at h; subst h
      obtain ⟨y1, y2, y3, hy, hr1, hr2, hr3⟩ := hv.three
      simp [Op.operands] at hy
      obtain ⟨e1, e2, e3⟩ := hy
      unfold VR at hr1
      subst hr1
      exact ⟨_, hr3, fun w => by simp [e1, e3, asBool]⟩
    · rename_i c p u v'
      obtain ⟨y1, y2, y3, hy, hr1, hr2, hr3⟩ := hv.three
      simp [Op.operands] at hy
      obtain ⟨e1, e2, e3⟩ := hy
      unfold VR at hr1
      split at h <;> first | (cases h; done) | skip
      rename_i q hq
      have hq := askC_ok hq
      rw [hq] at hr1
      subst hr1
      split at h
      · rename_i hqp
        simp only [Option.some.injEq] at h; subst h
        exact ⟨_, hr2, fun w => by simp [e1, e2, asBool, hqp]⟩
      · rename_i hqp
        simp only [Option.some.injEq] at h; subst h
        exact ⟨_, hr3, fun w => by simp [e1, e3, asBool, hqp]⟩
  | build t parts =>
    obtain ⟨u, hu, hr⟩ := build_sound (ρ := ρ) (_x := .const undef) h hv (f := a.eval) (by simp [Op.operands])
    exact ⟨u, hu, fun w => by simp [hr w]⟩
  | nilCheck x =>
    simp only [apure] at h
    split at h <;> first | (cases h; done) | skip
    · simp only [Option.some.injEq] at h; subst h
      obtain ⟨y, hy, hr⟩ := hv.one
      simp [Op.operands] at hy
      obtain ⟨b, s, _, rfl⟩ := hr.ptr_inv
      exact ⟨_, hr, fun w => by simp [hy]⟩
    · simp only [Option.some.injEq] at h; subst h
      obtain ⟨y, hy, hr⟩ := hv.one
      simp [Op.operands] at hy
      have hr' := hr
      unfold VR at hr'
      obtain ⟨_, _, rfl, _⟩ := hr'
      exact ⟨_, hr, fun w => by simp [hy]⟩
  | binOp op t x y yt =>
    simp only [apure] at h
    split at h <;> first | (cases h; done) | skip
    obtain ⟨y1, y2, hy, hr1, hr2⟩ := hv.two
    simp [Op.operands] at hy
    obtain ⟨e1, e2⟩ := hy
    obtain ⟨u, hu, hr⟩ := abinop_sound h hr1 hr2 x y
    refine ⟨u, hu, fun w => ?_⟩
    have := hr w
    simp only [e1, e2]
    simp only [Sem.run_bind] at this ⊢
    rw [this]
    simp
  | unOp op t x =>
    simp only [apure] at h
    split at h <;> first | (cases h; done) | skip
    obtain ⟨y, hy, hr⟩ := hv.one
    simp [Op.operands] at hy
    obtain ⟨u, hu, hr'⟩ := aun_run (P := P) h hr
    exact ⟨u, hu, fun w => by simp [hy, hr' w]⟩
  | convert src dst x =>
    simp only [apure] at h
    split at h <;> first | (cases h; done) | skip
    rotate_left
    · split at h <;> first | (cases h; done) | skip
      rename_i d hsu
      split at h <;> first | (cases h; done) | skip
      rename_i k hu
      simp only [Option.some.injEq] at h; subst h
      obtain ⟨y, hy, hr⟩ := hv.one
      simp [Op.operands] at hy
      unfold VR at hr
      subst hr
      rename_i kk e _ _
      refine ⟨.int k (k.wrap (e.ev Nums.σ)), by unfold VR; rfl, fun w => ?_⟩
      have : (convert src dst (.int kk (e.ev Nums.σ))).run P w = .ok (.int k (k.wrap (e.ev Nums.σ))) w := by
        unfold convert
        rw [Sem.run_bind, run_underlying hsu w, Result.andThen_ok, Sem.run_bind, run_underlying hu w, Result.andThen_ok]
        cases d <;> rfl
      simp [hy, this]
    split at h <;> first | (cases h; done) | skip
    rename_i d hsu
    split at h <;> first | (cases h; done) | skip
    rename_i k hu
    simp only [Option.some.injEq] at h; subst h
    obtain ⟨y, hy, hr⟩ := hv.one
    simp [Op.operands] at hy
    have hr := hr.int_inv
    subst hr
    rename_i kk n _ _
    refine ⟨.int k (k.wrap n), by unfold VR; rfl, fun w => ?_⟩
    have : (convert src dst (.int kk n)).run P w = .ok (.int k (k.wrap n)) w := by
      unfold convert
      rw [Sem.run_bind, run_underlying hsu w, Result.andThen_ok, Sem.run_bind, run_underlying hu w, Result.andThen_ok]
      cases d <;> rfl
    simp [hy, this]
  | makeFunc fn first captured =>
    simp only [apure, Option.some.injEq] at h; subst h
    refine ⟨.func fn (first.map a.eval) (captured.map a.eval), ?_, fun w => by simp [Instr.makeFunc]⟩
    unfold VR
    simp only [Op.operands, Array.toList_append, List.map_append] at hv
    refine ⟨_, _, rfl, ?_, ?_⟩
    · have := hv.take first.size
      rw [List.take_left' (by simp)] at this
      simpa using this
    · have := hv.drop first.size
      rw [List.drop_left' (by simp)] at this
      simpa using this
  | slice t x lo hi mx =>
    simp only [apure] at h
    split at h <;> first | (cases h; done) | skip
    rename_i e hu
    have fin : ∀ {x' v' : AV} {al ah am : Option AV}, asliceOf P e x' al ah am = some v' → VR ρ x' (a.eval x) → VRo ρ al (lo.map a.eval) → VRo ρ ah (hi.map a.eval) → VRo ρ am (mx.map a.eval) →
        ∃ y, VR ρ v' y ∧ ∀ w, ((do pure (.value (← Instr.sliceAt t (a.eval x) (lo.map a.eval) (hi.map a.eval) (mx.map a.eval))) : Sem Next)).run P w = .ok (.value y) w := by
      intro x' v' al ah am h1 h2 h3 h4 h5
      obtain ⟨y, hy, hr⟩ := slice_sound hu h1 h2 h3 h4 h5
      exact ⟨y, hy, fun w => by simp [hr w]⟩
    split at h
    · obtain ⟨y, hy, hr⟩ := hv.one
      simp [Op.operands] at hy
      subst hy
      exact fin h hr rfl rfl rfl
    · obtain ⟨y, y2, hy, hr, hr2⟩ := hv.two
      simp [Op.operands] at hy
      obtain ⟨rfl, rfl⟩ := hy
      exact fin h hr ⟨_, rfl, hr2⟩ rfl rfl
    · obtain ⟨y, y2, hy, hr, hr2⟩ := hv.two
      simp [Op.operands] at hy
      obtain ⟨rfl, rfl⟩ := hy
      exact fin h hr rfl ⟨_, rfl, hr2⟩ rfl
    · obtain ⟨y, y2, y3, hy, hr, hr2, hr3⟩ := hv.three
      simp [Op.operands] at hy
      obtain ⟨rfl, rfl, rfl⟩ := hy
      exact fin h hr ⟨_, rfl, hr2⟩ ⟨_, rfl, hr3⟩ rfl
    · obtain ⟨y, y2, y3, hy, hr, hr2, hr3⟩ := hv.three
      simp [Op.operands] at hy
      obtain ⟨rfl, rfl, rfl⟩ := hy
      exact fin h hr rfl ⟨_, rfl, hr2⟩ ⟨_, rfl, hr3⟩
    · obtain ⟨y, y2, y3, y4, hy, hr, hr2, hr3, hr4⟩ := hv.four
      simp [Op.operands] at hy
      obtain ⟨rfl, rfl, rfl, rfl⟩ := hy
      exact fin h hr ⟨_, rfl, hr2⟩ ⟨_, rfl, hr3⟩ ⟨_, rfl, hr4⟩
    · cases h
  | fieldAddr s x f =>
    simp only [apure] at h
    split at h <;> first | (cases h; done) | skip
    · split at h <;> first | (cases h; done) | skip
      rename_i n off _ fs hu
      split at h <;> first | (cases h; done) | skip
      rename_i fd hfd
      split at h <;> first | (cases h; done) | skip
      rename_i sz hsz
      simp only [Option.some.injEq] at h; subst h
      obtain ⟨y, hy, hr⟩ := hv.one
      simp [Op.operands] at hy
      obtain ⟨b, s, hb, rfl⟩ := hr.ptr_inv
      refine ⟨.pointer (some ⟨b, off + fd.offset, none⟩), by unfold VR; exact ⟨b, s, hb, rfl⟩, fun w => ?_⟩
      simp [Instr.fieldAt, run_underlying hu w, hfd, hy, Instr.sureAddr, fieldPlace, sizeT_run hsz w, Addr.add_mid]
    · split at h <;> first | (cases h; done) | skip
      rename_i n ie z j _ fs hu
      split at h <;> first | (cases h; done) | skip
      rename_i fd hfd
      split at h <;> first | (cases h; done) | skip
      rename_i sz hsz
      simp only [Option.some.injEq] at h; subst h
      obtain ⟨y, hy, hr⟩ := hv.one
      simp [Op.operands] at hy
      unfold VR at hr
      obtain ⟨b, s, hb, rfl⟩ := hr
      refine ⟨.pointer (some ⟨b, (ie.ev Nums.σ).toNat * z + (j + fd.offset), none⟩), by unfold VR; exact ⟨b, s, hb, rfl⟩, fun w => ?_⟩
      simp [Instr.fieldAt, run_underlying hu w, hfd, hy, Instr.sureAddr, fieldPlace, sizeT_run hsz w, Addr.add_mid, Nat.add_assoc]
  | field t x f =>
    simp only [apure] at h
    split at h <;> first | (cases h; done) | skip
    split at h <;> first | (cases h; done) | skip
    rename_i cs _ fs hu
    split at h <;> first | (cases h; done) | skip
    rename_i fd hfd
    obtain ⟨y, hy, hr⟩ := hv.one
    simp [Op.operands] at hy
    obtain ⟨ar, rfl, hc⟩ := hr.agg_inv
    obtain ⟨u, hu', hr'⟩ := part_sound h hc
    exact ⟨u, hu', fun w => by simp [Instr.field, run_underlying hu w, hfd, hy, asAgg, hr' w]⟩
  | indexAddr t x i =>
    simp only [apure] at h
    split at h <;> first | (cases h; done) | skip
    · rename_i n off len sz r k j
      split at h <;> first | (cases h; done) | skip
      rename_i e hu
      split at h <;> first | (cases h; done) | skip
      rename_i q hq
      obtain ⟨rfl, hlt⟩ := inRange_spec hq
      split at h <;> first | (cases h; done) | skip
      rename_i s hs
      split at h <;> first | (cases h; done) | skip
      rename_i hsz
      have hsz := Nat.eq_of_beq_eq_true hsz
      subst hsz
      simp only [Option.some.injEq] at h; subst h
      obtain ⟨y, y2, hy, hr, hr2⟩ := hv.two
      simp [Op.operands] at hy
      obtain ⟨e1, e2⟩ := hy
      have hr2 := hr2.int_inv
      subst hr2
      unfold VR at hr
      obtain ⟨b, s0, c, hb, rfl, _⟩ := hr
      refine ⟨.pointer (some ⟨b, off + q * s, none⟩), by unfold VR; exact ⟨b, s0, hb, rfl⟩, fun w => ?_⟩
      have h0 : (0 : Int) ≤ q ∧ (q : Int) < len := by omega
      simp [Instr.indexAt, asIntOf, run_underlying hu w, e1, e2, hlt, sizeT_run hs w, Addr.add_mid]
    · rename_i n off k j
      split at h <;> first | (cases h; done) | skip
      rename_i len e hu
      split at h <;> first | (cases h; done) | skip
      rename_i q hq
      obtain ⟨rfl, hlt⟩ := inRange_spec hq
      split at h <;> first | (cases h; done) | skip
      rename_i s hs
      simp only [Option.some.injEq] at h; subst h
      obtain ⟨y, y2, hy, hr, hr2⟩ := hv.two
      simp [Op.operands] at hy
      obtain ⟨e1, e2⟩ := hy
      have hr2 := hr2.int_inv
      subst hr2
      obtain ⟨b, s0, hb, rfl⟩ := hr.ptr_inv
      refine ⟨.pointer (some ⟨b, off + q * s, none⟩), by unfold VR; exact ⟨b, s0, hb, rfl⟩, fun w => ?_⟩
      simp [Instr.indexAt, asIntOf, run_underlying hu w, e1, e2, hlt, sizeT_run hs w, Addr.add_mid, Instr.sureAddr]
    · rename_i b off k j
      split at h <;> first | (cases h; done) | skip
      rename_i len e hu
      split at h <;> first | (cases h; done) | skip
      rename_i q hq
      obtain ⟨rfl, hlt⟩ := inRange_spec hq
      split at h <;> first | (cases h; done) | skip
      rename_i s hs
      simp only [Option.some.injEq] at h; subst h
      obtain ⟨y, y2, hy, hr, hr2⟩ := hv.two
      simp [Op.operands] at hy
      obtain ⟨e1, e2⟩ := hy
      have hr2 := hr2.int_inv
      subst hr2
      unfold VR at hr
      subst hr
      refine ⟨.pointer (some ⟨b, off + q * s, none⟩), by unfold VR; rfl, fun w => ?_⟩
      simp [Instr.indexAt, asIntOf, run_underlying hu w, e1, e2, hlt, sizeT_run hs w, Addr.add_mid, Instr.sureAddr]
    · rename_i n off len z k j
      split at h <;> first | (cases h; done) | skip
      rename_i e hu
      split at h <;> first | (cases h; done) | skip
      rename_i q hq
      obtain ⟨rfl, hlt⟩ := inRange_spec hq
      split at h <;> first | (cases h; done) | skip
      rename_i s hs
      split at h <;> first | (cases h; done) | skip
      rename_i hsz
      have hsz := Nat.eq_of_beq_eq_true hsz
      subst hsz
      simp only [Option.some.injEq] at h; subst h
      obtain ⟨y, y2, hy, hr, hr2⟩ := hv.two
      simp [Op.operands] at hy
      obtain ⟨e1, e2⟩ := hy
      have hr2 := hr2.int_inv
      subst hr2
      unfold VR at hr
      obtain ⟨b, s0, c, hb, rfl, hlc, hcm, h0, h4⟩ := hr
      have hoff : (offAt off q).ev Nums.σ = off.ev Nums.σ + q := offAt_ev h0 (by omega)
      refine ⟨.pointer (some ⟨b, (off.ev Nums.σ).toNat * s + q * s, none⟩), ?_, fun w => ?_⟩
      · unfold VR
        refine ⟨b, s0, hb, ?_⟩
        rw [hoff]
        congr 3
        rw [← Nat.add_mul, Nat.add_zero]
        congr 1
        omega
      · simp [Instr.indexAt, asIntOf, run_underlying hu w, e1, e2, hlt, sizeT_run hs w, Addr.add_mid]
    · rename_i n off len sz r k se
      split at h
      · obtain ⟨y, y2, hy, hr, hr2⟩ := hv.two
        simp [Op.operands] at hy
        obtain ⟨e1, e2⟩ := hy
        unfold VR at hr2
        subst hr2
        obtain ⟨p, hp, hrun⟩ := aindex_sound (k := k) h hr
        exact ⟨p, hp, fun w => by simp [e1, e2, hrun w]⟩
      · rename_i j hlit
        have hlit := litOf_ok hlit
        split at h <;> first | (cases h; done) | skip
        rename_i e hu
        split at h <;> first | (cases h; done) | skip
        rename_i q hq
        obtain ⟨rfl, hlt⟩ := inRange_spec hq
        split at h <;> first | (cases h; done) | skip
        rename_i s hs
        split at h <;> first | (cases h; done) | skip
        rename_i hsz
        have hsz := Nat.eq_of_beq_eq_true hsz
        subst hsz
        simp only [Option.some.injEq] at h; subst h
        obtain ⟨y, y2, hy, hr, hr2⟩ := hv.two
        simp [Op.operands] at hy
        obtain ⟨e1, e2⟩ := hy
        unfold VR at hr2
        rw [hlit] at hr2
        subst hr2
        unfold VR at hr
        obtain ⟨b, s0, c, hb, rfl, _⟩ := hr
        refine ⟨.pointer (some ⟨b, off + q * s, none⟩), by unfold VR; exact ⟨b, s0, hb, rfl⟩, fun w => ?_⟩
        have h0 : (0 : Int) ≤ q ∧ (q : Int) < len := by omega
        simp [Instr.indexAt, asIntOf, run_underlying hu w, e1, e2, hlt, sizeT_run hs w, Addr.add_mid]
    · rename_i n off k se
      split at h
      · obtain ⟨y, y2, hy, hr, hr2⟩ := hv.two
        simp [Op.operands] at hy
        obtain ⟨e1, e2⟩ := hy
        unfold VR at hr2
        subst hr2
        obtain ⟨p, hp, hrun⟩ := aindex_sound (k := k) h hr
        exact ⟨p, hp, fun w => by simp [e1, e2, hrun w]⟩
      · rename_i j hlit
        have hlit := litOf_ok hlit
        split at h <;> first | (cases h; done) | skip
        rename_i len e hu
        split at h <;> first | (cases h; done) | skip
        rename_i q hq
        obtain ⟨rfl, hlt⟩ := inRange_spec hq
        split at h <;> first | (cases h; done) | skip
        rename_i s hs
        simp only [Option.some.injEq] at h; subst h
        obtain ⟨y, y2, hy, hr, hr2⟩ := hv.two
        simp [Op.operands] at hy
        obtain ⟨e1, e2⟩ := hy
        unfold VR at hr2
        rw [hlit] at hr2
        subst hr2
        obtain ⟨b, s0, hb, rfl⟩ := hr.ptr_inv
        refine ⟨.pointer (some ⟨b, off + q * s, none⟩), by unfold VR; exact ⟨b, s0, hb, rfl⟩, fun w => ?_⟩
        simp [Instr.indexAt, asIntOf, run_underlying hu w, e1, e2, hlt, sizeT_run hs w, Addr.add_mid, Instr.sureAddr]
    · rename_i b off k se
      split at h <;> first | (cases h; done) | skip
      rename_i j hlit
      have hlit := litOf_ok hlit
      split at h <;> first | (cases h; done) | skip
      rename_i len e hu
      split at h <;> first | (cases h; done) | skip
      rename_i q hq
      obtain ⟨rfl, hlt⟩ := inRange_spec hq
      split at h <;> first | (cases h; done) | skip
      rename_i s hs
      simp only [Option.some.injEq] at h; subst h
      obtain ⟨y, y2, hy, hr, hr2⟩ := hv.two
      simp [Op.operands] at hy
      obtain ⟨e1, e2⟩ := hy
      unfold VR at hr2
      rw [hlit] at hr2
      subst hr2
      unfold VR at hr
      subst hr
      refine ⟨.pointer (some ⟨b, off + q * s, none⟩), by unfold VR; rfl, fun w => ?_⟩
      simp [Instr.indexAt, asIntOf, run_underlying hu w, e1, e2, hlt, sizeT_run hs w, Addr.add_mid, Instr.sureAddr]
    · rename_i ux uy _ _ _ _ _ _ _
      split at h <;> first | (cases h; done) | skip
      rename_i k ie hse
      obtain ⟨y, y2, hy, hr, hr2⟩ := hv.two
      simp [Op.operands] at hy
      obtain ⟨e1, e2⟩ := hy
      have hr2 := toSE_ok hse hr2
      subst hr2
      obtain ⟨p, hp, hrun⟩ := aindex_sound (k := k) h hr
      exact ⟨p, hp, fun w => by simp [e1, e2, hrun w]⟩
  | index t x i =>
    simp only [apure] at h
    split at h <;> first | (cases h; done) | skip
    rename_i cs k j
    split at h <;> first | (cases h; done) | skip
    rename_i len e hu
    unfold asCells at h
    split at h <;> first | (cases h; done) | skip
    rename_i q hq
    obtain ⟨rfl, hlt⟩ := inRange_spec hq
    split at h <;> first | (cases h; done) | skip
    rename_i s hs
    obtain ⟨y, y2, hy, hr, hr2⟩ := hv.two
    simp [Op.operands] at hy
    obtain ⟨e1, e2⟩ := hy
    have hr2 := hr2.int_inv
    subst hr2
    obtain ⟨ar, rfl, hc⟩ := hr.agg_inv
    obtain ⟨u, hu', hr'⟩ := part_sound h hc
    refine ⟨u, hu', fun w => ?_⟩
    have hr'' := hr' w
    have hm : Nat.mul q s = q * s := rfl
    rw [hm] at hr''
    simp [Instr.index, asIntOf, run_underlying hu w, e1, e2, hlt, sizeT_run hs w, hr'']
  | extract t i =>
    simp only [apure] at h
    split at h <;> first | (cases h; done) | skip
    obtain ⟨y, hy, hr⟩ := hv.one
    simp [Op.operands] at hy
    unfold VR at hr
    obtain ⟨ar, rfl, hc⟩ := hr
    obtain ⟨u, hu, hr'⟩ := hc.get h
    rw [Array.getElem?_toList] at hu
    exact ⟨u, hr', fun w => by simp [Instr.extract, hy, hu]⟩
  | makeInterface t x =>
    simp only [apure] at h
    split at h <;> first | (cases h; done) | skip
    split at h <;> first | (cases h; done) | skip
    rename_i v d hd hu
    simp only [Option.some.injEq] at h; subst h
    obtain ⟨y, hy, hr⟩ := hv.one
    simp [Op.operands] at hy
    refine ⟨.iface t y, by unfold VR; exact ⟨y, rfl, hr⟩, fun w => ?_⟩
    have : (Instr.makeInterface t y).run P w = .ok (.iface t y) w := by
      unfold Instr.makeInterface
      rw [Sem.run_bind, run_underlying hu w]
      simp only [Result.andThen_ok]
      first
        | rfl
        | (split
           · exact absurd rfl (hd _)
           · rfl)
    simp [hy, this]
  | typeAssert x xt t ok =>
    simp only [apure] at h
    split at h <;> first | (cases h; done) | skip
    rotate_left
    · split at h <;> first | (cases h; done) | skip
      rename_i d hd hu
      split at h <;> first | (cases h; done) | skip
      split at h <;> first | (cases h; done) | skip
      rename_i z hz
      simp only [Option.some.injEq] at h; subst h
      obtain ⟨y, hy, hr⟩ := hv.one
      simp [Op.operands] at hy
      unfold VR at hr
      subst hr
      obtain ⟨_, zv, _, _, hof, hzr⟩ := zeroT_run hz
      have hzv := ofV_sound ρ hof
      refine ⟨.tuple #[zv, .bool false], by unfold VR; exact ⟨_, rfl, VRs.cons hzv (VRs.cons (by unfold VR; rfl) VRs.nil)⟩, fun w => ?_⟩
      have go : (Instr.typeAssert .nilIface xt t true).run P w = .ok (.tuple #[zv, .bool false]) w := by
        unfold Instr.typeAssert
        rw [Sem.run_bind, run_underlying hu w]
        simp only [Result.andThen_ok]
        cases d with
        | interface m => exact absurd rfl (hd m)
        | _ => simp [hzr w]
      simp [hy, go]
    split at h <;> first | (cases h; done) | skip
    rename_i t' v _ d hd hu
    obtain ⟨y, hy, hr⟩ := hv.one
    simp [Op.operands] at hy
    unfold VR at hr
    obtain ⟨u, rfl, hr⟩ := hr
    have go : ∀ (w : World), (Instr.typeAssert (.iface t' u) xt t ok).run P w = (if t' = t then (Sem.run P (pure (if ok then Value.tuple #[u, .bool true] else u)) w) else (Sem.run P (do if ok then pure (.tuple #[← zeroValue t, .bool false]) else runtimePanic (.typeAssertion (some xt) (some t') t "")) w)) := by
      intro w
      unfold Instr.typeAssert
      rw [Sem.run_bind, run_underlying hu w]
      simp only [Result.andThen_ok]
      cases d with
      | interface m => exact absurd rfl (hd m)
      | _ =>
        by_cases he : t' = t
        · simp [he]
        · simp [he]
    split at h
    · rename_i hb
      have hb' : t' = t := Nat.eq_of_beq_eq_true hb
      split at h <;> (simp only [Option.some.injEq] at h; subst h)
      · refine ⟨.tuple #[u, .bool true], by unfold VR; exact ⟨_, rfl, VRs.cons hr (VRs.cons (by unfold VR; rfl) VRs.nil)⟩, fun w => ?_⟩
        have := go w
        rw [if_pos hb'] at this
        simp [hy, this]
      · refine ⟨u, hr, fun w => ?_⟩
        have := go w
        rw [if_pos hb'] at this
        simp [hy, this]
    · rename_i hb
      have hb' : ¬ t' = t := Nat.ne_of_beq_eq_false hb
      split at h <;> first | (cases h; done) | skip
      split at h <;> first | (cases h; done) | skip
      rename_i z hz
      simp only [Option.some.injEq] at h; subst h
      obtain ⟨_, zv, _, _, hof, hzr⟩ := zeroT_run hz
      have hzv := ofV_sound ρ hof
      refine ⟨.tuple #[zv, .bool false], by unfold VR; exact ⟨_, rfl, VRs.cons hzv (VRs.cons (by unfold VR; rfl) VRs.nil)⟩, fun w => ?_⟩
      have := go w
      rw [if_neg hb'] at this
      simp [hy, this, hzr w]
  | call c =>
    simp only [apure] at h
    obtain ⟨callee, args, argTypes⟩ := c
    cases callee with
    | builtin b =>
      have hop : (Op.call ⟨.builtin b, args, argTypes⟩).operands = args := by simp [Op.operands, Call.operands]
      rw [hop] at hv
      cases b <;> first
        | (cases h; done)
        | skip
      · dsimp only at h
        split at h <;> first | (cases h; done) | skip
        rename_i t ht
        split at h <;> first | (cases h; done) | skip
        rename_i e hu
        have ht' : argTypes[0]? = some t := ht
        split at h <;> first | (cases h; done) | skip
        all_goals
          simp only [Option.some.injEq] at h
          subst h
          obtain ⟨y, hy, hr⟩ := hv.one
          have harg : args.map a.eval = #[y] := by
            apply Array.ext'
            rw [Array.toList_map, hy]
          unfold VR at hr
        · subst hr
          refine ⟨.int .i64 0, by unfold VR; rfl, fun w => ?_⟩
          simp [resolve, invoke, builtin, harg, Builtin.cap_, ht', run_underlying hu w, goInt]
        · obtain ⟨b, s0, c, _, rfl, _, _, hrm⟩ := hr
          have hrm : c = _ := hrm
          subst hrm
          refine ⟨.int .i64 (c : Int), by unfold VR; rfl, fun w => ?_⟩
          simp [resolve, invoke, builtin, harg, Builtin.cap_, ht', run_underlying hu w, goInt]
      · dsimp only at h
        split at h <;> first | (cases h; done) | skip
        obtain ⟨y, ys, hy, h1, h2⟩ := hv.uncons
        obtain ⟨u, hu, hr⟩ := afold_sound (P := P) true h h1 h2
        refine ⟨u, hu, fun w => ?_⟩
        have := hr w
        simp only [if_true] at this
        have this : (List.foldlM Builtin.max2 y ys : Sem Value).run P w = .ok u w := this
        simp only [resolve, invoke, builtin, Sem.run_bind, Sem.run_pure, Result.andThen_ok, Builtin.max_, Array.toList_map, hy]
        rw [this]
        rfl
      · dsimp only at h
        split at h <;> first | (cases h; done) | skip
        obtain ⟨y, ys, hy, h1, h2⟩ := hv.uncons
        obtain ⟨u, hu, hr⟩ := afold_sound (P := P) false h h1 h2
        refine ⟨u, hu, fun w => ?_⟩
        have := hr w
        simp only [Bool.false_eq_true, if_false] at this
        have this : (List.foldlM Builtin.min2 y ys : Sem Value).run P w = .ok u w := this
        simp only [resolve, invoke, builtin, Sem.run_bind, Sem.run_pure, Result.andThen_ok, Builtin.min_, Array.toList_map, hy]
        rw [this]
        rfl
    | _ => cases h
  | _ => simp [apure] at h
end
end Go.Proofs.YtfgomgodfcdijaaGreatDoor.Ex
