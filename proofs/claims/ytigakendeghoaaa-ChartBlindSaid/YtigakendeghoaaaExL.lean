/-
  The runner: a region that draws its order: what was found in the order of the text. No condition.
-/
import Derived.Test.YtigakendeghoaaaExK
import Derived.Orders
namespace Go.Proofs.Ytigakendeghoaaa.Ex
open Go
variable [Nums]
/-- slots against named values -/
structure ER (ρ : Ren) (env : T AV) (nt : Nat) (a : Act) : Prop where
  dz : a.defers = []
  size : a.tmps.size = nt
  val : ∀ t v, env.get t = some v → ∃ x, a.tmps[t]? = some x ∧ VR ρ v x
/-- an operation's place in the table -/
def dstAt (ops : Array Oper) (i : Nat) : Option Tmp := (ops[i]?).bind (·.dst)
/-- what a slot holds when the listed operations are done -/
def Val (ops : Array Oper) (env : T AV) (rs : List Rk) (L : Nat → Bool) (t : Nat) (v : AV) : Prop :=
  (∃ i r, L i = true ∧ dstAt ops i = some t ∧ rs[i]? = some r ∧ v = r.res ∧ ∀ j, L j = true → dstAt ops j = some t → j ≤ i) ∨ ((∀ j, L j = true → dstAt ops j ≠ some t) ∧ env.get t = some v)
def below (n : Nat) : Nat → Bool := fun j => decide (j < n)
def isL : Rk → Bool
  | .loud _ _ => true
  | _ => false
def heapOf (h0 : AH) : List Rk → AH
  | [] => h0
  | .loud _ h :: l => heapOf h l
  | _ :: l => heapOf h0 l
/-- which blocks of the region lie in memory by now -/
def ConsP (b : T Nat) (rs : List Rk) (a : Nat) : Prop := ∃ l v h, rs[l]? = some (.loud v h) ∧ ahead b a l = true
omit [Nums] in
theorem heapOf_append (h0 : AH) : ∀ (p q : List Rk), heapOf h0 (p ++ q) = heapOf (heapOf h0 p) q
  | [], _ => rfl
  | .loud _ h :: p, q => heapOf_append h p q
  | .skip :: p, q => heapOf_append h0 p q
  | .val _ :: p, q => heapOf_append h0 p q
  | .alloc _ _ :: p, q => heapOf_append h0 p q
omit [Nums] in
theorem heapOf_none {h0 : AH} : ∀ {q : List Rk}, (∀ r ∈ q, isL r = false) → heapOf h0 q = h0
  | [], _ => rfl
  | .loud _ _ :: _, h => by have := h _ List.mem_cons_self; cases this
  | .skip :: q, h => by simp only [heapOf]; exact heapOf_none fun r hr => h r (List.mem_cons_of_mem _ hr)
  | .val _ :: q, h => by simp only [heapOf]; exact heapOf_none fun r hr => h r (List.mem_cons_of_mem _ hr)
  | .alloc _ _ :: q, h => by simp only [heapOf]; exact heapOf_none fun r hr => h r (List.mem_cons_of_mem _ hr)
omit [Nums] in
theorem overlay_spec {base : Nat} {see : Nat → Bool} : ∀ {al : List (Nat × AO)} {h : AH} {m : Nat} {o : AO}, (overlay base see al h).get m = some o → (∃ a, see a = true ∧ (a, o) ∈ al ∧ m = base + a) ∨ h.get m = some o
  | [], h, m, o, hg => .inr hg
  | (a, o') :: al, h, m, o, hg => by
    unfold overlay at hg
    split at hg
    · rename_i hs
      rcases put_spec hg with ⟨h1, h2⟩ | ⟨_, h2⟩
      · cases h2
        exact .inl ⟨a, hs, List.mem_cons_self, h1⟩
      · rcases overlay_spec h2 with ⟨a', h3, h4, h5⟩ | h3
        · exact .inl ⟨a', h3, List.mem_cons_of_mem _ h4, h5⟩
        · exact .inr h3
    · rcases overlay_spec hg with ⟨a', h3, h4, h5⟩ | h3
      · exact .inl ⟨a', h3, List.mem_cons_of_mem _ h4, h5⟩
      · exact .inr h3
omit [Nums] in
theorem overlay_next {base : Nat} {see : Nat → Bool} : ∀ {al : List (Nat × AO)} {h : AH}, (overlay base see al h).next = h.next
  | [], _ => rfl
  | (a, o') :: al, h => by
    unfold overlay
    split
    · rw [put_next]; exact overlay_next
    · exact overlay_next
/-- where the runner stands behind some operations -/
structure InvR (ops : Array Oper) (b : T Nat) (env0 : T AV) (h0 : AH) (p : List Rk) (env : T AV) (h : AH) (cons : Nat) (al : List (Nat × AO)) : Prop where
  env : ∀ t v, env.get t = some v → Val ops env0 p (below p.length) t v
  heap : h = heapOf h0 p
  cons : ∀ a, cons.testBit a = true ↔ ConsP b p a
  al : ∀ a ao, (a, ao) ∈ al ↔ ∃ v, p[a]? = some (.alloc ao v)
section
variable (P : Program) (call : FuncId → List AV → AH → Option (AV × AH)) (nt : Nat) (ops : Array Oper) (b : T Nat) (base : Nat) (env0 : T AV) (h0 : AH)
def KF (o : Oper) (i : Nat) (vs : List AV) (h : AH) (cons : Nat) (al : List (Nat × AO)) (r : Rk) : Prop := match kd o.op with
  | .pure => ∃ v, apure P o.op vs = some v ∧ r = .val v
  | .read => ∃ v, r = .val v
  | .alloc => ∃ ao k, aalloc P o.op vs = some (ao, k) ∧ r = .alloc ao (k.at (base + i))
  | .loud => ∃ v h', r = .loud v h' ∧ opA P call o.op vs (overlay base (fun a => ahead b a i && !(cons.testBit a)) al h) = some (v, h')
def FactAt (p : List Rk) (o : Oper) (i : Nat) (r : Rk) : Prop :=
  ∃ env h cons al, InvR ops b env0 h0 p env h cons al ∧ (∀ d, o.dst = some d → d < nt) ∧
    ((guardA ops o env = some false ∧ r = .skip) ∨ (guardA ops o env = some true ∧ ∃ vs, evs env o.op.operands.toList = some vs ∧ KF P call b base o i vs h cons al r))
end
section
variable {P : Program} {call : FuncId → List AV → AH → Option (AV × AH)} {nt : Nat} {ops : Array Oper} {b : T Nat} {base : Nat} {env0 : T AV} {h0 : AH}
omit [Nums] in
theorem putA_spec {nt : Nat} {env env' : T AV} {dst : Option Tmp} {v : AV} (h : putA nt env dst v = some env') : (∀ d, dst = some d → d < nt) ∧ ∀ t u, env'.get t = some u → (dst = some t ∧ u = v) ∨ (dst ≠ some t ∧ env.get t = some u) := by
  unfold putA at h
  split at h
  · simp only [Option.some.injEq] at h
    subst h
    exact ⟨fun d hd => (by cases hd), fun t u hu => .inr ⟨(by intro h; cases h), hu⟩⟩
  · rename_i d
    split at h <;> first | (cases h; done) | skip
    rename_i hlt
    simp only [Option.some.injEq] at h
    subst h
    refine ⟨fun d' hd => by cases hd; simpa using hlt, fun t u hu => ?_⟩
    rcases T.get_put hu with ⟨h1, h2⟩ | ⟨h1, h2⟩
    · subst h1
      cases h2
      exact .inl ⟨rfl, rfl⟩
    · exact .inr ⟨fun he => h1 (by cases he; rfl), h2⟩
omit [Nums] in
/-- one more operation -/
theorem val_snoc {p : List Rk} {r : Rk} {o : Oper} {env env' : T AV} (hi : ops[p.length]? = some o) (he : ∀ t v, env.get t = some v → Val ops env0 p (below p.length) t v)
    (hp : ∀ t u, env'.get t = some u → (o.dst = some t ∧ u = r.res) ∨ (o.dst ≠ some t ∧ env.get t = some u)) : ∀ t v, env'.get t = some v → Val ops env0 (p ++ [r]) (below (p ++ [r]).length) t v := by
  intro t v hv
  have hd : dstAt ops p.length = o.dst := by simp [dstAt, hi]
  have hlen : (p ++ [r]).length = p.length + 1 := by simp
  rcases hp t v hv with ⟨h1, h2⟩ | ⟨h1, h2⟩
  · refine .inl ⟨p.length, r, by simp [below], by rw [hd, h1], by simp, h2, fun j hj _ => ?_⟩
    simp [below] at hj
    omega
  · rcases he t v h2 with ⟨i, r', h3, h4, h5, h6, h7⟩ | ⟨h3, h4⟩
    · have hil : i < p.length := by simpa [below] using h3
      refine .inl ⟨i, r', by simp [below]; omega, h4, by rw [List.getElem?_append_left hil]; exact h5, h6, fun j hj hj' => ?_⟩
      simp [below] at hj
      by_cases hjp : j = p.length
      · subst hjp
        rw [hd] at hj'
        exact absurd hj' h1
      · exact h7 j (by simp [below]; omega) hj'
    · refine .inr ⟨fun j hj hj' => ?_, h4⟩
      simp [below] at hj
      by_cases hjp : j = p.length
      · subst hjp
        rw [hd] at hj'
        exact h1 hj'
      · exact h3 j (by simp [below]; omega) hj'
omit [Nums] in
theorem snoc_get {p : List Rk} {r x : Rk} {i : Nat} : (p ++ [r])[i]? = some x ↔ p[i]? = some x ∨ (i = p.length ∧ r = x) := by
  by_cases h : i < p.length
  · rw [List.getElem?_append_left h]
    exact ⟨.inl, fun h' => h'.elim id fun h' => by omega⟩
  · rw [List.getElem?_append_right (by omega), List.getElem?_eq_none (l := p) (by omega)]
    by_cases h2 : i = p.length
    · subst h2; simp
    · have : i - p.length = (i - p.length - 1) + 1 := by omega
      rw [this]
      simp [h2]
theorem regD_facts {rsF : List Rk} {envF : T AV} {hF : AH} {consF : Nat} {alF : List (Nat × AO)} : ∀ (l : List Oper) (env : T AV) (h : AH) (cons : Nat) (al : List (Nat × AO)) (rs : List Rk),
    regD P call nt ops b base rs.length l env h cons al rs = some (rsF, envF, hF, consF, alF) → (∀ k, l[k]? = ops[rs.length + k]?) → InvR ops b env0 h0 rs.reverse env h cons al →
    ∃ tail, rsF = rs.reverse ++ tail ∧ tail.length = l.length ∧ InvR ops b env0 h0 rsF envF hF consF alF ∧
      ∀ (k : Nat) r o, tail[k]? = some r → l[k]? = some o → FactAt P call nt ops b base env0 h0 (rs.reverse ++ tail.take k) o (rs.length + k) r
  | [], env, h, cons, al, rs, hd, _, hI => by
    simp only [regD, Option.some.injEq, Prod.mk.injEq] at hd
    obtain ⟨rfl, rfl, rfl, rfl, rfl⟩ := hd
    exact ⟨[], by simp, rfl, hI, by simp⟩
  | o :: l, env, h, cons, al, rs, hd, hl, hI => by
    have ho : ops[rs.reverse.length]? = some o := by simpa using (hl 0).symm
    have hl' : ∀ r, ∀ k, l[k]? = ops[(r :: rs : List Rk).length + k]? := fun r k => by
      have := hl (k + 1)
      rw [List.getElem?_cons_succ] at this
      rw [this]
      congr 1
      simp only [List.length_cons]
      omega
    -- what the step gives
    have step : ∀ (r : Rk) (env' : T AV) (h' : AH) (cons' : Nat) (al' : List (Nat × AO)), InvR ops b env0 h0 (rs.reverse ++ [r]) env' h' cons' al' → FactAt P call nt ops b base env0 h0 rs.reverse o rs.length r →
        regD P call nt ops b base (Nat.add rs.length 1) l env' h' cons' al' (r :: rs) = some (rsF, envF, hF, consF, alF) →
        ∃ tail, rsF = rs.reverse ++ tail ∧ tail.length = (o :: l).length ∧ InvR ops b env0 h0 rsF envF hF consF alF ∧
          ∀ (k : Nat) r o', tail[k]? = some r → (o :: l)[k]? = some o' → FactAt P call nt ops b base env0 h0 (rs.reverse ++ tail.take k) o' (rs.length + k) r := by
      intro r env' h' cons' al' hI' hF' hd'
      obtain ⟨tail, h1, h2, h3, h4⟩ := regD_facts l env' h' cons' al' (r :: rs) hd' (hl' r) (by simpa using hI')
      refine ⟨r :: tail, by rw [h1]; simp, by simp [h2], h3, fun k r' o' hk ho' => ?_⟩
      cases k with
      | zero =>
        simp at hk ho'
        subst hk; subst ho'
        simpa using hF'
      | succ k =>
        have := h4 k r' o' (by simpa using hk) (by simpa using ho')
        simp only [List.reverse_cons, List.append_assoc, List.singleton_append, List.length_cons] at this
        rw [show rs.length + (k + 1) = rs.length + 1 + k from by omega]
        simpa using this
    unfold regD at hd
    split at hd <;> first | (cases hd; done) | skip
    · rename_i hgd
      split at hd <;> first | (cases hd; done) | skip
      rename_i env' hput
      obtain ⟨hdb, hpv⟩ := putA_spec hput
      refine step .skip env' h cons al ⟨val_snoc ho hI.env hpv, ?_, ?_, ?_⟩ ⟨env, h, cons, al, hI, hdb, .inl ⟨hgd, rfl⟩⟩ hd
      · rw [heapOf_append, hI.heap]; rfl
      · intro a
        rw [hI.cons]
        constructor
        · rintro ⟨q, v, hh, h1, h2⟩
          exact ⟨q, v, hh, snoc_get.2 (.inl h1), h2⟩
        · rintro ⟨q, v, hh, h1, h2⟩
          rcases snoc_get.1 h1 with h1 | ⟨_, h1⟩
          · exact ⟨q, v, hh, h1, h2⟩
          · cases h1
      · intro a ao
        rw [hI.al]
        constructor
        · rintro ⟨v, h1⟩
          exact ⟨v, snoc_get.2 (.inl h1)⟩
        · rintro ⟨v, h1⟩
          rcases snoc_get.1 h1 with h1 | ⟨_, h1⟩
          · exact ⟨v, h1⟩
          · cases h1
    · rename_i hgd
      split at hd <;> first | (cases hd; done) | skip
      rename_i vs hvs
      split at hd <;> first | (cases hd; done) | skip
      rename_i r h' cons' al' hk
      split at hd <;> first | (cases hd; done) | skip
      rename_i env' hput
      obtain ⟨hdb, hpv⟩ := putA_spec hput
      have inv : ∀ (r' : Rk), (∀ t u, env'.get t = some u → (o.dst = some t ∧ u = r'.res) ∨ (o.dst ≠ some t ∧ env.get t = some u)) → isL r' = false → (∀ ao v, r' ≠ .alloc ao v) → InvR ops b env0 h0 (rs.reverse ++ [r']) env' h cons al := by
        intro r' hpv' hnl hna
        refine ⟨val_snoc ho hI.env hpv', ?_, ?_, ?_⟩
        · rw [heapOf_append, ← hI.heap, heapOf_none (by simpa using hnl)]
        · intro a
          rw [hI.cons]
          constructor
          · rintro ⟨q, v, hh, h1, h2⟩
            exact ⟨q, v, hh, snoc_get.2 (.inl h1), h2⟩
          · rintro ⟨q, v, hh, h1, h2⟩
            rcases snoc_get.1 h1 with h1 | ⟨_, h1⟩
            · exact ⟨q, v, hh, h1, h2⟩
            · subst h1; cases hnl
        · intro a ao
          rw [hI.al]
          constructor
          · rintro ⟨v, h1⟩
            exact ⟨v, snoc_get.2 (.inl h1)⟩
          · rintro ⟨v, h1⟩
            rcases snoc_get.1 h1 with h1 | ⟨_, h1⟩
            · exact ⟨v, h1⟩
            · exact absurd h1 (hna _ _)
      cases hkd : kd o.op with
      | pure =>
        rw [hkd] at hk
        dsimp only at hk
        split at hk <;> first | (cases hk; done) | skip
        rename_i v hv
        simp only [Option.some.injEq, Prod.mk.injEq] at hk
        obtain ⟨rfl, rfl, rfl, rfl⟩ := hk
        exact step _ env' h cons al (inv _ hpv rfl (by intro _ _ h; cases h)) ⟨env, h, cons, al, hI, hdb, .inr ⟨hgd, vs, hvs, by unfold KF; rw [hkd]; exact ⟨v, hv, rfl⟩⟩⟩ hd
      | read =>
        rw [hkd] at hk
        dsimp only at hk
        split at hk <;> first | (cases hk; done) | skip
        rename_i v hv
        simp only [Option.some.injEq, Prod.mk.injEq] at hk
        obtain ⟨rfl, rfl, rfl, rfl⟩ := hk
        exact step _ env' h cons al (inv _ hpv rfl (by intro _ _ h; cases h)) ⟨env, h, cons, al, hI, hdb, .inr ⟨hgd, vs, hvs, by unfold KF; rw [hkd]; exact ⟨v, rfl⟩⟩⟩ hd
      | alloc =>
        rw [hkd] at hk
        dsimp only at hk
        split at hk <;> first | (cases hk; done) | skip
        rename_i ao k hv
        simp only [Option.some.injEq, Prod.mk.injEq] at hk
        obtain ⟨rfl, rfl, rfl, rfl⟩ := hk
        refine step _ env' h cons _ ⟨val_snoc ho hI.env hpv, ?_, ?_, ?_⟩ ⟨env, h, cons, al, hI, hdb, .inr ⟨hgd, vs, hvs, by unfold KF; rw [hkd]; exact ⟨ao, k, hv, rfl⟩⟩⟩ hd
        · rw [heapOf_append, ← hI.heap]; rfl
        · intro a
          rw [hI.cons]
          constructor
          · rintro ⟨q, v, hh, h1, h2⟩
            exact ⟨q, v, hh, snoc_get.2 (.inl h1), h2⟩
          · rintro ⟨q, v, hh, h1, h2⟩
            rcases snoc_get.1 h1 with h1 | ⟨_, h1⟩
            · exact ⟨q, v, hh, h1, h2⟩
            · cases h1
        · intro a ao'
          rw [List.mem_cons, hI.al]
          constructor
          · rintro (h1 | ⟨v, h1⟩)
            · cases h1
              exact ⟨_, snoc_get.2 (.inr ⟨by simp, rfl⟩)⟩
            · exact ⟨v, snoc_get.2 (.inl h1)⟩
          · rintro ⟨v, h1⟩
            rcases snoc_get.1 h1 with h1 | ⟨h0, h1⟩
            · exact .inr ⟨v, h1⟩
            · cases h1
              left
              rw [h0]
              simp
      | loud =>
        rw [hkd] at hk
        dsimp only at hk
        split at hk <;> first | (cases hk; done) | skip
        rename_i v h1 hv
        simp only [Option.some.injEq, Prod.mk.injEq] at hk
        obtain ⟨rfl, rfl, rfl, rfl⟩ := hk
        refine step _ env' _ _ al ⟨val_snoc ho hI.env hpv, ?_, ?_, ?_⟩ ⟨env, h, cons, al, hI, hdb, .inr ⟨hgd, vs, hvs, by unfold KF; rw [hkd]; exact ⟨v, _, rfl, hv⟩⟩⟩ hd
        · rw [heapOf_append]; rfl
        · intro a
          rw [Nat.testBit_or, Bool.or_eq_true, hI.cons]
          constructor
          · rintro (⟨q, v, hh, h1, h2⟩ | h1)
            · exact ⟨q, v, hh, snoc_get.2 (.inl h1), h2⟩
            · exact ⟨rs.length, _, _, snoc_get.2 (.inr ⟨by simp, rfl⟩), h1⟩
          · rintro ⟨q, v, hh, h1, h2⟩
            rcases snoc_get.1 h1 with h1 | ⟨h3, h1⟩
            · exact .inl ⟨q, v, hh, h1, h2⟩
            · right
              rw [h3, List.length_reverse] at h2
              exact h2
        · intro a ao
          rw [hI.al]
          constructor
          · rintro ⟨v, h1⟩
            exact ⟨v, snoc_get.2 (.inl h1)⟩
          · rintro ⟨v, h1⟩
            rcases snoc_get.1 h1 with h1 | ⟨_, h1⟩
            · exact ⟨v, h1⟩
            · cases h1
end
end Go.Proofs.Ytigakendeghoaaa.Ex
