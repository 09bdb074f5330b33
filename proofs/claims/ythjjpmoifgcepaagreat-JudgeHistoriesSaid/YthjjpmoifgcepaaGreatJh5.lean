/-
  Texts of this claim, joined. No condition.
-/
import Derived.Test.YthjjpmoifgcepaaGreatJh4
import Derived.Orders
/-
  The runner: a region that draws its order: what was found in the order of the text. No condition.
-/
namespace Go.Proofs.YthjjpmoifgcepaaGreat.Ex
open Go
variable [Nums]
/-- slots against named values -/
structure ER (ρ : Ren) (env : T AV) (nt : Nat) (a : Act) : Prop where
  dz : a.defers = []
  size : a.tmps.size = nt
  val : ∀ t v, env.get t = some v → ∃ x, a.tmps[t]? = some x ∧ VR ρ v x
/-- an operation's place in the table -/
def dstAt (ops : Array Oper) (i : Nat) : Option Tmp := (ops[i]?).bind (·.dst)
/-- what a slot holds when the listed operations are done -/
def Val (ops : Array Oper) (env : T AV) (rs : List Rk) (L : Nat → Bool) (t : Nat) (v : AV) : Prop :=
  (∃ i r, L i = true ∧ dstAt ops i = some t ∧ rs[i]? = some r ∧ v = r.res ∧ ∀ j, L j = true → dstAt ops j = some t → j ≤ i) ∨ ((∀ j, L j = true → dstAt ops j ≠ some t) ∧ env.get t = some v)
def below (n : Nat) : Nat → Bool := fun j => decide (j < n)
def isL : Rk → Bool
  | .loud _ _ => true
  | _ => false
def heapOf (h0 : AH) : List Rk → AH
  | [] => h0
  | .loud _ h :: l => heapOf h l
  | _ :: l => heapOf h0 l
/-- which blocks of the region lie in memory by now -/
def ConsP (b : T Nat) (rs : List Rk) (a : Nat) : Prop := ∃ l v h, rs[l]? = some (.loud v h) ∧ ahead b a l = true
omit [Nums] in
theorem heapOf_append (h0 : AH) : ∀ (p q : List Rk), heapOf h0 (p ++ q) = heapOf (heapOf h0 p) q
  | [], _ => rfl
  | .loud _ h :: p, q => heapOf_append h p q
  | .skip :: p, q => heapOf_append h0 p q
  | .val _ :: p, q => heapOf_append h0 p q
  | .alloc _ _ :: p, q => heapOf_append h0 p q
omit [Nums] in
theorem heapOf_none {h0 : AH} : ∀ {q : List Rk}, (∀ r ∈ q, isL r = false) → heapOf h0 q = h0
  | [], _ => rfl
  | .loud _ _ :: _, h => by have := h _ List.mem_cons_self; cases this
  | .skip :: q, h => by simp only [heapOf]; exact heapOf_none fun r hr => h r (List.mem_cons_of_mem _ hr)
  | .val _ :: q, h => by simp only [heapOf]; exact heapOf_none fun r hr => h r (List.mem_cons_of_mem _ hr)
  | .alloc _ _ :: q, h => by simp only [heapOf]; exact heapOf_none fun r hr => h r (List.mem_cons_of_mem _ hr)
omit [Nums] in
theorem overlay_spec {base : Nat} {see : Nat → Bool} : ∀ {al : List (Nat × AO)} {h : AH} {m : Nat} {o : AO}, (overlay base see al h).get m = some o → (∃ a, see a = true ∧ (a, o) ∈ al ∧ m = base + a) ∨ h.get m = some o
  | [], h, m, o, hg => .inr hg
  | (a, o') :: al, h, m, o, hg => by
    unfold overlay at hg
    split at hg
    · rename_i hs
      rcases put_spec hg with ⟨h1, h2⟩ | ⟨_, h2⟩
      · cases h2
        exact .inl ⟨a, hs, List.mem_cons_self, h1⟩
      · rcases overlay_spec h2 with ⟨a', h3, h4, h5⟩ | h3
        · exact .inl ⟨a', h3, List.mem_cons_of_mem _ h4, h5⟩
        · exact .inr h3
    · rcases overlay_spec hg with ⟨a', h3, h4, h5⟩ | h3
      · exact .inl ⟨a', h3, List.mem_cons_of_mem _ h4, h5⟩
      · exact .inr h3
omit [Nums] in
theorem overlay_next {base : Nat} {see : Nat → Bool} : ∀ {al : List (Nat × AO)} {h : AH}, (overlay base see al h).next = h.next
  | [], _ => rfl
  | (a, o') :: al, h => by
    unfold overlay
    split
    · rw [put_next]; exact overlay_next
    · exact overlay_next
/-- where the runner stands behind some operations -/
structure InvR (ops : Array Oper) (b : T Nat) (env0 : T AV) (h0 : AH) (p : List Rk) (env : T AV) (h : AH) (cons : Nat) (al : List (Nat × AO)) : Prop where
  env : ∀ t v, env.get t = some v → Val ops env0 p (below p.length) t v
  heap : h = heapOf h0 p
  cons : ∀ a, cons.testBit a = true ↔ ConsP b p a
  al : ∀ a ao, (a, ao) ∈ al ↔ ∃ v, p[a]? = some (.alloc ao v)
section
variable (P : Program) (call : FuncId → List AV → AH → Option (AV × AH)) (nt : Nat) (ops : Array Oper) (b : T Nat) (base : Nat) (env0 : T AV) (h0 : AH)
def KF (o : Oper) (i : Nat) (vs : List AV) (h : AH) (cons : Nat) (al : List (Nat × AO)) (r : Rk) : Prop := match kd o.op with
  | .pure => ∃ v, apure P o.op vs = some v ∧ r = .val v
  | .read => ∃ v, r = .val v
  | .alloc => ∃ ao k, aalloc P o.op vs = some (ao, k) ∧ r = .alloc ao (k.at (base + i))
  | .loud => ∃ v h', r = .loud v h' ∧ opA P call o.op vs (overlay base (fun a => ahead b a i && !(cons.testBit a)) al h) = some (v, h')
def FactAt (p : List Rk) (o : Oper) (i : Nat) (r : Rk) : Prop :=
  ∃ env h cons al, InvR ops b env0 h0 p env h cons al ∧ (∀ d, o.dst = some d → d < nt) ∧
    ((guardA ops o env = some false ∧ r = .skip) ∨ (guardA ops o env = some true ∧ ∃ vs, evs env o.op.operands.toList = some vs ∧ KF P call b base o i vs h cons al r))
end
section
variable {P : Program} {call : FuncId → List AV → AH → Option (AV × AH)} {nt : Nat} {ops : Array Oper} {b : T Nat} {base : Nat} {env0 : T AV} {h0 : AH}
omit [Nums] in
theorem putA_spec {nt : Nat} {env env' : T AV} {dst : Option Tmp} {v : AV} (h : putA nt env dst v = some env') : (∀ d, dst = some d → d < nt) ∧ ∀ t u, env'.get t = some u → (dst = some t ∧ u = v) ∨ (dst ≠ some t ∧ env.get t = some u) := by
  unfold putA at h
  split at h
  · simp only [Option.some.injEq] at h
    subst h
    exact ⟨fun d hd => (by cases hd), fun t u hu => .inr ⟨(by intro h; cases h), hu⟩⟩
  · rename_i d
    split at h <;> first | (cases h; done) | skip
    rename_i hlt
    simp only [Option.some.injEq] at h
    subst h
    refine ⟨fun d' hd => by cases hd; simpa using hlt, fun t u hu => ?_⟩
    rcases T.get_put hu with ⟨h1, h2⟩ | ⟨h1, h2⟩
    · subst h1
      cases h2
      exact .inl ⟨rfl, rfl⟩
    · exact .inr ⟨fun he => h1 (by cases he; rfl), h2⟩
omit [Nums] in
/-- one more operation -/
theorem val_snoc {p : List Rk} {r : Rk} {o : Oper} {env env' : T AV} (hi : ops[p.length]? = some o) (he : ∀ t v, env.get t = some v → Val ops env0 p (below p.length) t v)
    (hp : ∀ t u, env'.get t = some u → (o.dst = some t ∧ u = r.res) ∨ (o.dst ≠ some t ∧ env.get t = some u)) : ∀ t v, env'.get t = some v → Val ops env0 (p ++ [r]) (below (p ++ [r]).length) t v := by
  intro t v hv
  have hd : dstAt ops p.length = o.dst := by simp [dstAt, hi]
  have hlen : (p ++ [r]).length = p.length + 1 := by simp
  rcases hp t v hv with ⟨h1, h2⟩ | ⟨h1, h2⟩
  · refine .inl ⟨p.length, r, by simp [below], by rw [hd, h1], by simp, h2, fun j hj _ => ?_⟩
    simp [below] at hj
    omega
  · rcases he t v h2 with ⟨i, r', h3, h4, h5, h6, h7⟩ | ⟨h3, h4⟩
    · have hil : i < p.length := by simpa [below] using h3
      refine .inl ⟨i, r', by simp [below]; omega, h4, by rw [List.getElem?_append_left hil]; exact h5, h6, fun j hj hj' => ?_⟩
      simp [below] at hj
      by_cases hjp : j = p.length
      · subst hjp
        rw [hd] at hj'
        exact absurd hj' h1
      · exact h7 j (by simp [below]; omega) hj'
    · refine .inr ⟨fun j hj hj' => ?_, h4⟩
      simp [below] at hj
      by_cases hjp : j = p.length
      · subst hjp
        rw [hd] at hj'
        exact h1 hj'
      · exact h3 j (by simp [below]; omega) hj'
omit [Nums] in
theorem snoc_get {p : List Rk} {r x : Rk} {i : Nat} : (p ++ [r])[i]? = some x ↔ p[i]? = some x ∨ (i = p.length ∧ r = x) := by
  by_cases h : i < p.length
  · rw [List.getElem?_append_left h]
    exact ⟨.inl, fun h' => h'.elim id fun h' => by omega⟩
  · rw [List.getElem?_append_right (by omega), List.getElem?_eq_none (l := p) (by omega)]
    by_cases h2 : i = p.length
    · subst h2; simp
    · have : i - p.length = (i - p.length - 1) + 1 := by omega
      rw [this]
      simp [h2]
theorem regD_facts {rsF : List Rk} {envF : T AV} {hF : AH} {consF : Nat} {alF : List (Nat × AO)} : ∀ (l : List Oper) (env : T AV) (h : AH) (cons : Nat) (al : List (Nat × AO)) (rs : List Rk),
    regD P call nt ops b base rs.length l env h cons al rs = some (rsF, envF, hF, consF, alF) → (∀ k, l[k]? = ops[rs.length + k]?) → InvR ops b env0 h0 rs.reverse env h cons al →
    ∃ tail, rsF = rs.reverse ++ tail ∧ tail.length = l.length ∧ InvR ops b env0 h0 rsF envF hF consF alF ∧
      ∀ (k : Nat) r o, tail[k]? = some r → l[k]? = some o → FactAt P call nt ops b base env0 h0 (rs.reverse ++ tail.take k) o (rs.length + k) r
  | [], env, h, cons, al, rs, hd, _, hI => by
    simp only [regD, Option.some.injEq, Prod.mk.injEq] at hd
    obtain ⟨rfl, rfl, rfl, rfl, rfl⟩ := hd
    exact ⟨[], by simp, rfl, hI, by simp⟩
  | o :: l, env, h, cons, al, rs, hd, hl, hI => by
    have ho : ops[rs.reverse.length]? = some o := by simpa using (hl 0).symm
    have hl' : ∀ r, ∀ k, l[k]? = ops[(r :: rs : List Rk).length + k]? := fun r k => by
      have := hl (k + 1)
      rw [List.getElem?_cons_succ] at this
      rw [this]
      congr 1
      simp only [List.length_cons]
      omega
    -- what the step gives
    have step : ∀ (r : Rk) (env' : T AV) (h' : AH) (cons' : Nat) (al' : List (Nat × AO)), InvR ops b env0 h0 (rs.reverse ++ [r]) env' h' cons' al' → FactAt P call nt ops b base env0 h0 rs.reverse o rs.length r →
        regD P call nt ops b base (Nat.add rs.length 1) l env' h' cons' al' (r :: rs) = some (rsF, envF, hF, consF, alF) →
        ∃ tail, rsF = rs.reverse ++ tail ∧ tail.length = (o :: l).length ∧ InvR ops b env0 h0 rsF envF hF consF alF ∧
          ∀ (k : Nat) r o', tail[k]? = some r → (o :: l)[k]? = some o' → FactAt P call nt ops b base env0 h0 (rs.reverse ++ tail.take k) o' (rs.length + k) r := by
      intro r env' h' cons' al' hI' hF' hd'
      obtain ⟨tail, h1, h2, h3, h4⟩ := regD_facts l env' h' cons' al' (r :: rs) hd' (hl' r) (by simpa using hI')
      refine ⟨r :: tail, by rw [h1]; simp, by simp [h2], h3, fun k r' o' hk ho' => ?_⟩
      cases k with
      | zero =>
        simp at hk ho'
        subst hk; subst ho'
        simpa using hF'
      | succ k =>
        have := h4 k r' o' (by simpa using hk) (by simpa using ho')
        simp only [List.reverse_cons, List.append_assoc, List.singleton_append, List.length_cons] at this
        rw [show rs.length + (k + 1) = rs.length + 1 + k from by omega]
        simpa using this
    unfold regD at hd
    split at hd <;> first | (cases hd; done) | skip
    · rename_i hgd
      split at hd <;> first | (cases hd; done) | skip
      rename_i env' hput
      obtain ⟨hdb, hpv⟩ := putA_spec hput
      refine step .skip env' h cons al ⟨val_snoc ho hI.env hpv, ?_, ?_, ?_⟩ ⟨env, h, cons, al, hI, hdb, .inl ⟨hgd, rfl⟩⟩ hd
      · rw [heapOf_append, hI.heap]; rfl
      · intro a
        rw [hI.cons]
        constructor
        · rintro ⟨q, v, hh, h1, h2⟩
          exact ⟨q, v, hh, snoc_get.2 (.inl h1), h2⟩
        · rintro ⟨q, v, hh, h1, h2⟩
          rcases snoc_get.1 h1 with h1 | ⟨_, h1⟩
          · exact ⟨q, v, hh, h1, h2⟩
          · cases h1
      · intro a ao
        rw [hI.al]
        constructor
        · rintro ⟨v, h1⟩
          exact ⟨v, snoc_get.2 (.inl h1)⟩
        · rintro ⟨v, h1⟩
          rcases snoc_get.1 h1 with h1 | ⟨_, h1⟩
          · exact ⟨v, h1⟩
          · cases h1
    · rename_i hgd
      split at hd <;> first | (cases hd; done) | skip
      rename_i vs hvs
      split at hd <;> first | (cases hd; done) | skip
      rename_i r h' cons' al' hk
      split at hd <;> first | (cases hd; done) | skip
      rename_i env' hput
      obtain ⟨hdb, hpv⟩ := putA_spec hput
      have inv : ∀ (r' : Rk), (∀ t u, env'.get t = some u → (o.dst = some t ∧ u = r'.res) ∨ (o.dst ≠ some t ∧ env.get t = some u)) → isL r' = false → (∀ ao v, r' ≠ .alloc ao v) → InvR ops b env0 h0 (rs.reverse ++ [r']) env' h cons al := by
        intro r' hpv' hnl hna
        refine ⟨val_snoc ho hI.env hpv', ?_, ?_, ?_⟩
        · rw [heapOf_append, ← hI.heap, heapOf_none (by simpa using hnl)]
        · intro a
          rw [hI.cons]
          constructor
          · rintro ⟨q, v, hh, h1, h2⟩
            exact ⟨q, v, hh, snoc_get.2 (.inl h1), h2⟩
          · rintro ⟨q, v, hh, h1, h2⟩
            rcases snoc_get.1 h1 with h1 | ⟨_, h1⟩
            · exact ⟨q, v, hh, h1, h2⟩
            · subst h1; cases hnl
        · intro a ao
          rw [hI.al]
          constructor
          · rintro ⟨v, h1⟩
            exact ⟨v, snoc_get.2 (.inl h1)⟩
          · rintro ⟨v, h1⟩
            rcases snoc_get.1 h1 with h1 | ⟨_, h1⟩
            · exact ⟨v, h1⟩
            · exact absurd h1 (hna _ _)
      cases hkd : kd o.op with
      | pure =>
        rw [hkd] at hk
        dsimp only at hk
        split at hk <;> first | (cases hk; done) | skip
        rename_i v hv
        simp only [Option.some.injEq, Prod.mk.injEq] at hk
        obtain ⟨rfl, rfl, rfl, rfl⟩ := hk
        exact step _ env' h cons al (inv _ hpv rfl (by intro _ _ h; cases h)) ⟨env, h, cons, al, hI, hdb, .inr ⟨hgd, vs, hvs, by unfold KF; rw [hkd]; exact ⟨v, hv, rfl⟩⟩⟩ hd
      | read =>
        rw [hkd] at hk
        dsimp only at hk
        split at hk <;> first | (cases hk; done) | skip
        rename_i v hv
        simp only [Option.some.injEq, Prod.mk.injEq] at hk
        obtain ⟨rfl, rfl, rfl, rfl⟩ := hk
        exact step _ env' h cons al (inv _ hpv rfl (by intro _ _ h; cases h)) ⟨env, h, cons, al, hI, hdb, .inr ⟨hgd, vs, hvs, by unfold KF; rw [hkd]; exact ⟨v, rfl⟩⟩⟩ hd
      | alloc =>
        rw [hkd] at hk
        dsimp only at hk
        split at hk <;> first | (cases hk; done) | skip
        rename_i ao k hv
        simp only [Option.some.injEq, Prod.mk.injEq] at hk
        obtain ⟨rfl, rfl, rfl, rfl⟩ := hk
        refine step _ env' h cons _ ⟨val_snoc ho hI.env hpv, ?_, ?_, ?_⟩ ⟨env, h, cons, al, hI, hdb, .inr ⟨hgd, vs, hvs, by unfold KF; rw [hkd]; exact ⟨ao, k, hv, rfl⟩⟩⟩ hd
        · rw [heapOf_append, ← hI.heap]; rfl
        · intro a
          rw [hI.cons]
          constructor
          · rintro ⟨q, v, hh, h1, h2⟩
            exact ⟨q, v, hh, snoc_get.2 (.inl h1), h2⟩
          · rintro ⟨q, v, hh, h1, h2⟩
            rcases snoc_get.1 h1 with h1 | ⟨_, h1⟩
            · exact ⟨q, v, hh, h1, h2⟩
            · cases h1
        · intro a ao'
          rw [List.mem_cons, hI.al]
          constructor
          · rintro (h1 | ⟨v, h1⟩)
            · cases h1
              exact ⟨_, snoc_get.2 (.inr ⟨by simp, rfl⟩)⟩
            · exact ⟨v, snoc_get.2 (.inl h1)⟩
          · rintro ⟨v, h1⟩
            rcases snoc_get.1 h1 with h1 | ⟨h0, h1⟩
            · exact .inr ⟨v, h1⟩
            · cases h1
              left
              rw [h0]
              simp
      | loud =>
        rw [hkd] at hk
        dsimp only at hk
        split at hk <;> first | (cases hk; done) | skip
        rename_i v h1 hv
        simp only [Option.some.injEq, Prod.mk.injEq] at hk
        obtain ⟨rfl, rfl, rfl, rfl⟩ := hk
        refine step _ env' _ _ al ⟨val_snoc ho hI.env hpv, ?_, ?_, ?_⟩ ⟨env, h, cons, al, hI, hdb, .inr ⟨hgd, vs, hvs, by unfold KF; rw [hkd]; exact ⟨v, _, rfl, hv⟩⟩⟩ hd
        · rw [heapOf_append]; rfl
        · intro a
          rw [Nat.testBit_or, Bool.or_eq_true, hI.cons]
          constructor
          · rintro (⟨q, v, hh, h1, h2⟩ | h1)
            · exact ⟨q, v, hh, snoc_get.2 (.inl h1), h2⟩
            · exact ⟨rs.length, _, _, snoc_get.2 (.inr ⟨by simp, rfl⟩), h1⟩
          · rintro ⟨q, v, hh, h1, h2⟩
            rcases snoc_get.1 h1 with h1 | ⟨h3, h1⟩
            · exact .inl ⟨q, v, hh, h1, h2⟩
            · right
              rw [h3, List.length_reverse] at h2
              exact h2
        · intro a ao
          rw [hI.al]
          constructor
          · rintro ⟨v, h1⟩
            exact ⟨v, snoc_get.2 (.inl h1)⟩
          · rintro ⟨v, h1⟩
            rcases snoc_get.1 h1 with h1 | ⟨_, h1⟩
            · exact ⟨v, h1⟩
            · cases h1
end
end Go.Proofs.YthjjpmoifgcepaaGreat.Ex

/-
  The runner: a region that draws its order: what was checked of it. No condition.
-/
namespace Go.Proofs.YthjjpmoifgcepaaGreat.Ex
open Go
mutual
theorem AV.beq_eq : ∀ {a b : AV}, AV.beq a b = true → a = b
  | .bool a, b, h => by cases b <;> simp [AV.beq] at h; rw [h]
  | .int k a, b, h => by cases b <;> simp [AV.beq] at h; rw [h.1, h.2]
  | .sym k e, b, h => by cases b <;> simp [AV.beq] at h; rw [h.1, SE.beq_eq h.2]
  | .bsym c p, b, h => by cases b <;> simp [AV.beq] at h; rw [Cnd.beq_eq h.1, h.2]
  | .eptr n e s j, b, h => by cases b <;> simp [AV.beq] at h; rw [h.1.1, SE.beq_eq h.1.2, h.2.1, h.2.2]
  | .dsl n e s, b, h => by cases b <;> simp [AV.beq] at h; rw [h.1, SE.beq_eq h.2.1, h.2.2]
  | .ssl n e l s, b, h => by cases b <;> simp [AV.beq] at h; rw [h.1.1, SE.beq_eq h.1.2, h.2.1, h.2.2]
  | .rsl i, b, h => by cases b <;> simp [AV.beq] at h; rw [h]
  | .rptr i e, b, h => by cases b <;> simp [AV.beq] at h; rw [h.1, SE.beq_eq h.2]
  | .str _, b, h => by cases b <;> simp [AV.beq] at h
  | .nilp, b, h => by cases b <;> simp [AV.beq] at h; rfl
  | .ptr n o, b, h => by
    cases b <;> simp [AV.beq] at h
    rw [h.1, h.2]
  | .gptr n o, b, h => by
    cases b <;> simp [AV.beq] at h
    rw [h.1, h.2]
  | .nilsl, b, h => by cases b <;> simp [AV.beq] at h; rfl
  | .sl n o l s r, b, h => by
    cases b <;> simp [AV.beq] at h
    obtain ⟨h1, h2, h3, h4, h5⟩ := h
    rename_i n' o' l' s' r'
    have : r = r' := by
      cases r <;> cases r' <;> first | rfl | (cases h5; done) | skip
      simp at h5
      rw [h5]
    rw [h1, h2, h3, h4, this]
  | .esl n, b, h => by cases b <;> simp [AV.beq] at h; rw [h]
  | .zsl, b, h => by cases b <;> simp [AV.beq] at h; rfl
  | .osl e, b, h => by cases b <;> simp [AV.beq] at h; rw [SE.beq_eq h]
  | .nilmap, b, h => by cases b <;> simp [AV.beq] at h; rfl
  | .map n, b, h => by cases b <;> simp [AV.beq] at h; rw [h]
  | .fn f x y, b, h => by
    cases b with
    | fn f' x' y' =>
      cases f <;> cases f' <;> simp [AV.beq] at h
      obtain ⟨h1, h2, h3⟩ := h
      rw [h1, AV.beqs_eq h2, AV.beqs_eq h3]
    | _ => cases f <;> simp [AV.beq] at h
  | .nilfn, b, h => by cases b <;> simp [AV.beq] at h; rfl
  | .nilif, b, h => by cases b <;> simp [AV.beq] at h; rfl
  | .ifc _ _, b, h => by cases b <;> simp [AV.beq] at h
  | .agg l, b, h => by
    cases b <;> simp [AV.beq] at h
    rw [AV.beqs_eq h]
  | .tup l, b, h => by
    cases b <;> simp [AV.beq] at h
    rw [AV.beqs_eq h]
theorem AV.beqs_eq : ∀ {a b : List AV}, AV.beqs a b = true → a = b
  | [], b, h => by cases b <;> simp [AV.beqs] at h; rfl
  | x :: a, b, h => by
    cases b with
    | nil => simp [AV.beqs] at h
    | cons y b =>
      simp [AV.beqs] at h
      rw [AV.beq_eq h.1, AV.beqs_eq h.2]
end
variable [Nums]
section
variable {P : Program} {call : FuncId → List AV → AH → Option (AV × AH)} {nt : Nat} {ops : Array Oper} {b : T Nat} {base : Nat} {env0 : T AV} {h0 : AH}
omit [Nums] in
theorem take_get {α : Type} {l : List α} {n i : Nat} {x : α} : (l.take n)[i]? = some x ↔ i < n ∧ l[i]? = some x := by
  rw [List.getElem?_take]
  by_cases h : i < n <;> simp [h]
omit [Nums] in
theorem Val.ext {p q : List Rk} {n t : Nat} {v : AV} (h : Val ops env0 p (below n) t v) (he : ∀ i, i < n → p[i]? = q[i]?) : Val ops env0 q (below n) t v := by
  rcases h with ⟨i, r, h1, h2, h3, h4, h5⟩ | h
  · refine .inl ⟨i, r, h1, h2, ?_, h4, h5⟩
    rw [← he i (by simpa [below] using h1)]
    exact h3
  · exact .inr h
omit [Nums] in
theorem mayAt_ok {i j : Nat} : ∀ {rs : List Rk} {l : Nat}, (∀ (k : Nat) v h, rs[k]? = some (.loud v h) → (l + k < j → ahead b i (l + k) = false) ∧ (j ≤ l + k → ahead b (l + k) i = false)) → mayAt b i j l rs = true
  | [], _, _ => rfl
  | r :: rs, l, h => by
    have ih : mayAt b i j (Nat.add l 1) rs = true := mayAt_ok fun k v h' hk => by
      have := h (k + 1) v h' (by simpa using hk)
      have e : Nat.add l 1 + k = l + (k + 1) := by show l + 1 + k = _; omega
      rw [e]
      exact this
    cases r with
    | loud v h' =>
      have := h 0 v h' rfl
      rw [Nat.add_zero] at this
      unfold mayAt
      split
      · rename_i hlt
        rw [this.1 (by simpa using hlt)]
        exact ih
      · rename_i hlt
        rw [this.2 (by have := blt_no hlt; omega)]
        exact ih
    | skip => exact ih
    | val _ => exact ih
    | alloc _ _ => exact ih
def ReadAt (P : Program) (b : T Nat) (base : Nat) (h0 : AH) (all : List Rk) (al : List (Nat × AO)) (op : Op) (vs : List AV) (v : AV) (i j : Nat) : Prop :=
  mayAt b i j 0 all = true → ∃ c : Nat, (∀ a, c.testBit a = true ↔ ConsP b (all.take j) a) ∧ aread P op vs (overlay base (fun a => ahead b a i && !(c.testBit a)) al (heapOf h0 (all.take j))) = some v
theorem next_spec {all : List Rk} {al : List (Nat × AO)} {op : Op} {vs : List AV} {v : AV} {i : Nat} : ∀ (rs pre : List Rk) (cons : Nat), all = pre ++ rs → (∀ a, cons.testBit a = true ↔ ConsP b pre a) →
    sameNext P b base all al op vs v i pre.length (heapOf h0 pre) cons rs = true → ∀ (q : Nat) u h, pre.length ≤ q → all[q]? = some (.loud u h) → ReadAt P b base h0 all al op vs v i (q + 1)
  | [], pre, cons, he, hc, hn, q, u, h, hq, ha => by
    rw [he, List.append_nil, List.getElem?_eq_none hq] at ha
    cases ha
  | r :: rs, pre, cons, he, hc, hn, q, u, h, hq, ha => by
    have he' : all = (pre ++ [r]) ++ rs := by rw [he]; simp
    have hlen : (pre ++ [r]).length = pre.length + 1 := by simp
    have htake : all.take (pre.length + 1) = pre ++ [r] := by rw [he', List.take_left' hlen]
    have other : isL r = false → sameNext P b base all al op vs v i (pre.length + 1) (heapOf h0 pre) cons rs = true → ReadAt P b base h0 all al op vs v i (q + 1) := by
      intro hnl hn'
      have hc' : ∀ a, cons.testBit a = true ↔ ConsP b (pre ++ [r]) a := by
        intro a
        rw [hc]
        constructor
        · rintro ⟨l, v, h, h1, h2⟩
          exact ⟨l, v, h, snoc_get.2 (.inl h1), h2⟩
        · rintro ⟨l, v, h, h1, h2⟩
          rcases snoc_get.1 h1 with h1 | ⟨_, h1⟩
          · exact ⟨l, v, h, h1, h2⟩
          · subst h1; cases hnl
      refine next_spec rs (pre ++ [r]) cons he' hc' ?_ q u h ?_ ha
      · rw [hlen, heapOf_append, heapOf_none (q := [r]) (by simpa using hnl)]
        exact hn'
      · rw [hlen]
        rcases Nat.lt_or_ge pre.length q with h1 | h1
        · omega
        · have : q = pre.length := by omega
          rw [this, he, List.getElem?_append_right (Nat.le_refl _)] at ha
          simp at ha
          subst ha
          cases hnl
    cases r with
    | loud u' h' =>
      unfold sameNext at hn
      dsimp only at hn
      split at hn <;> first | (cases hn; done) | skip
      rename_i hcheck
      have hc' : ∀ a, (cons ||| bitsAt b pre.length).testBit a = true ↔ ConsP b (pre ++ [.loud u' h']) a := by
        intro a
        rw [Nat.testBit_or, Bool.or_eq_true, hc]
        constructor
        · rintro (⟨l, v, h, h1, h2⟩ | h1)
          · exact ⟨l, v, h, snoc_get.2 (.inl h1), h2⟩
          · exact ⟨pre.length, _, _, snoc_get.2 (.inr ⟨rfl, rfl⟩), h1⟩
        · rintro ⟨l, v, h, h1, h2⟩
          rcases snoc_get.1 h1 with h1 | ⟨h3, h1⟩
          · exact .inl ⟨l, v, h, h1, h2⟩
          · right
            rw [h3] at h2
            exact h2
      rcases Nat.lt_or_ge pre.length q with h1 | h1
      · refine next_spec rs (pre ++ [.loud u' h']) _ he' hc' ?_ q u h (by rw [hlen]; omega) ha
        rw [hlen, heapOf_append]
        exact hn
      · have hqe : q = pre.length := by omega
        subst hqe
        intro hmay
        refine ⟨cons ||| bitsAt b pre.length, ?_, ?_⟩
        · rw [htake]; exact hc'
        · rw [htake, heapOf_append]
          have hmay' : mayAt b i (Nat.add pre.length 1) 0 all = true := hmay
          unfold okAt at hcheck
          rw [hmay'] at hcheck
          dsimp only at hcheck
          split at hcheck <;> first | (cases hcheck; done) | skip
          rename_i u2 hu2
          have := AV.beq_eq hcheck
          subst this
          exact hu2
    | skip => exact other rfl hn
    | val _ => exact other rfl hn
    | alloc _ _ => exact other rfl hn
theorem sameAll_spec {all : List Rk} {al : List (Nat × AO)} {op : Op} {vs : List AV} {v : AV} {i : Nat} (h : sameAll P b base all al op vs v i h0 = true) (j : Nat) (hj : j = 0 ∨ ∃ q u g, j = q + 1 ∧ all[q]? = some (.loud u g)) :
    ReadAt P b base h0 all al op vs v i j := by
  unfold sameAll at h
  split at h <;> first | (cases h; done) | skip
  rename_i hcheck
  have h0c : ∀ a, (0 : Nat).testBit a = true ↔ ConsP b [] a := by
    intro a
    simp [ConsP]
  rcases hj with rfl | ⟨q, u, g, rfl, hq⟩
  · intro hmay
    refine ⟨0, by simpa using h0c, ?_⟩
    unfold okAt at hcheck
    rw [hmay] at hcheck
    dsimp only at hcheck
    split at hcheck <;> first | (cases hcheck; done) | skip
    rename_i u2 hu2
    have := AV.beq_eq hcheck
    subst this
    exact hu2
  · exact next_spec all [] 0 (by simp) h0c h q u g (Nat.zero_le _) hq
theorem reads_facts {all : List Rk} {al : List (Nat × AO)} : ∀ (l : List Oper) (p tail : List Rk) (env : T AV), reads P nt ops b base h0 all al p.length l tail env = true → (∀ k, l[k]? = ops[p.length + k]?) →
    (∀ t v, env.get t = some v → Val ops env0 p (below p.length) t v) → ∀ (k : Nat) v o, tail[k]? = some (.val v) → l[k]? = some o → kd o.op = .read →
    ∃ env vs, (∀ t v, env.get t = some v → Val ops env0 (p ++ tail.take k) (below (p.length + k)) t v) ∧ evs env o.op.operands.toList = some vs ∧ sameAll P b base all al o.op vs v (p.length + k) h0 = true
  | [], p, tail, env, h, hl, he, k, v, o, hk, ho, hkd => by simp at ho
  | o :: l, p, [], env, h, hl, he, k, v, o', hk, ho, hkd => by simp at hk
  | o :: l, p, r :: rs, env, h, hl, he, k, v, o', hk, ho, hkd => by
    unfold reads at h
    split at h <;> first | (cases h; done) | skip
    rename_i hcheck
    split at h <;> first | (cases h; done) | skip
    rename_i env' hput
    have hop : ops[p.length]? = some o := by simpa using (hl 0).symm
    cases k with
    | zero =>
      simp at hk ho
      subst hk; subst ho
      rw [hkd] at hcheck
      dsimp only at hcheck
      split at hcheck <;> first | (cases hcheck; done) | skip
      rename_i vs hvs
      exact ⟨env, vs, by simpa using he, hvs, hcheck⟩
    | succ k =>
      obtain ⟨_, hpv⟩ := putA_spec hput
      have hlen : (p ++ [r]).length = p.length + 1 := by simp
      obtain ⟨e1, vs, h1, h2, h3⟩ := reads_facts l (p ++ [r]) rs env' (by rw [hlen]; exact h) (fun k => by
        have := hl (k + 1)
        rw [List.getElem?_cons_succ] at this
        rw [this, hlen]
        congr 1
        omega) (val_snoc hop he hpv) k v o' (by simpa using hk) (by simpa using ho) hkd
      refine ⟨e1, vs, fun t u hu => ?_, h2, ?_⟩
      · have := h1 t u hu
        rw [hlen] at this
        rw [show p.length + (k + 1) = p.length + 1 + k from by omega]
        simpa using this
      · rw [hlen] at h3
        rw [show p.length + (k + 1) = p.length + 1 + k from by omega]
        exact h3
/-! what is ahead -/
def Closed (ops : Array Oper) (L : Nat → Bool) : Prop := ∀ i o, ops[i]? = some o → L i = true → ∀ e ∈ o.after.toList, Region.binds .any e = true → L e.on = true
omit [Nums] in
theorem bfOf_spec {t : T Nat} {j : Nat} : ∀ {l : List Edge}, (bfOf t l).testBit j = true → ∃ e ∈ l, Region.binds .any e = true ∧ (j = e.on ∨ ∃ y, t.get e.on = some y ∧ y.testBit j = true)
  | [], h => by simp [bfOf] at h
  | e :: l, h => by
    unfold bfOf at h
    split at h
    · rename_i hb
      rw [Nat.testBit_or, Nat.testBit_or, Bool.or_eq_true, Bool.or_eq_true] at h
      rcases h with (h | h) | h
      · refine ⟨e, List.mem_cons_self, hb, .inl ?_⟩
        rw [Nat.testBit_two_pow] at h
        simpa using (of_decide_eq_true h).symm
      · refine ⟨e, List.mem_cons_self, hb, .inr ?_⟩
        split at h
        · rename_i y hy
          exact ⟨y, hy, h⟩
        · simp at h
      · obtain ⟨e', h1, h2⟩ := bfOf_spec h
        exact ⟨e', List.mem_cons_of_mem _ h1, h2⟩
    · obtain ⟨e', h1, h2⟩ := bfOf_spec h
      exact ⟨e', List.mem_cons_of_mem _ h1, h2⟩
def DepOk (ops : Array Oper) (t : T Nat) : Prop := ∀ (i x : Nat), t.get i = some x → ∀ j, x.testBit j = true → ∀ L, Closed ops L → L i = true → L j = true
omit [Nums] in
theorem bfs_ok : ∀ (l : List Oper) (i : Nat) (t : T Nat), (∀ k, l[k]? = ops[i + k]?) → DepOk ops t → DepOk ops (bfs i l t)
  | [], i, t, _, h => h
  | o :: l, i, t, hl, h => by
    unfold bfs
    refine bfs_ok l (i + 1) _ (fun k => ?_) ?_
    · have := hl (k + 1)
      rw [List.getElem?_cons_succ] at this
      rw [this]
      congr 1
      omega
    · intro q x hq j hj L hL hi
      rcases T.get_put hq with ⟨h1, h2⟩ | ⟨_, h2⟩
      · cases h2
        subst h1
        obtain ⟨e, he, hb, h3⟩ := bfOf_spec hj
        have hLe : L e.on = true := hL _ o (by simpa using (hl 0).symm) hi e he hb
        rcases h3 with rfl | ⟨y, hy, hyj⟩
        · exact hLe
        · exact h _ _ hy _ hyj L hL hLe
      · exact h _ _ h2 _ hj L hL hi
omit [Nums] in
theorem ahead_dep {i j : Nat} (h : ahead (bf ops) j i = true) {L : Nat → Bool} (hL : Closed ops L) (hi : L i = true) : L j = true := by
  have hd : DepOk ops (bf ops) := bfs_ok ops.toList 0 .e (by simp) (fun i x h => by rw [T.get_e] at h; cases h)
  unfold ahead bitsAt at h
  split at h
  · rename_i x hx
    exact hd _ _ hx _ h L hL hi
  · simp at h
omit [Nums] in
theorem memB_spec {t : Nat} : ∀ {l : List Nat}, t ∈ l → memB t l = true
  | [], h => by cases h
  | x :: l, h => by
    unfold memB
    split
    · rfl
    · rename_i hx
      rcases List.mem_cons.1 h with h1 | h1
      · subst h1
        simp at hx
      · exact memB_spec h1
omit [Nums] in
theorem chk2_spec {o : Oper} {i : Nat} : ∀ {l : List Oper} {j : Nat}, chk2 ops b o i j l = true → ∀ (k : Nat) q, l[k]? = some q → i ≠ j + k → ((∃ d, q.dst = some d ∧ d ∈ looks ops o) ∨ (isLoud o = true ∧ isLoud q = true)) →
    (j + k < i → ahead b (j + k) i = true) ∧ (i < j + k → ahead b i (j + k) = true)
  | [], j, h, k, q, hk, _, _ => by simp at hk
  | p :: l, j, h, k, q, hk, hne, hc => by
    have tail : chk2 ops b o i (Nat.add j 1) l = true := by
      unfold chk2 at h
      split at h
      · exact h
      · split at h
        · exact h
        · split at h
          · exact h
          · cases h
    cases k with
    | succ k =>
      have := chk2_spec tail k q (by simpa using hk) (by show i ≠ j + 1 + k; omega) hc
      have e : Nat.add j 1 + k = j + (k + 1) := by show j + 1 + k = _; omega
      rw [e] at this
      exact this
    | zero =>
      simp at hk
      subst hk
      rw [Nat.add_zero] at hne ⊢
      unfold chk2 at h
      split at h
      · rename_i hb
        exact absurd (Nat.eq_of_beq_eq_true hb) hne
      · have hcond : touch ops o p = true := by
          unfold touch
          rcases hc with ⟨d, h1, h2⟩ | ⟨h1, h2⟩
          · rw [h1]
            simp [memB_spec h2]
          · simp [h1, h2]
        rw [hcond] at h
        dsimp only at h
        split at h <;> first | (cases h; done) | skip
        rename_i hord
        split at hord
        · rename_i hlt
          have : j < i := by simpa using hlt
          exact ⟨fun _ => hord, fun h => by omega⟩
        · rename_i hlt
          have := blt_no hlt
          exact ⟨fun h => by omega, fun _ => hord⟩
omit [Nums] in
theorem chk1_spec : ∀ {l : List Oper} {i : Nat}, chk1 ops b i l = true → ∀ (k : Nat) o, l[k]? = some o → chk2 ops b o (i + k) 0 ops.toList = true
  | [], i, h, k, o, hk => by simp at hk
  | p :: l, i, h, k, o, hk => by
    unfold chk1 at h
    split at h <;> first | (cases h; done) | skip
    rename_i h2
    cases k with
    | zero =>
      simp at hk
      subst hk
      exact h2
    | succ k =>
      have := chk1_spec h k o (by simpa using hk)
      have e : Nat.add i 1 + k = i + (k + 1) := by show i + 1 + k = _; omega
      rw [e] at this
      exact this
omit [Nums] in
theorem edgesLt_spec : ∀ {l : List Oper} {i : Nat}, edgesLt i l = true → ∀ (k : Nat) o, l[k]? = some o → ∀ e ∈ o.after.toList, Region.binds .any e = true → e.on < i + k
  | [], i, h, k, o, hk => by simp at hk
  | p :: l, i, h, k, o, hk => by
    unfold edgesLt at h
    split at h <;> first | (cases h; done) | skip
    rename_i h2
    cases k with
    | zero =>
      simp at hk
      subst hk
      intro e he hb
      have := List.all_eq_true.1 h2 e he
      simpa [hb] using this
    | succ k =>
      have := edgesLt_spec h k o (by simpa using hk)
      intro e he hb
      have h3 := this e he hb
      have e' : Nat.add i 1 + k = i + (k + 1) := by show i + 1 + k = _; omega
      omega
omit [Nums] in
/-- two operations that touch one slot, or are both loud, are ordered -/
theorem chk_ord (h : chk ops = true) {i j : Nat} {o q : Oper} (hi : ops[i]? = some o) (hj : ops[j]? = some q) (hne : i ≠ j) (hc : (∃ d, q.dst = some d ∧ d ∈ looks ops o) ∨ (isLoud o = true ∧ isLoud q = true)) :
    (j < i → ahead (bf ops) j i = true) ∧ (i < j → ahead (bf ops) i j = true) := by
  unfold chk at h
  rw [Bool.and_eq_true] at h
  have h1 := chk1_spec h.1 i o (by simpa using hi)
  rw [Nat.zero_add] at h1
  have := chk2_spec h1 j q (by simpa using hj) (by omega) hc
  rw [Nat.zero_add] at this
  exact this
omit [Nums] in
theorem chk_lt (h : chk ops = true) {i : Nat} {o : Oper} (hi : ops[i]? = some o) : ∀ e ∈ o.after.toList, Region.binds .any e = true → e.on < i := by
  unfold chk at h
  rw [Bool.and_eq_true] at h
  intro e he hb
  have := edgesLt_spec h.2 i o (by simpa using hi) e he hb
  omega
end
end Go.Proofs.YthjjpmoifgcepaaGreat.Ex

/-
  The runner: a region that draws its order gives, in whatever order, what it gives in the order of the text. No condition.
-/
namespace Go.Proofs.YthjjpmoifgcepaaGreat.Ex
open Go
noncomputable section
variable [Nums]
def consB (b : T Nat) (a : Nat) : Nat → List Rk → Bool
  | _, [] => false
  | l, .loud _ _ :: rs => ahead b a l || consB b a (l + 1) rs
  | l, _ :: rs => consB b a (l + 1) rs
omit [Nums] in
theorem consB_iff {b : T Nat} {a : Nat} : ∀ {rs : List Rk} {k : Nat}, consB b a k rs = true ↔ ∃ l u g, rs[l]? = some (.loud u g) ∧ ahead b a (k + l) = true
  | [], k => by simp [consB]
  | r :: rs, k => by
    have ih := consB_iff (b := b) (a := a) (rs := rs) (k := k + 1)
    have sh : (∃ l u g, rs[l]? = some (.loud u g) ∧ ahead b a (k + 1 + l) = true) ↔ ∃ l u g, 0 < l ∧ (r :: rs)[l]? = some (.loud u g) ∧ ahead b a (k + l) = true := by
      constructor
      · rintro ⟨l, u, g, h1, h2⟩
        exact ⟨l + 1, u, g, by omega, by simpa using h1, by rw [show k + (l + 1) = k + 1 + l from by omega]; exact h2⟩
      · rintro ⟨l, u, g, h0, h1, h2⟩
        obtain ⟨l, rfl⟩ : ∃ q, l = q + 1 := ⟨l - 1, by omega⟩
        exact ⟨l, u, g, by simpa using h1, by rw [show k + 1 + l = k + (l + 1) from by omega]; exact h2⟩
    have other : isL r = false → ((consB b a (k + 1) rs = true) ↔ ∃ l u g, (r :: rs)[l]? = some (.loud u g) ∧ ahead b a (k + l) = true) := by
      intro hn
      rw [ih, sh]
      constructor
      · rintro ⟨l, u, g, _, h⟩
        exact ⟨l, u, g, h⟩
      · rintro ⟨l, u, g, h1, h2⟩
        refine ⟨l, u, g, ?_, h1, h2⟩
        rcases Nat.eq_zero_or_pos l with rfl | h0
        · simp at h1
          subst h1
          cases hn
        · exact h0
    cases r with
    | loud u h =>
      simp only [consB, Bool.or_eq_true]
      rw [ih, sh]
      constructor
      · rintro (h1 | ⟨l, u, g, _, h⟩)
        · exact ⟨0, _, _, rfl, h1⟩
        · exact ⟨l, u, g, h⟩
      · rintro ⟨l, u', g, h1, h2⟩
        rcases Nat.eq_zero_or_pos l with rfl | h0
        · exact .inl h2
        · exact .inr ⟨l, u', g, h0, h1, h2⟩
    | skip => exact other rfl
    | val _ => exact other rfl
    | alloc _ _ => exact other rfl
omit [Nums] in
theorem consB_P {b : T Nat} {a : Nat} {rs : List Rk} : consB b a 0 rs = true ↔ ConsP b rs a := by
  rw [consB_iff]
  simp only [Nat.zero_add, ConsP]
/-- memory when some operations are done: the main one, and the blocks of the region that lie beside it -/
def gF (base : Nat) (rs : List Rk) (L C : Nat → Bool) (H : AH) (m : Nat) : Option AO :=
  match (if base ≤ m then rs[m - base]? else none) with
  | some (.alloc ao _) => if L (m - base) && !C (m - base) then some ao else H.get m
  | _ => H.get m
section
variable {base : Nat} {rs : List Rk} {L L' C C' : Nat → Bool} {H : AH}
omit [Nums] in
theorem gF_alloc {a : Nat} {ao : AO} {v : AV} (h : rs[a]? = some (.alloc ao v)) (hL : L a = true) (hC : C a = false) : gF base rs L C H (base + a) = some ao := by
  unfold gF
  rw [if_pos (by omega), show base + a - base = a from by omega, h]
  simp [hL, hC]
omit [Nums] in
theorem gF_cases {m : Nat} {o : AO} (h : gF base rs L C H m = some o) : (∃ a v, m = base + a ∧ rs[a]? = some (.alloc o v) ∧ L a = true ∧ C a = false) ∨
    (H.get m = some o ∧ ∀ a ao v, m = base + a → rs[a]? = some (.alloc ao v) → L a = true → C a = true) := by
  unfold gF at h
  by_cases hb : base ≤ m
  · rw [if_pos hb] at h
    have hm : m = base + (m - base) := by omega
    have key : ∀ a, m = base + a → a = m - base := fun a ha => by omega
    split at h
    · rename_i ao v hr
      split at h
      · rename_i hc
        rw [Bool.and_eq_true] at hc
        cases h
        exact .inl ⟨m - base, v, hm, hr, hc.1, by simpa using hc.2⟩
      · rename_i hc
        refine .inr ⟨h, fun a ao' v' ha hra hL => ?_⟩
        have := key a ha
        subst this
        simp [hL] at hc
        exact hc
    · rename_i hno
      refine .inr ⟨h, fun a ao' v' ha hra hL => ?_⟩
      have := key a ha
      subst this
      exact absurd hra (hno _ _)
  · rw [if_neg hb] at h
    exact .inr ⟨h, fun a ao' v' ha => by omega⟩
omit [Nums] in
theorem gF_main {m : Nat} {o : AO} (h : H.get m = some o) (hno : ∀ a ao v, m = base + a → rs[a]? = some (.alloc ao v) → L a = true → C a = true) : gF base rs L C H m = some o := by
  unfold gF
  by_cases hb : base ≤ m
  · rw [if_pos hb]
    split
    · rename_i ao v hr
      split
      · rename_i hc
        rw [Bool.and_eq_true] at hc
        have := hno (m - base) ao v (by omega) hr hc.1
        rw [this] at hc
        simp at hc
      · exact h
    · exact h
  · rw [if_neg hb]
    exact h
omit [Nums] in
theorem gF_congr (h : ∀ a ao v, rs[a]? = some (.alloc ao v) → L' a = L a) (hC : ∀ a, C' a = C a) : gF base rs L' C' H = gF base rs L C H := by
  funext m
  unfold gF
  split
  · rename_i ao v hr
    split at hr
    · rw [h _ _ _ hr, hC]
    · cases hr
  · rfl
end
section
variable {P : Program} {call : FuncId → List AV → AH → Option (AV × AH)} {nt : Nat} {ops : Array Oper} {env0 : T AV} {h : AH} {rs : List Rk} {al : List (Nat × AO)}
/-- all that is known of a region -/
structure Reg (P : Program) (call : FuncId → List AV → AH → Option (AV × AH)) (nt : Nat) (ops : Array Oper) (env0 : T AV) (h : AH) (rs : List Rk) (al : List (Nat × AO)) : Prop where
  chk : chk ops = true
  len : rs.length = ops.size
  fact : ∀ (i : Nat) r o, rs[i]? = some r → ops[i]? = some o → FactAt P call nt ops (bf ops) h.next env0 (h.skip ops.size) (rs.take i) o i r
  read : ∀ (i : Nat) v o, rs[i]? = some (.val v) → ops[i]? = some o → kd o.op = .read → ∃ env vs, (∀ t v, env.get t = some v → Val ops env0 rs (below i) t v) ∧ evs env o.op.operands.toList = some vs ∧ sameAll P (bf ops) h.next rs al o.op vs v i (h.skip ops.size) = true
  al : ∀ a ao, (a, ao) ∈ al ↔ ∃ v, rs[a]? = some (.alloc ao v)
/-- memory behind the loud operations below a place -/
def mainAt (ops : Array Oper) (h : AH) (rs : List Rk) (lam : Nat) : AH := heapOf (h.skip ops.size) (rs.take lam)
def consAt (ops : Array Oper) (rs : List Rk) (lam : Nat) (a : Nat) : Bool := consB (bf ops) a 0 (rs.take lam)
structure AI (nt : Nat) (ops : Array Oper) (env0 : T AV) (h : AH) (rs : List Rk) (ρ0 : Ren) (w0 : World) (L : Nat → Bool) (lam : Nat) (ρ : Ren) (w : World) (a : Act) : Prop where
  cl : Closed ops L
  lt : ∀ i, L i = true → i < ops.size
  lam0 : lam = 0 ∨ ∃ q u g, lam = q + 1 ∧ rs[q]? = some (.loud u g)
  loud : ∀ (q : Nat) u g, rs[q]? = some (.loud u g) → (L q = true ↔ q < lam)
  st : Stp ρ0 h.get h.next w0 ρ (gF h.next rs L (consAt ops rs lam) (mainAt ops h rs lam)) (mainAt ops h rs lam).next w
  nx : h.next + ops.size ≤ (mainAt ops h rs lam).next
  nm : ∀ i, i < ops.size → L i = false → ρ (h.next + i) = none
  mask : ∀ i, i < ops.size → ((mainAt ops h rs lam).get (h.next + i)).isSome = true → consAt ops rs lam i = true
  dz : a.defers = []
  size : a.tmps.size = nt
  val : ∀ t v, Val ops env0 rs L t v → ∃ x, a.tmps[t]? = some x ∧ VR ρ v x
variable {ρ0 ρ : Ren} {w0 w : World} {L L' : Nat → Bool} {lam : Nat} {a : Act}
omit [Nums] in
theorem consAt_iff {lam x : Nat} : consAt ops rs lam x = true ↔ ∃ l u g, l < lam ∧ rs[l]? = some (.loud u g) ∧ ahead (bf ops) x l = true := by
  unfold consAt
  rw [consB_P]
  unfold ConsP
  constructor
  · rintro ⟨l, u, g, h1, h2⟩
    obtain ⟨h3, h4⟩ := take_get.1 h1
    exact ⟨l, u, g, h3, h4, h2⟩
  · rintro ⟨l, u, g, h3, h4, h2⟩
    exact ⟨l, u, g, take_get.2 ⟨h3, h4⟩, h2⟩
/-- a place that may come next -/
structure Rdy (ops : Array Oper) (L : Nat → Bool) (i : Nat) (o : Oper) : Prop where
  op : ops[i]? = some o
  no : L i = false
  pre : ∀ e ∈ o.after.toList, Region.binds .any e = true → L e.on = true
omit [Nums] in
theorem Rdy.ahead {i : Nat} {o : Oper} (hc : Closed ops L) {j : Nat} (h : ahead (bf ops) j i = true) (hr : Rdy ops L i o) (hne : j ≠ i) : L j = true := by
  have hcl : Closed ops (fun k => L k || decide (k = i)) := by
    intro k q hq hk e he hb
    simp only [Bool.or_eq_true, decide_eq_true_eq] at hk ⊢
    rcases hk with hk | rfl
    · exact .inl (hc k q hq hk e he hb)
    · rw [hr.op] at hq
      cases hq
      exact .inl (hr.pre e he hb)
  have := ahead_dep h hcl (by simp)
  simpa [hne] using this
omit [Nums] in
/-- writers of a slot that an operation touches: done just if they stand ahead of it -/
theorem Rdy.writer {i : Nat} {o : Oper} (hk : chk ops = true) (hc : Closed ops L) (hr : Rdy ops L i o) {j t : Nat} (hj : dstAt ops j = some t) (ht : t ∈ looks ops o) : L j = true ↔ j < i := by
  obtain ⟨q, hq, hqd⟩ : ∃ q, ops[j]? = some q ∧ q.dst = some t := by
    unfold dstAt at hj
    cases hq : ops[j]? with
    | none => rw [hq] at hj; cases hj
    | some q => rw [hq] at hj; exact ⟨q, rfl, hj⟩
  rcases Nat.lt_trichotomy j i with h | h | h
  · refine ⟨fun _ => h, fun _ => ?_⟩
    have := (chk_ord hk hr.op hq (by omega) (.inl ⟨t, hqd, ht⟩)).1 h
    exact Rdy.ahead hc this hr (by omega)
  · subst h
    rw [hr.no]
    simp
  · refine ⟨fun hL => ?_, fun h' => by omega⟩
    have := (chk_ord hk hr.op hq (by omega) (.inl ⟨t, hqd, ht⟩)).2 h
    have := ahead_dep this hc hL
    rw [hr.no] at this
    cases this
omit [Nums] in
theorem Rdy.val {i : Nat} {o : Oper} (hk : chk ops = true) (hc : Closed ops L) (hr : Rdy ops L i o) {t : Nat} {v : AV} (ht : t ∈ looks ops o) (h : Val ops env0 rs (below i) t v) : Val ops env0 rs L t v := by
  have hw := fun j (hj : dstAt ops j = some t) => Rdy.writer hk hc hr hj ht
  rcases h with ⟨q, r, h1, h2, h3, h4, h5⟩ | ⟨h1, h2⟩
  · refine .inl ⟨q, r, (hw q h2).2 (by simpa [below] using h1), h2, h3, h4, fun j hj hj' => h5 j ?_ hj'⟩
    simp [below]
    exact (hw j hj').1 hj
  · refine .inr ⟨fun j hj hj' => h1 j ?_ hj', h2⟩
    simp [below]
    exact (hw j hj').1 hj
/-- what the slots hold that an operation looks at -/
theorem evs_rel {ρ : Ren} {env : T AV} {a : Act} : ∀ {l : List Operand} {vs : List AV}, (∀ t v, .tmp t ∈ l → env.get t = some v → ∃ x, a.tmps[t]? = some x ∧ VR ρ v x) → evs env l = some vs → VRs ρ vs (l.map a.eval)
  | [], vs, _, h => by simp only [evs, Option.some.injEq] at h; subst h; exact VRs.nil
  | o :: l, vs, hv, h => by
    unfold evs at h
    split at h <;> first | (cases h; done) | skip
    rename_i v hvo
    split at h <;> first | (cases h; done) | skip
    rename_i us hus
    simp only [Option.some.injEq] at h
    subst h
    refine VRs.cons ?_ (evs_rel (fun t v ht => hv t v (List.mem_cons_of_mem _ ht)) hus)
    cases o with
    | tmp t =>
      obtain ⟨x, hx, hr⟩ := hv t v List.mem_cons_self hvo
      have : a.eval (.tmp t) = x := by simp [Act.eval, hx]
      rw [this]
      exact hr
    | const c => exact ofV_sound ρ hvo
    | func f =>
      simp only [ev, Option.some.injEq] at hvo
      subst hvo
      unfold VR
      exact ⟨#[], #[], rfl, VRs.nil, VRs.nil⟩
    | global g =>
      simp only [ev, Option.some.injEq] at hvo
      subst hvo
      unfold VR
      rfl
theorem guard_rel {ρ : Ren} {env : T AV} {a : Act} {o : Oper} {g : Bool} (hv : ∀ t v, t ∈ o.looksAt ops → env.get t = some v → ∃ x, a.tmps[t]? = some x ∧ VR ρ v x) (h : guardA ops o env = some g) : Region.wanted o (yielded ops a.tmps) = g := by
  unfold guardA at h
  unfold Region.wanted
  split at h
  · rename_i hg
    rw [hg]
    simpa using h
  · rename_i j want hg
    rw [hg]
    dsimp only
    split at h
    · rename_i hj
      simp only [Option.some.injEq] at h
      subst h
      simp [yielded, hj]
    · rename_i q hj
      split at h
      · rename_i hd
        simp only [Option.some.injEq] at h
        subst h
        simp [yielded, hj, hd]
      · rename_i d hd
        have hmem : d ∈ o.looksAt ops := by
          unfold Oper.looksAt
          rw [hg]
          simp [hj, hd]
        split at h <;> first | (cases h; done) | skip
        · rename_i b hb
          simp only [Option.some.injEq] at h
          subst h
          obtain ⟨x, hx, hr⟩ := hv d _ hmem hb
          unfold VR at hr
          subst hr
          simp only [yielded, hj, Option.bind_some, hd, hx]
          simp
        · rename_i c p hb
          split at h <;> first | (cases h; done) | skip
          rename_i q hq
          simp only [Option.some.injEq] at h
          subst h
          obtain ⟨x, hx, hr⟩ := hv d _ hmem hb
          unfold VR at hr
          rw [askC_ok hq] at hr
          subst hr
          simp only [yielded, hj, Option.bind_some, hd, hx]
          simp
        · rename_i v hno hno2 hb
          simp only [Option.some.injEq] at h
          subst h
          obtain ⟨x, hx, hr⟩ := hv d _ hmem hb
          simp only [yielded, hj, Option.bind_some, hd, hx]
          cases x with
          | bool b =>
            cases v <;> simp [VR] at hr
            · subst hr
              exact absurd rfl (hno _)
            · exact absurd rfl (hno2 _ _)
          | _ => rfl
omit [Nums] in
theorem tmp_looks {o : Oper} {t : Nat} (h : .tmp t ∈ o.op.operands.toList) : t ∈ o.looksAt ops := by
  unfold Oper.looksAt
  refine List.mem_append_left _ ?_
  rw [List.mem_filterMap]
  exact ⟨_, h, rfl⟩
omit [Nums] in
theorem looks_of {o : Oper} {t : Nat} (h : t ∈ o.looksAt ops) : t ∈ looks ops o := List.mem_append_right _ h
omit [Nums] in
/-- what the slots hold behind one more operation -/
theorem val_step {i : Nat} {o : Oper} {r : Rk} (hk : chk ops = true) (hc : Closed ops L) (hr : Rdy ops L i o) (hri : rs[i]? = some r) (hL : ∀ j, L' j = true ↔ L j = true ∨ j = i) {t : Nat} {v : AV} (h : Val ops env0 rs L' t v) :
    (o.dst = some t ∧ v = r.res) ∨ (o.dst ≠ some t ∧ Val ops env0 rs L t v) := by
  have hd : dstAt ops i = o.dst := by simp [dstAt, hr.op]
  by_cases hdt : o.dst = some t
  · left
    refine ⟨hdt, ?_⟩
    have htl : t ∈ looks ops o := by unfold looks; rw [hdt]; simp
    rcases h with ⟨q, r', h1, h2, h3, h4, h5⟩ | ⟨h1, _⟩
    · have hiq := h5 i ((hL i).2 (.inr rfl)) (by rw [hd, hdt])
      rcases (hL q).1 h1 with h6 | h6
      · have := (Rdy.writer hk hc hr h2 htl).1 h6
        omega
      · subst h6
        rw [hri] at h3
        cases h3
        exact h4
    · exact absurd (by rw [hd, hdt]) (h1 i ((hL i).2 (.inr rfl)))
  · right
    refine ⟨hdt, ?_⟩
    rcases h with ⟨q, r', h1, h2, h3, h4, h5⟩ | ⟨h1, h2⟩
    · rcases (hL q).1 h1 with h6 | h6
      · exact .inl ⟨q, r', h6, h2, h3, h4, fun j hj hj' => h5 j ((hL j).2 (.inl hj)) hj'⟩
      · subst h6
        rw [hd] at h2
        exact absurd h2 hdt
    · exact .inr ⟨fun j hj hj' => h1 j ((hL j).2 (.inl hj)) hj', h2⟩
theorem put_vals {i : Nat} {o : Oper} {r : Rk} {ρ' : Ren} {x : Value} (hk : chk ops = true) (hc : Closed ops L) (hr : Rdy ops L i o) (hri : rs[i]? = some r) (hL : ∀ j, L' j = true ↔ L j = true ∨ j = i)
    (hd : ∀ d, o.dst = some d → d < nt) (hs : a.tmps.size = nt) (hv : ∀ t v, Val ops env0 rs L t v → ∃ x, a.tmps[t]? = some x ∧ VR ρ v x) (hm : ∀ n p, ρ n = some p → ρ' n = some p) (hx : VR ρ' r.res x) :
    ∀ t v, Val ops env0 rs L' t v → ∃ y, (a.put o.dst x).tmps[t]? = some y ∧ VR ρ' v y := by
  intro t v h
  rcases val_step hk hc hr hri hL h with ⟨h1, rfl⟩ | ⟨h1, h2⟩
  · have hlt := hd t h1
    refine ⟨x, ?_, hx⟩
    rw [h1]
    simp [Act.put, hs, hlt]
  · obtain ⟨y, hy, hyr⟩ := hv t v h2
    refine ⟨y, ?_, hyr.mono hm⟩
    cases hod : o.dst with
    | none => exact hy
    | some d =>
      have : d ≠ t := fun he => h1 (by rw [hod, he])
      simp [Act.put, Array.getElem?_setIfInBounds, this, hy]
omit [Nums] in
theorem put_size {o : Option Tmp} {x : Value} : (a.put o x).tmps.size = a.tmps.size := by
  cases o <;> simp [Act.put]
omit [Nums] in
theorem put_defers {o : Option Tmp} {x : Value} : (a.put o x).defers = a.defers := by
  cases o <;> rfl
omit [Nums] in
theorem closed_more {i : Nat} {o : Oper} (hc : Closed ops L) (hr : Rdy ops L i o) (hL : ∀ j, L' j = true ↔ L j = true ∨ j = i) : Closed ops L' := by
  intro k q hq hk e he hb
  rw [hL] at hk ⊢
  rcases hk with hk | rfl
  · exact .inl (hc k q hq hk e he hb)
  · rw [hr.op] at hq
    cases hq
    exact .inl (hr.pre e he hb)
/-- an operation that leaves memory as it is -/
theorem AI.still (hI : AI nt ops env0 h rs ρ0 w0 L lam ρ w a) {i : Nat} {o : Oper} {r : Rk} {x : Value} (hk : Ex.chk ops = true) (hr : Rdy ops L i o) (hri : rs[i]? = some r) (hL : ∀ j, L' j = true ↔ L j = true ∨ j = i) (hd : ∀ d, o.dst = some d → d < nt)
    (hnl : isL r = false) (hna : ∀ ao v, r ≠ .alloc ao v) (hx : VR ρ r.res x) : AI nt ops env0 h rs ρ0 w0 L' lam ρ w (a.put o.dst x) := by
  have hne : ∀ {q : Nat} {r' : Rk}, rs[q]? = some r' → r' ≠ r → q ≠ i := fun h1 h2 he => by
    subst he
    rw [hri] at h1
    cases h1
    exact h2 rfl
  refine ⟨closed_more hI.cl hr hL, fun j hj => ?_, hI.lam0, fun q u g hq => ?_, ?_, hI.nx, fun j hj hn => hI.nm j hj ?_, hI.mask, by rw [put_defers]; exact hI.dz, by rw [put_size]; exact hI.size, put_vals hk hI.cl hr hri hL hd hI.size hI.val (fun _ _ h => h) hx⟩
  · rcases (hL j).1 hj with h1 | rfl
    · exact hI.lt j h1
    · exact (Array.getElem?_eq_some_iff.1 hr.op).1
  · rw [← hI.loud q u g hq, hL]
    have : q ≠ i := hne hq (fun he => by subst he; cases hnl)
    simp [this]
  · rw [gF_congr (L := L) (C := consAt ops rs lam) (fun q ao v hq => ?_) (fun _ => rfl)]
    · exact hI.st
    · have : q ≠ i := hne hq (fun he => hna ao v he.symm)
      have := hL q
      cases h1 : L q <;> cases h2 : L' q <;> simp_all
  · cases h1 : L j with
    | false => rfl
    | true => rw [(hL j).2 (.inl h1)] at hn; cases hn
theorem AI.view (hI : AI nt ops env0 h rs ρ0 w0 L lam ρ w a) {i : Nat} {o : Oper} (hr : Rdy ops L i o) (hal : ∀ a ao, (a, ao) ∈ al → ∃ v, rs[a]? = some (.alloc ao v)) {r : Rk} (hri : rs[i]? = some r) (hna : ∀ ao v, r ≠ .alloc ao v)
    {see : Nat → Bool} (hsee : ∀ a, see a = true → ahead (bf ops) a i = true ∧ consAt ops rs lam a = false) {m : Nat} {x : AO} (hm : (overlay h.next see al (mainAt ops h rs lam)).get m = some x) :
    gF h.next rs L (consAt ops rs lam) (mainAt ops h rs lam) m = some x := by
  rcases overlay_spec hm with ⟨q, h1, h2, rfl⟩ | h1
  · obtain ⟨v, hq⟩ := hal _ _ h2
    obtain ⟨h3, h4⟩ := hsee q h1
    have hne : q ≠ i := fun he => by subst he; rw [hri] at hq; cases hq; exact hna _ _ rfl
    exact gF_alloc hq (Rdy.ahead hI.cl h3 hr hne) h4
  · refine gF_main h1 fun q ao v he hq hLq => ?_
    subst he
    exact hI.mask q (hI.lt q hLq) (by rw [h1]; rfl)
end
end
end Go.Proofs.YthjjpmoifgcepaaGreat.Ex

/-
  The runner: a region that draws its order (the end). No condition.
-/
namespace Go.Proofs.YthjjpmoifgcepaaGreat.Ex
open Go
noncomputable section
variable [Nums]
section
variable {P : Program} {call : FuncId → List AV → AH → Option (AV × AH)} {nt : Nat} {ops : Array Oper} {env0 : T AV} {h : AH} {rs : List Rk} {al : List (Nat × AO)}
variable {ρ0 ρ : Ren} {w0 w : World} {L L' : Nat → Bool} {lam : Nat} {a : Act}
omit [Nums] in
theorem more_at {i : Nat} (hL : ∀ j, L' j = true ↔ L j = true ∨ j = i) {q : Nat} (h : q ≠ i) : L' q = L q := by
  have := hL q
  cases h1 : L q <;> cases h2 : L' q <;> simp_all
/-- an operation that makes a block -/
theorem AI.alloc (hI : AI nt ops env0 h rs ρ0 w0 L lam ρ w a) {i : Nat} {o : Oper} {ao : AO} {v : AV} {x : Value} {obj : Obj} {s : Nat} (hk : Ex.chk ops = true) (hr : Rdy ops L i o) (hri : rs[i]? = some (.alloc ao v)) (hL : ∀ j, L' j = true ↔ L j = true ∨ j = i) (hd : ∀ d, o.dst = some d → d < nt)
    (hO : OR ρ ao s (some obj)) (hx : ∀ ρ' : Ren, ρ' (h.next + i) = some (w.heap.size, s) → VR ρ' v x) : AI nt ops env0 h rs ρ0 w0 L' lam (upd ρ (h.next + i) (w.heap.size, s)) (w.alloc obj) (a.put o.dst x) := by
  have hi : i < ops.size := (Array.getElem?_eq_some_iff.1 hr.op).1
  have hCi : consAt ops rs lam i = false := by
    cases hc : consAt ops rs lam i with
    | false => rfl
    | true =>
      obtain ⟨l, u, g, h1, h2, h3⟩ := consAt_iff.1 hc
      have := ahead_dep h3 hI.cl ((hI.loud l u g h2).2 h1)
      rw [hr.no] at this
      cases this
  have hnl : ∀ {q : Nat} {u : AV} {g : AH}, rs[q]? = some (.loud u g) → q ≠ i := fun hq he => by
    subst he
    rw [hri] at hq
    cases hq
  obtain ⟨hst, hm⟩ := Stp.kept (w' := w.alloc obj) (g' := gF h.next rs L' (consAt ops rs lam) (mainAt ops h rs lam)) hI.st (h.next + i) (hI.nm i hi hr.no) (by omega) (by have := hI.nx; omega) hO rfl rfl rfl rfl (fun m o' hm => by
    rcases gF_cases hm with ⟨q, u, rfl, h1, h2, h3⟩ | ⟨h1, h2⟩
    · by_cases hq : q = i
      · subst hq
        rw [hri] at h1
        cases h1
        exact .inl ⟨rfl, rfl⟩
      · exact .inr ⟨by omega, gF_alloc h1 (by rw [← more_at hL hq]; exact h2) h3⟩
    · by_cases hmi : m = h.next + i
      · have := h2 i ao v hmi hri ((hL i).2 (.inr rfl))
        rw [hCi] at this
        cases this
      · refine .inr ⟨hmi, gF_main h1 fun q ao' v' he hq hLq => h2 q ao' v' he hq ((hL q).2 (.inl hLq))⟩)
  have hup : upd ρ (h.next + i) (w.heap.size, s) (h.next + i) = some (w.heap.size, s) := by simp [upd]
  refine ⟨closed_more hI.cl hr hL, fun j hj => ?_, hI.lam0, fun q u g hq => ?_, hst, hI.nx, fun j hj hn => ?_, hI.mask, by rw [put_defers]; exact hI.dz, by rw [put_size]; exact hI.size,
    put_vals hk hI.cl hr hri hL hd hI.size hI.val hm (hx _ hup)⟩
  · rcases (hL j).1 hj with h1 | rfl
    · exact hI.lt j h1
    · exact hi
  · rw [← hI.loud q u g hq, more_at hL (hnl hq)]
  · have hji : j ≠ i := fun he => by
      subst he
      rw [(hL j).2 (.inr rfl)] at hn
      cases hn
    rw [more_at hL hji] at hn
    unfold upd
    rw [if_neg (by omega)]
    exact hI.nm j hj hn
omit [Nums] in
theorem isLoud_of {o : Oper} (h : kd o.op = .loud) : isLoud o = true := by unfold isLoud; rw [h]
/-- no loud operation stands between the last one that is done and the next one -/
theorem Reg.gap (hR : Reg P call nt ops env0 h rs al) (hI : AI nt ops env0 h rs ρ0 w0 L lam ρ w a) {i : Nat} {o : Oper} (hr : Rdy ops L i o) (hko : kd o.op = .loud) {l : Nat} {u : AV} {g : AH} (hl : rs[l]? = some (.loud u g)) (hli : l < i) : l < lam := by
  have hlt : l < rs.length := (List.getElem?_eq_some_iff.1 hl).1
  obtain ⟨q, hq⟩ : ∃ q, ops[l]? = some q := ⟨_, Array.getElem?_eq_getElem (by rw [← hR.len]; exact hlt)⟩
  have hql : isLoud q = true := by
    obtain ⟨env, h1, cons, al', _, _, hf⟩ := hR.fact l _ q hl hq
    rcases hf with ⟨_, h2⟩ | ⟨_, vs, _, h2⟩
    · cases h2
    · unfold KF at h2
      unfold isLoud
      split at h2
      · obtain ⟨_, _, h3⟩ := h2; cases h3
      · obtain ⟨_, h3⟩ := h2; cases h3
      · obtain ⟨_, _, _, h3⟩ := h2; cases h3
      · rename_i hk; rw [hk]
  have := (chk_ord hR.chk hr.op hq (by omega) (.inr ⟨isLoud_of hko, hql⟩)).1 hli
  exact (hI.loud l u g hl).1 (Rdy.ahead hI.cl this hr (by omega))
theorem Reg.main_eq (hR : Reg P call nt ops env0 h rs al) (hI : AI nt ops env0 h rs ρ0 w0 L lam ρ w a) {i : Nat} {o : Oper} (hr : Rdy ops L i o) (hko : kd o.op = .loud) (hle : lam ≤ i) :
    heapOf (h.skip ops.size) (rs.take i) = mainAt ops h rs lam := by
  have hs : rs.take i = rs.take lam ++ (rs.drop lam).take (i - lam) := by
    rw [← List.take_add, show lam + (i - lam) = i from by omega]
  rw [hs, heapOf_append, heapOf_none]
  · rfl
  · intro r hmem
    obtain ⟨k, hk⟩ := List.mem_iff_getElem?.1 hmem
    obtain ⟨h1, h2⟩ := take_get.1 hk
    rw [List.getElem?_drop] at h2
    cases r with
    | loud u g =>
      have := hR.gap hI hr hko h2 (by omega)
      omega
    | _ => rfl
/-- a loud operation -/
theorem AI.loudOp (hR : Reg P call nt ops env0 h rs al) (hI : AI nt ops env0 h rs ρ0 w0 L lam ρ w a) {i : Nat} {o : Oper} {v : AV} {H' V : AH} {x : Value} {ρ' : Ren} {w' : World} (hr : Rdy ops L i o) (hko : kd o.op = .loud) (hri : rs[i]? = some (.loud v H')) (hL : ∀ j, L' j = true ↔ L j = true ∨ j = i) (hd : ∀ d, o.dst = some d → d < nt)
    (hVn : V.next = (mainAt ops h rs lam).next) (hV : ∀ m o', V.get m = some o' → (∃ q, ahead (bf ops) q i = true ∧ consAt ops rs lam q = false ∧ m = h.next + q ∧ ∃ u, rs[q]? = some (.alloc o' u)) ∨ (mainAt ops h rs lam).get m = some o')
    (hVi : ∀ m o', V.get m = some o' → gF h.next rs L (consAt ops rs lam) (mainAt ops h rs lam) m = some o')
    (hst : Stp ρ V.get V.next w ρ' H'.get H'.next w') (hx : VR ρ' v x) : AI nt ops env0 h rs ρ0 w0 L' (i + 1) ρ' w' (a.put o.dst x) := by
  have hi : i < ops.size := (Array.getElem?_eq_some_iff.1 hr.op).1
  have hli : lam ≤ i := by
    rcases Nat.lt_or_ge i lam with h1 | h1
    · have := (hI.loud i v H' hri).2 h1
      rw [hr.no] at this
      cases this
    · exact h1
  have hmain' : mainAt ops h rs (i + 1) = H' := by
    unfold mainAt
    have hlt := (List.getElem?_eq_some_iff.1 hri).1
    have hri' : rs[i] = .loud v H' := (List.getElem?_eq_some_iff.1 hri).2
    rw [List.take_succ_eq_append_getElem hlt, heapOf_append, hri']
    rfl
  have hmono : ∀ q, consAt ops rs lam q = true → consAt ops rs (i + 1) q = true := fun q hq => by
    obtain ⟨l, u, g, h1, h2, h3⟩ := consAt_iff.1 hq
    exact consAt_iff.2 ⟨l, u, g, by omega, h2, h3⟩
  have hmono' : ∀ q, ahead (bf ops) q i = true → consAt ops rs (i + 1) q = true := fun q hq => consAt_iff.2 ⟨i, v, H', by omega, hri, hq⟩
  have hcons' : ∀ q, consAt ops rs (i + 1) q = true → consAt ops rs lam q = true ∨ ahead (bf ops) q i = true := fun q hq => by
    obtain ⟨l, u, g, h1, h2, h3⟩ := consAt_iff.1 hq
    rcases Nat.lt_or_ge l i with h4 | h4
    · exact .inl (consAt_iff.2 ⟨l, u, g, hR.gap hI hr hko h2 h4, h2, h3⟩)
    · have : l = i := by omega
      subst this
      exact .inr h3
  have hst' : Stp ρ (gF h.next rs L (consAt ops rs lam) (mainAt ops h rs lam)) (mainAt ops h rs lam).next w ρ' (gF h.next rs L' (consAt ops rs (i + 1)) H') H'.next w' := by
    rw [hVn] at hst
    refine Stp.frame hI.st.hr hVi hst _ fun m o' hm => ?_
    rcases gF_cases hm with ⟨q, u, rfl, h1, h2, h3⟩ | ⟨h1, h2⟩
    · left
      have hqi : q ≠ i := fun he => by subst he; rw [hri] at h1; cases h1
      have hq0 : consAt ops rs lam q = false := by
        cases hc : consAt ops rs lam q with
        | false => rfl
        | true => rw [hmono q hc] at h3; cases h3
      refine ⟨gF_alloc h1 (by rw [← more_at hL hqi]; exact h2) hq0, ?_⟩
      cases hg : V.get (h.next + q) with
      | none => rfl
      | some o2 =>
        rcases hV _ _ hg with ⟨q', h4, _, h5, _⟩ | h4
        · have : q' = q := by omega
          subst this
          rw [hmono' _ h4] at h3
          cases h3
        · have := hI.mask q (by rw [← hR.len]; exact (List.getElem?_eq_some_iff.1 h1).1) (by rw [h4]; rfl)
          rw [hq0] at this
          cases this
    · exact .inr h1
  have hgr := hst.gr
  rw [hVn] at hgr
  have hnx : h.next + ops.size ≤ H'.next := Nat.le_trans hI.nx hgr
  refine ⟨closed_more hI.cl hr hL, fun j hj => ?_, .inr ⟨i, v, H', rfl, hri⟩, fun q u g hq => ?_, by rw [hmain']; exact hI.st.trans hst', by rw [hmain']; exact hnx, fun j hj hn => ?_, fun j hj hm => ?_, by rw [put_defers]; exact hI.dz, by rw [put_size]; exact hI.size,
    put_vals hR.chk hI.cl hr hri hL hd hI.size hI.val (Stp.mono hI.st.hr hst') hx⟩
  · rcases (hL j).1 hj with h1 | rfl
    · exact hI.lt j h1
    · exact hi
  · rw [hL, hI.loud q u g hq]
    constructor
    · rintro (h1 | rfl) <;> omega
    · intro h1
      rcases Nat.lt_or_ge q i with h2 | h2
      · exact .inl (hR.gap hI hr hko hq h2)
      · exact .inr (by omega)
  · have hjL : L j = false := by
      cases h1 : L j with
      | false => rfl
      | true => rw [(hL j).2 (.inl h1)] at hn; cases hn
    rw [hst'.ext (h.next + j) (by have := hI.nx; omega)]
    exact hI.nm j hj hjL
  · rw [hmain'] at hm
    have := hst.dom (h.next + j) (by rw [hVn]; have := hI.nx; omega) hm
    obtain ⟨o2, ho2⟩ := Option.isSome_iff_exists.1 this
    rcases hV _ _ ho2 with ⟨q', h4, _, h5, _⟩ | h4
    · have : q' = j := by omega
      subst this
      exact hmono' _ h4
    · exact hmono _ (hI.mask j hj (by rw [h4]; rfl))
/-- one operation that may come next -/
theorem Reg.step (hR : Reg P call nt ops env0 h rs al) (hc : CallS P call) (hI : AI nt ops env0 h rs ρ0 w0 L lam ρ w a) {i : Nat} {o : Oper} (hr : Rdy ops L i o) (hL : ∀ j, L' j = true ↔ L j = true ∨ j = i) {Q : Exit → Act → World → Prop} {K : Act → World → Prop}
    (hK : ∀ lam' ρ' w' a', AI nt ops env0 h rs ρ0 w0 L' lam' ρ' w' a' → K a' w') : wpOp P ops Q i K a w := by
  have hi : i < ops.size := (Array.getElem?_eq_some_iff.1 hr.op).1
  obtain ⟨r, hri⟩ : ∃ r, rs[i]? = some r := ⟨_, List.getElem?_eq_getElem (by rw [hR.len]; exact hi)⟩
  obtain ⟨env, h1, cons, al', hInv, hd, hf⟩ := hR.fact i r o hri hr.op
  have hlen : (rs.take i).length = i := by rw [List.length_take, Nat.min_eq_left (by rw [hR.len]; omega)]
  have hpre : ∀ k, k < i → (rs.take i)[k]? = rs[k]? := fun k hk => by rw [List.getElem?_take, if_pos hk]
  have hvals : ∀ {env : T AV}, (∀ t v, env.get t = some v → Val ops env0 rs (below i) t v) → ∀ t v, t ∈ looks ops o → env.get t = some v → ∃ x, a.tmps[t]? = some x ∧ VR ρ v x := fun he t v ht hg => hI.val t v (Rdy.val hR.chk hI.cl hr ht (he t v hg))
  have henv : ∀ t v, env.get t = some v → Val ops env0 rs (below i) t v := fun t v hv => by
    have := hInv.env t v hv
    rw [hlen] at this
    exact this.ext hpre
  unfold wpOp
  rw [hr.op]
  dsimp only
  rcases hf with ⟨hg, rfl⟩ | ⟨hg, vs, hvs, hkf⟩
  · have hw := guard_rel (ρ := ρ) (a := a) (fun t v ht => hvals henv t v (looks_of ht)) hg
    rw [hw]
    simp only [Bool.false_eq_true, if_false]
    exact hK lam ρ w _ (AI.still hI hR.chk hr hri hL hd rfl (by intro _ _ h; cases h) (by unfold Rk.res und VR; exact ⟨#[], rfl, VRs.nil⟩))
  · have hw := guard_rel (ρ := ρ) (a := a) (fun t v ht => hvals henv t v (looks_of ht)) hg
    rw [hw]
    simp only [if_true]
    left
    have hv : VRs ρ vs (o.op.operands.toList.map a.eval) := evs_rel (fun t v ht => hvals henv t v (looks_of (tmp_looks ht))) hvs
    unfold KF at hkf
    split at hkf
    · obtain ⟨v, hp, rfl⟩ := hkf
      obtain ⟨x, hx, hrun⟩ := pure_sound hp hv
      unfold Oper.wp
      rw [hrun w]
      exact hK lam ρ w _ (AI.still hI hR.chk hr hri hL hd rfl (by intro _ _ h; cases h) hx)
    · rename_i hkd
      obtain ⟨v, rfl⟩ := hkf
      obtain ⟨env2, vs2, henv2, hvs2, hsame⟩ := hR.read i v o hri hr.op hkd
      have hv2 : VRs ρ vs2 (o.op.operands.toList.map a.eval) := evs_rel (fun t v ht => hvals henv2 t v (looks_of (tmp_looks ht))) hvs2
      have hmay : mayAt (bf ops) i lam 0 rs = true := by
        refine mayAt_ok fun k u g hk => ?_
        rw [Nat.zero_add]
        have hki : k ≠ i := fun he => by subst he; rw [hri] at hk; cases hk
        refine ⟨fun hlt => ?_, fun hge => ?_⟩
        · cases ha : ahead (bf ops) i k with
          | false => rfl
          | true =>
            have := ahead_dep ha hI.cl ((hI.loud k u g hk).2 hlt)
            rw [hr.no] at this
            cases this
        · cases ha : ahead (bf ops) k i with
          | false => rfl
          | true =>
            have := (hI.loud k u g hk).1 (Rdy.ahead hI.cl ha hr hki)
            omega
      obtain ⟨c, hcb, hread⟩ := sameAll_spec hsame lam hI.lam0 hmay
      have hcc : ∀ q, c.testBit q = consAt ops rs lam q := fun q => by
        have := hcb q
        rw [← consB_P] at this
        unfold consAt
        cases h1 : c.testBit q <;> cases h2 : consB (bf ops) q 0 (rs.take lam) <;> simp_all
      obtain ⟨x, hx, hrun⟩ := read_sound (nx := (mainAt ops h rs lam).next) (w := w) (HR.sub hI.st.hr fun m o' hm => by
        refine AI.view hI (al := al) hr (fun q ao hq => (hR.al q ao).1 hq) hri (by intro _ _ h; cases h) (fun q hq => ?_) hm
        rw [Bool.and_eq_true] at hq
        refine ⟨hq.1, ?_⟩
        have := hq.2
        rw [hcc] at this
        simpa using this) hread hv2
      unfold Oper.wp
      rw [hrun]
      exact hK lam ρ w _ (AI.still hI hR.chk hr hri hL hd rfl (by intro _ _ h; cases h) hx)
    · obtain ⟨ao, k, ha, rfl⟩ := hkf
      obtain ⟨obj, s, hO, hrun⟩ := alloc_sound ha hv
      obtain ⟨x, hrx, hx⟩ := hrun w
      unfold Oper.wp
      rw [hrx]
      exact hK lam _ _ _ (AI.alloc hI hR.chk hr hri hL hd hO fun ρ' hp => hx ρ' _ hp)
    · rename_i hkd
      obtain ⟨v, H', rfl, hop⟩ := hkf
      have hli : lam ≤ i := by
        rcases Nat.lt_or_ge i lam with h1 | h1
        · have := (hI.loud i v H' hri).2 h1
          rw [hr.no] at this
          cases this
        · exact h1
      have hmain : h1 = mainAt ops h rs lam := by rw [hInv.heap, hR.main_eq hI hr hkd hli]
      have hcons : ∀ q, cons.testBit q = consAt ops rs lam q := fun q => by
        have h2 : cons.testBit q = true ↔ consAt ops rs lam q = true := by
          rw [hInv.cons, consAt_iff]
          constructor
          · rintro ⟨l, u, g, h3, h4⟩
            obtain ⟨h5, h6⟩ := take_get.1 h3
            exact ⟨l, u, g, hR.gap hI hr hkd h6 h5, h6, h4⟩
          · rintro ⟨l, u, g, h3, h4, h5⟩
            exact ⟨l, u, g, take_get.2 ⟨by omega, h4⟩, h5⟩
        cases h3 : cons.testBit q <;> cases h4 : consAt ops rs lam q <;> simp_all
      have hal' : ∀ q ao, (q, ao) ∈ al' → ∃ u, rs[q]? = some (.alloc ao u) := fun q ao hq => by
        obtain ⟨u, hu⟩ := (hInv.al q ao).1 hq
        exact ⟨u, (take_get.1 hu).2⟩
      rw [hmain] at hop
      have hview : ∀ m o', (overlay h.next (fun q => ahead (bf ops) q i && !(cons.testBit q)) al' (mainAt ops h rs lam)).get m = some o' → gF h.next rs L (consAt ops rs lam) (mainAt ops h rs lam) m = some o' := fun m o' hm => by
        refine AI.view hI (al := al') hr hal' hri (by intro _ _ h; cases h) (fun q hq => ?_) hm
        rw [Bool.and_eq_true] at hq
        refine ⟨hq.1, ?_⟩
        have := hq.2
        rw [hcons] at this
        simpa using this
      refine loudOp_wp hc hkd hop (HR.sub (by rw [overlay_next]; exact hI.st.hr) hview) hv fun ρ' x w' hst hx => ?_
      refine hK (i + 1) ρ' w' _ (AI.loudOp hR hI hr hkd hri hL hd overlay_next (fun m o' hm => ?_) hview hst hx)
      rcases overlay_spec hm with ⟨q, h2, h3, rfl⟩ | h2
      · left
        rw [Bool.and_eq_true] at h2
        obtain ⟨u, hu⟩ := hal' _ _ h3
        refine ⟨q, h2.1, ?_, rfl, u, hu⟩
        have := h2.2
        rw [hcons] at this
        simpa using this
      · exact .inr h2
end
end
end Go.Proofs.YthjjpmoifgcepaaGreat.Ex

/-
  The runner: regions, code, calls: what it finds is what the model does, whatever the tape holds. No condition.
-/
namespace Go.Proofs.YthjjpmoifgcepaaGreat.Ex
open Go
noncomputable section
variable [Nums]
section
variable {P : Program} {call : FuncId → List AV → AH → Option (AV × AH)} {nt : Nat} {ops : Array Oper} {ρ : Ren} {w : World}
theorem Stp.up {ρ' : Ren} {g g' : Nat → Option AO} {nx nx' n2 : Nat} {w' : World} (h : Stp ρ g nx w ρ' g' nx' w') (hn : nx' ≤ n2) : Stp ρ g nx w ρ' g' n2 w' :=
  ⟨h.hr.up hn, h.ext, Nat.le_trans h.gr hn, h.os, h.tape, h.output, h.size, h.block, h.live, h.dom⟩
omit [Nums] in
theorem skip_get {h : AH} {k : Nat} : (h.skip k).get = h.get := by cases h; rfl
omit [Nums] in
theorem skip_next {h : AH} {k : Nat} : (h.skip k).next = h.next + k := by cases h; rfl
omit [Nums] in
theorem cnt {p p' : Nat → Bool} {i : Nat} (hp : p i = true) (h : ∀ j, p' j = (p j && decide (j ≠ i))) : ∀ l : List Nat, l.Nodup → i ∈ l → l.countP p' + 1 = l.countP p
  | [], _, hi => by cases hi
  | x :: l, hn, hi => by
    rw [List.nodup_cons] at hn
    by_cases hx : x = i
    · subst hx
      have : ∀ j ∈ l, p' j = p j := fun j hj => by
        rw [h]
        have : j ≠ x := fun he => hn.1 (he ▸ hj)
        simp [this]
      have hc : l.countP p' = l.countP p := by
        clear hi hn
        induction l with
        | nil => rfl
        | cons y l ih =>
          rw [List.countP_cons, List.countP_cons, ih (fun j hj => this j (List.mem_cons_of_mem _ hj)), this y List.mem_cons_self]
      rw [List.countP_cons, List.countP_cons, hc, hp, h]
      simp
    · have hi' : i ∈ l := by
        rcases List.mem_cons.1 hi with h1 | h1
        · exact absurd h1.symm hx
        · exact h1
      have ih := cnt hp h l hn.2 hi'
      rw [List.countP_cons, List.countP_cons, h]
      simp [hx]
      omega
omit [Nums] in
theorem ready_iff {listed : Array Bool} (hs : listed.size = ops.size) {i : Nat} : i ∈ Region.ready .any ops listed ↔ ∃ o, Rdy ops (fun j => listed.getD j false) i o := by
  unfold Region.ready
  rw [List.mem_filter, List.mem_range]
  constructor
  · rintro ⟨h1, h2⟩
    rw [Bool.and_eq_true] at h2
    obtain ⟨o, ho⟩ : ∃ o, ops[i]? = some o := ⟨_, Array.getElem?_eq_getElem h1⟩
    refine ⟨o, ho, ?_, fun e he hb => ?_⟩
    · have := h2.1
      simp only [Array.getD_eq_getD_getElem?, Array.getElem?_eq_getElem (show i < listed.size by omega)] at this ⊢
      simpa using this
    · have := h2.2
      rw [ho] at this
      simp only [Option.map_some, Option.getD_some, Array.all_eq_true_iff_forall_mem] at this
      have := this e (by simpa using he)
      simpa [hb] using this
  · rintro ⟨o, hr⟩
    have h1 : i < ops.size := (Array.getElem?_eq_some_iff.1 hr.op).1
    refine ⟨h1, ?_⟩
    rw [Bool.and_eq_true]
    refine ⟨?_, ?_⟩
    · have := hr.no
      simp only [Array.getD_eq_getD_getElem?, Array.getElem?_eq_getElem (show i < listed.size by omega)] at this ⊢
      simpa using this
    · rw [hr.op]
      simp only [Option.map_some, Option.getD_some, Array.all_eq_true_iff_forall_mem]
      intro e he
      cases hb : Region.binds .any e with
      | false => rfl
      | true => simpa using hr.pre e (by simpa using he) hb
section
variable {env0 : T AV} {h : AH} {rs : List Rk} {al : List (Nat × AO)} {ρ0 : Ren} {w0 : World}
omit [Nums] in
/-- none may come next: all are done -/
theorem ready_nil (hk : chk ops = true) {listed : Array Bool} (hs : listed.size = ops.size) (hn : Region.ready .any ops listed = []) : ∀ i, i < ops.size → listed.getD i false = true := by
  intro i
  induction i using Nat.strongRecOn with
  | _ i ih =>
    intro hi
    cases hL : listed.getD i false with
    | true => rfl
    | false =>
      obtain ⟨o, ho⟩ : ∃ o, ops[i]? = some o := ⟨_, Array.getElem?_eq_getElem hi⟩
      have : i ∈ Region.ready .any ops listed := (ready_iff hs).2 ⟨o, ho, hL, fun e he hb => by
        have := chk_lt hk ho e he hb
        exact ih e.on this (by omega)⟩
      rw [hn] at this
      cases this
theorem any_wp (hR : Reg P call nt ops env0 h rs al) (hc : CallS P call) {Q : Exit → Act → World → Prop}
    (hQ : ∀ L lam ρ w a, AI nt ops env0 h rs ρ0 w0 L lam ρ w a → (∀ i, i < ops.size → L i = true) → Q .normal a w) : ∀ (fuel : Nat) (listed : Array Bool) (lam : Nat) (ρ : Ren) (w : World) (a : Act), listed.size = ops.size →
    (List.range ops.size).countP (fun j => !listed.getD j false) ≤ fuel → AI nt ops env0 h rs ρ0 w0 (fun j => listed.getD j false) lam ρ w a → wpAny P .any ops Q fuel listed a w
  | 0, listed, lam, ρ, w, a, hs, hf, hI => by
    have hall : ∀ i, i < ops.size → listed.getD i false = true := by
      intro i hi
      have h0 : (List.range ops.size).countP (fun j => !listed.getD j false) = 0 := by omega
      rw [List.countP_eq_zero] at h0
      have := h0 i (List.mem_range.2 hi)
      simpa using this
    refine ⟨?_, hQ _ _ _ _ _ hI hall⟩
    rw [List.eq_nil_iff_forall_not_mem]
    intro i hi
    obtain ⟨o, hr⟩ := (ready_iff hs).1 hi
    have := hall i (Array.getElem?_eq_some_iff.1 hr.op).1
    have h2 : listed.getD i false = false := hr.no
    rw [this] at h2
    cases h2
  | fuel + 1, listed, lam, ρ, w, a, hs, hf, hI => by
    refine ⟨fun hn => hQ _ _ _ _ _ hI (ready_nil hR.chk hs hn), fun i hi => ?_⟩
    obtain ⟨o, hr⟩ := (ready_iff hs).1 hi
    have hio : i < ops.size := (Array.getElem?_eq_some_iff.1 hr.op).1
    have hL : ∀ j, (listed.setIfInBounds i true).getD j false = true ↔ listed.getD j false = true ∨ j = i := by
      intro j
      simp only [Array.getD_eq_getD_getElem?, Array.getElem?_setIfInBounds]
      by_cases hij : i = j
      · subst hij
        simp [show i < listed.size by omega]
      · simp [hij, Ne.symm hij]
    refine hR.step hc hI hr (L' := fun j => (listed.setIfInBounds i true).getD j false) hL fun lam' ρ' w' a' hI' => ?_
    refine any_wp hR hc hQ fuel _ lam' ρ' w' a' (by simpa using hs) ?_ hI'
    have := cnt (p := fun j => !listed.getD j false) (p' := fun j => !(listed.setIfInBounds i true).getD j false) (i := i) (by simpa using hr.no) (fun j => by
      have := hL j
      cases h1 : (listed.setIfInBounds i true).getD j false <;> cases h2 : listed.getD j false <;> by_cases h3 : j = i <;> simp_all) (List.range ops.size) List.nodup_range (List.mem_range.2 hio)
    omega
end
/-- A REGION THAT DRAWS ITS ORDER -/
theorem regDr_wp (hc : CallS P call) {env env' : T AV} {h h' : AH} {a : Act} (hreg : regDr P call nt ops env h = some (env', h')) (hE : ER ρ env nt a) (hH : HR ρ h.get h.next w) {Q : Exit → Act → World → Prop}
    (hQ : ∀ ρ' w' a', Stp ρ h.get h.next w ρ' h'.get h'.next w' → ER ρ' env' nt a' → Q .normal a' w') : wpAny P .any ops Q ops.size (Array.replicate ops.size false) a w := by
  unfold regDr at hreg
  split at hreg <;> first | (cases hreg; done) | skip
  rename_i hk
  split at hreg <;> first | (cases hreg; done) | skip
  split at hreg <;> first | (cases hreg; done) | skip
  rename_i rs envF hF cons al hd
  split at hreg <;> first | (cases hreg; done) | skip
  rename_i hrd
  simp only [Option.some.injEq, Prod.mk.injEq] at hreg
  obtain ⟨rfl, rfl⟩ := hreg
  have hInv0 : InvR ops (bf ops) env (h.skip ops.size) ([] : List Rk).reverse env (h.skip ops.size) 0 [] := by
    refine ⟨fun t v hv => .inr ⟨by simp [below], hv⟩, rfl, fun a => by simp [ConsP], fun a ao => by simp⟩
  obtain ⟨tail, e1, e2, hInv, hfact⟩ := regD_facts (env0 := env) (h0 := h.skip ops.size) ops.toList env (h.skip ops.size) 0 [] [] hd (by simp) hInv0
  simp only [List.reverse_nil, List.nil_append, List.length_nil, Nat.zero_add] at e1 hfact
  subst e1
  have hlen : rs.length = ops.size := by simpa using e2
  have hreads := reads_facts (nt := nt) (b := bf ops) (base := h.next) (env0 := env) (h0 := h.skip ops.size) (all := rs) (al := al) ops.toList [] rs env hrd (by simp) (fun t v hv => .inr ⟨by simp [below], hv⟩)
  simp only [List.nil_append, List.length_nil, Nat.zero_add] at hreads
  have hR : Reg P call nt ops env h rs al := by
    refine ⟨hk, hlen, fun i r o hr ho => hfact i r o hr (by simpa using ho), fun i v o hr ho hkd => ?_, hInv.al⟩
    obtain ⟨en, vs, h1, h2, h3⟩ := hreads i v o hr (by simpa using ho) hkd
    exact ⟨en, vs, fun t u hu => (h1 t u hu).ext fun k hk => by rw [List.getElem?_take, if_pos hk], h2, h3⟩
  have hg0 : ∀ m o, gF h.next rs (fun j => (Array.replicate ops.size false).getD j false) (consAt ops rs 0) (mainAt ops h rs 0) m = some o → h.get m = some o := by
    intro m o hm
    rcases gF_cases hm with ⟨q, u, _, _, h2, _⟩ | ⟨h1, _⟩
    · simp only [Array.getD_eq_getD_getElem?, Array.getElem?_replicate] at h2
      split at h2 <;> simp at h2
    · have : (mainAt ops h rs 0).get = h.get := by unfold mainAt; rw [List.take_zero]; exact skip_get
      rw [← this]
      exact h1
  have hm0 : mainAt ops h rs 0 = h.skip ops.size := by unfold mainAt; rw [List.take_zero]; rfl
  refine any_wp (ρ0 := ρ) (w0 := w) hR hc (fun L lam ρ' w' a' hI hall => ?_) ops.size _ 0 ρ w a (by simp) ?_ ?_
  · have hlam : rs.take lam = rs ∨ ∀ q u g, rs[q]? = some (.loud u g) → q < lam := .inr fun q u g hq => (hI.loud q u g hq).1 (hall q (by rw [← hlen]; exact (List.getElem?_eq_some_iff.1 hq).1))
    have hlast : ∀ q u g, rs[q]? = some (.loud u g) → q < lam := fun q u g hq => (hI.loud q u g hq).1 (hall q (by rw [← hlen]; exact (List.getElem?_eq_some_iff.1 hq).1))
    have hmain : mainAt ops h rs lam = hF := by
      rw [hInv.heap]
      unfold mainAt
      have : rs = rs.take lam ++ rs.drop lam := (List.take_append_drop _ _).symm
      conv => rhs; rw [this]
      rw [heapOf_append, heapOf_none (q := rs.drop lam)]
      intro r hmem
      obtain ⟨k, hk⟩ := List.mem_iff_getElem?.1 hmem
      rw [List.getElem?_drop] at hk
      cases r with
      | loud u g =>
        have := hlast _ u g hk
        omega
      | _ => rfl
    have hcons : ∀ q, cons.testBit q = consAt ops rs lam q := fun q => by
      have h2 : cons.testBit q = true ↔ consAt ops rs lam q = true := by
        rw [hInv.cons, consAt_iff]
        constructor
        · rintro ⟨l, u, g, h3, h4⟩
          exact ⟨l, u, g, hlast l u g h3, h3, h4⟩
        · rintro ⟨l, u, g, _, h4, h5⟩
          exact ⟨l, u, g, h4, h5⟩
      cases h3 : cons.testBit q <;> cases h4 : consAt ops rs lam q <;> simp_all
    refine hQ ρ' w' a' ?_ ⟨hI.dz, hI.size, fun t v hv => hI.val t v ?_⟩
    · have := hI.st
      rw [hmain] at this
      rw [overlay_next]
      refine Stp.sub this fun m o hm => ?_
      rcases overlay_spec hm with ⟨q, h1, h2, rfl⟩ | h1
      · obtain ⟨u, hu⟩ := (hInv.al q o).1 h2
        refine gF_alloc hu (hall q (by rw [← hlen]; exact (List.getElem?_eq_some_iff.1 hu).1)) ?_
        rw [hcons] at h1
        simpa using h1
      · refine gF_main h1 fun q ao v he hq _ => ?_
        subst he
        exact hI.mask q (by rw [← hlen]; exact (List.getElem?_eq_some_iff.1 hq).1) (by rw [hmain, h1]; rfl)
    · have := hInv.env t v hv
      rcases this with ⟨q, r, h1, h2, h3, h4, h5⟩ | ⟨h1, h2⟩
      · refine .inl ⟨q, r, hall q (by rw [← hlen]; exact (List.getElem?_eq_some_iff.1 h3).1), h2, h3, h4, fun j hj hj' => h5 j ?_ hj'⟩
        have := hI.lt j hj
        simp [below, hlen, this]
      · refine .inr ⟨fun j hj hj' => h1 j ?_ hj', h2⟩
        have := hI.lt j hj
        simp [below, hlen, this]
  · have := List.countP_le_length (p := fun j => !(Array.replicate ops.size false).getD j false) (l := List.range ops.size)
    simpa using this
  · have hLf : ∀ j, (Array.replicate ops.size false).getD j false = false := by
      intro j
      simp only [Array.getD_eq_getD_getElem?, Array.getElem?_replicate]
      split <;> rfl
    refine ⟨fun i o _ hi => ?_, fun i hi => ?_, .inl rfl, fun q u g _ => ?_, ?_, ?_, fun i hi _ => ?_, fun i hi hs => ?_, hE.dz, hE.size, fun t v hv => ?_⟩
    · rw [hLf] at hi; cases hi
    · rw [hLf] at hi; cases hi
    · rw [hLf]; simp
    · rw [hm0, skip_next]
      have := (Stp.refl hH).up (n2 := h.next + ops.size) (by omega)
      exact Stp.sub this (by rw [hm0] at hg0; exact hg0)
    · rw [hm0, skip_next]; omega
    · exact hH.fresh _ (by omega)
    · rw [hm0, skip_get] at hs
      obtain ⟨o, ho⟩ := Option.isSome_iff_exists.1 hs
      obtain ⟨b, s, hb, _⟩ := hH.obj _ _ ho
      rw [hH.fresh _ (by omega)] at hb
      cases hb
    · rcases hv with ⟨q, r, h1, _⟩ | ⟨_, h2⟩
      · dsimp only at h1
        rw [hLf] at h1; cases h1
      · exact hE.val t v h2
end
end
end Go.Proofs.YthjjpmoifgcepaaGreat.Ex
