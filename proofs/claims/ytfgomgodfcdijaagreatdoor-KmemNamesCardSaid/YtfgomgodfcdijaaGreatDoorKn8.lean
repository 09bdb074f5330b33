/-
  Texts of this claim, joined. No condition.
-/
import Derived.Test.YtfgomgodfcdijaaGreatDoorKn7
import Derived.Orders
/-
  The runner: a region that draws its order: what was found in the order of the text. No condition.
-/
namespace Go.Proofs.YtfgomgodfcdijaaGreatDoor.Ex
open Go
variable [Nums]
/-- slots against named values -/
structure ERd (ds : List Deferred) (ρ : Ren) (env : T AV) (nt : Nat) (a : Act) : Prop where
  dz : a.defers = ds
  size : a.tmps.size = nt
  val : ∀ t v, env.get t = some v → ∃ x, a.tmps[t]? = some x ∧ VR ρ v x
/-- .. where nothing is deferred -/
abbrev ER (ρ : Ren) (env : T AV) (nt : Nat) (a : Act) : Prop := ERd [] ρ env nt a
theorem ER.mk {ρ : Ren} {env : T AV} {nt : Nat} {a : Act} (h1 : a.defers = []) (h2 : a.tmps.size = nt) (h3 : ∀ t v, env.get t = some v → ∃ x, a.tmps[t]? = some x ∧ VR ρ v x) : ER ρ env nt a := ⟨h1, h2, h3⟩
theorem ER.dz {ρ : Ren} {env : T AV} {nt : Nat} {a : Act} (h : ER ρ env nt a) : a.defers = [] := ERd.dz h
theorem ER.size {ρ : Ren} {env : T AV} {nt : Nat} {a : Act} (h : ER ρ env nt a) : a.tmps.size = nt := ERd.size h
theorem ER.val {ρ : Ren} {env : T AV} {nt : Nat} {a : Act} (h : ER ρ env nt a) : ∀ t v, env.get t = some v → ∃ x, a.tmps[t]? = some x ∧ VR ρ v x := ERd.val h
/-- an operation's place in the table -/
def dstAt (ops : Array Oper) (i : Nat) : Option Tmp := (ops[i]?).bind (·.dst)
/-- what a slot holds when the listed operations are done -/
def Val (ops : Array Oper) (env : T AV) (rs : List Rk) (L : Nat → Bool) (t : Nat) (v : AV) : Prop :=
  (∃ i r, L i = true ∧ dstAt ops i = some t ∧ rs[i]? = some r ∧ v = r.res ∧ ∀ j, L j = true → dstAt ops j = some t → j ≤ i) ∨ ((∀ j, L j = true → dstAt ops j ≠ some t) ∧ env.get t = some v)
def below (n : Nat) : Nat → Bool := fun j => decide (j < n)
def isL : Rk → Bool
  | .loud _ _ => true
  | _ => false
def heapOf (h0 : AH) : List Rk → AH
  | [] => h0
  | .loud _ h :: l => heapOf h l
  | _ :: l => heapOf h0 l
/-- which blocks of the region lie in memory by now -/
def ConsP (b : T Nat) (rs : List Rk) (a : Nat) : Prop := ∃ l v h, rs[l]? = some (.loud v h) ∧ ahead b a l = true
omit [Nums] in
theorem heapOf_append (h0 : AH) : ∀ (p q : List Rk), heapOf h0 (p ++ q) = heapOf (heapOf h0 p) q
  | [], _ => rfl
  | .loud _ h :: p, q => heapOf_append h p q
  | .skip :: p, q => heapOf_append h0 p q
  | .val _ :: p, q => heapOf_append h0 p q
  | .alloc _ _ :: p, q => heapOf_append h0 p q
omit [Nums] in
theorem heapOf_none {h0 : AH} : ∀ {q : List Rk}, (∀ r ∈ q, isL r = false) → heapOf h0 q = h0
  | [], _ => rfl
  | .loud _ _ :: _, h => by have := h _ List.mem_cons_self; cases this
  | .skip :: q, h => by simp only [heapOf]; exact heapOf_none fun r hr => h r (List.mem_cons_of_mem _ hr)
  | .val _ :: q, h => by simp only [heapOf]; exact heapOf_none fun r hr => h r (List.mem_cons_of_mem _ hr)
  | .alloc _ _ :: q, h => by simp only [heapOf]; exact heapOf_none fun r hr => h r (List.mem_cons_of_mem _ hr)
omit [Nums] in
theorem overlay_spec {base : Nat} {see : Nat → Bool} : ∀ {al : List (Nat × AO)} {h : AH} {m : Nat} {o : AO}, (overlay base see al h).get m = some o → (∃ a, see a = true ∧ (a, o) ∈ al ∧ m = base + a) ∨ h.get m = some o
  | [], h, m, o, hg => .inr hg
  | (a, o') :: al, h, m, o, hg => by
    unfold overlay at hg
    split at hg
    · rename_i hs
      rcases put_spec hg with ⟨h1, h2⟩ | ⟨_, h2⟩
      · cases h2
        exact .inl ⟨a, hs, List.mem_cons_self, h1⟩
      · rcases overlay_spec h2 with ⟨a', h3, h4, h5⟩ | h3
        · exact .inl ⟨a', h3, List.mem_cons_of_mem _ h4, h5⟩
        · exact .inr h3
    · rcases overlay_spec hg with ⟨a', h3, h4, h5⟩ | h3
      · exact .inl ⟨a', h3, List.mem_cons_of_mem _ h4, h5⟩
      · exact .inr h3
omit [Nums] in
theorem overlay_next {base : Nat} {see : Nat → Bool} : ∀ {al : List (Nat × AO)} {h : AH}, (overlay base see al h).next = h.next
  | [], _ => rfl
  | (a, o') :: al, h => by
    unfold overlay
    split
    · rw [put_next]; exact overlay_next
    · exact overlay_next
/-- where the runner stands behind some operations -/
structure InvR (ops : Array Oper) (b : T Nat) (env0 : T AV) (h0 : AH) (p : List Rk) (env : T AV) (h : AH) (cons : Nat) (al : List (Nat × AO)) : Prop where
  env : ∀ t v, env.get t = some v → Val ops env0 p (below p.length) t v
  heap : h = heapOf h0 p
  cons : ∀ a, cons.testBit a = true ↔ ConsP b p a
  al : ∀ a ao, (a, ao) ∈ al ↔ ∃ v, p[a]? = some (.alloc ao v)
section
variable (P : Program) (call : FuncId → List AV → AH → Option (AV × AH)) (nt : Nat) (ops : Array Oper) (b : T Nat) (base : Nat) (env0 : T AV) (h0 : AH)
def KF (o : Oper) (i : Nat) (vs : List AV) (h : AH) (cons : Nat) (al : List (Nat × AO)) (r : Rk) : Prop := match kd o.op with
  | .pure => ∃ v, apure P o.op vs = some v ∧ r = .val v
  | .read => ∃ v, r = .val v
  | .alloc => ∃ ao k, aalloc P o.op vs = some (ao, k) ∧ r = .alloc ao (k.at (base + i))
  | .loud => ∃ v h', r = .loud v h' ∧ opA P call o.op vs (overlay base (fun a => ahead b a i && !(cons.testBit a)) al h) = some (v, h')
def FactAt (p : List Rk) (o : Oper) (i : Nat) (r : Rk) : Prop :=
  ∃ env h cons al, InvR ops b env0 h0 p env h cons al ∧ (∀ d, o.dst = some d → d < nt) ∧
    ((guardA ops o env = some false ∧ r = .skip) ∨ (guardA ops o env = some true ∧ ∃ vs, evs env o.op.operands.toList = some vs ∧ KF P call b base o i vs h cons al r))
end
section
variable {P : Program} {call : FuncId → List AV → AH → Option (AV × AH)} {nt : Nat} {ops : Array Oper} {b : T Nat} {base : Nat} {env0 : T AV} {h0 : AH}
omit [Nums] in
theorem putA_spec {nt : Nat} {env env' : T AV} {dst : Option Tmp} {v : AV} (h : putA nt env dst v = some env') : (∀ d, dst = some d → d < nt) ∧ ∀ t u, env'.get t = some u → (dst = some t ∧ u = v) ∨ (dst ≠ some t ∧ env.get t = some u) := by
  unfold putA at h
  split at h
  · simp only [Option.some.injEq] at h
    subst h
    exact ⟨fun d hd => (by cases hd), fun t u hu => .inr ⟨(by intro h; cases h), hu⟩⟩
  · rename_i d
    split at h <;> first | (cases h; done) | skip
    rename_i hlt
    simp only [Option.some.injEq] at h
    subst h
    refine ⟨fun d' hd => by cases hd; simpa using hlt, fun t u hu => ?_⟩
    rcases T.get_put hu with ⟨h1, h2⟩ | ⟨h1, h2⟩
    · subst h1
      cases h2
      exact .inl ⟨rfl, rfl⟩
    · exact .inr ⟨fun he => h1 (by cases he; rfl), h2⟩
omit [Nums] in
/-- one more operation -/
theorem val_snoc {p : List Rk} {r : Rk} {o : Oper} {env env' : T AV} (hi : ops[p.length]? = some o) (he : ∀ t v, env.get t = some v → Val ops env0 p (below p.length) t v)
    (hp : ∀ t u, env'.get t = some u → (o.dst = some t ∧ u = r.res) ∨ (o.dst ≠ some t ∧ env.get t = some u)) : ∀ t v, env'.get t = some v → Val ops env0 (p ++ [r]) (below (p ++ [r]).length) t v := by
  intro t v hv
  have hd : dstAt ops p.length = o.dst := by simp [dstAt, hi]
  have hlen : (p ++ [r]).length = p.length + 1 := by simp
  rcases hp t v hv with ⟨h1, h2⟩ | ⟨h1, h2⟩
  · refine .inl ⟨p.length, r, by simp [below], by rw [hd, h1], by simp, h2, fun j hj _ => ?_⟩
    simp [below] at hj
    omega
  · rcases he t v h2 with ⟨i, r', h3, h4, h5, h6, h7⟩ | ⟨h3, h4⟩
    · have hil : i < p.length := by simpa [below] using h3
      refine .inl ⟨i, r', by simp [below]; omega, h4, by rw [List.getElem?_append_left hil]; exact h5, h6, fun j hj hj' => ?_⟩
      simp [below] at hj
      by_cases hjp : j = p.length
      · subst hjp
        rw [hd] at hj'
        exact absurd hj' h1
      · exact h7 j (by simp [below]; omega) hj'
    · refine .inr ⟨fun j hj hj' => ?_, h4⟩
      simp [below] at hj
      by_cases hjp : j = p.length
      · subst hjp
        rw [hd] at hj'
        exact h1 hj'
      · exact h3 j (by simp [below]; omega) hj'
omit [Nums] in
theorem snoc_get {p : List Rk} {r x : Rk} {i : Nat} : (p ++ [r])[i]? = some x ↔ p[i]? = some x ∨ (i = p.length ∧ r = x) := by
  by_cases h : i < p.length
  · rw [List.getElem?_append_left h]
    exact ⟨.inl, fun h' => h'.elim id fun h' => by omega⟩
  · rw [List.getElem?_append_right (by omega), List.getElem?_eq_none (l := p) (by omega)]
    by_cases h2 : i = p.length
    · subst h2; simp
    · have : i - p.length = (i - p.length - 1) + 1 := by omega
      rw [this]
      simp [h2]
theorem regD_facts {rsF : List Rk} {envF : T AV} {hF : AH} {consF : Nat} {alF : List (Nat × AO)} : ∀ (l : List Oper) (env : T AV) (h : AH) (cons : Nat) (al : List (Nat × AO)) (rs : List Rk),
    regD P call nt ops b base rs.length l env h cons al rs = some (rsF, envF, hF, consF, alF) → (∀ k, l[k]? = ops[rs.length + k]?) → InvR ops b env0 h0 rs.reverse env h cons al →
    ∃ tail, rsF = rs.reverse ++ tail ∧ tail.length = l.length ∧ InvR ops b env0 h0 rsF envF hF consF alF ∧
      ∀ (k : Nat) r o, tail[k]? = some r → l[k]? = some o → FactAt P call nt ops b base env0 h0 (rs.reverse ++ tail.take k) o (rs.length + k) r
  | [], env, h, cons, al, rs, hd, _, hI => by
    simp only [regD, Option.some.injEq, Prod.mk.injEq] at hd
    obtain ⟨rfl, rfl, rfl, rfl, rfl⟩ := hd
    exact ⟨[], by simp, rfl, hI, by simp⟩
  | o :: l, env, h, cons, al, rs, hd, hl, hI => by
    have ho : ops[rs.reverse.length]? = some o := by simpa using (hl 0).symm
    have hl' : ∀ r, ∀ k, l[k]? = ops[(r :: rs : List Rk).length + k]? := fun r k => by
      have := hl (k + 1)
      rw [List.getElem?_cons_succ] at this
      rw [this]
      congr 1
      simp only [List.length_cons]
      omega
    -- what the step gives
    have step : ∀ (r : Rk) (env' : T AV) (h' : AH) (cons' : Nat) (al' : List (Nat × AO)), InvR ops b env0 h0 (rs.reverse ++ [r]) env' h' cons' al' → FactAt P call nt ops b base env0 h0 rs.reverse o rs.length r →
        regD P call nt ops b base (Nat.add rs.length 1) l env' h' cons' al' (r :: rs) = some (rsF, envF, hF, consF, alF) →
        ∃ tail, rsF = rs.reverse ++ tail ∧ tail.length = (o :: l).length ∧ InvR ops b env0 h0 rsF envF hF consF alF ∧
          ∀ (k : Nat) r o', tail[k]? = some r → (o :: l)[k]? = some o' → FactAt P call nt ops b base env0 h0 (rs.reverse ++ tail.take k) o' (rs.length + k) r := by
      intro r env' h' cons' al' hI' hF' hd'
      obtain ⟨tail, h1, h2, h3, h4⟩ := regD_facts l env' h' cons' al' (r :: rs) hd' (hl' r) (by simpa using hI')
      refine ⟨r :: tail, by rw [h1]; simp, by simp [h2], h3, fun k r' o' hk ho' => ?_⟩
      cases k with
      | zero =>
        simp at hk ho'
        subst hk; subst ho'
        simpa using hF'
      | succ k =>
        have := h4 k r' o' (by simpa using hk) (by simpa using ho')
        simp only [List.reverse_cons, List.append_assoc, List.singleton_append, List.length_cons] at this
        rw [show rs.length + (k + 1) = rs.length + 1 + k from by omega]
        simpa using this
    unfold regD at hd
    split at hd <;> first | (cases hd; done) | skip
    · rename_i hgd
      split at hd <;> first | (cases hd; done) | skip
      rename_i env' hput
      obtain ⟨hdb, hpv⟩ := putA_spec hput
      refine step .skip env' h cons al ⟨val_snoc ho hI.env hpv, ?_, ?_, ?_⟩ ⟨env, h, cons, al, hI, hdb, .inl ⟨hgd, rfl⟩⟩ hd
      · rw [heapOf_append, hI.heap]; rfl
      · intro a
        rw [hI.cons]
        constructor
        · rintro ⟨q, v, hh, h1, h2⟩
          exact ⟨q, v, hh, snoc_get.2 (.inl h1), h2⟩
        · rintro ⟨q, v, hh, h1, h2⟩
          rcases snoc_get.1 h1 with h1 | ⟨_, h1⟩
          · exact ⟨q, v, hh, h1, h2⟩
          · cases h1
      · intro a ao
        rw [hI.al]
        constructor
        · rintro ⟨v, h1⟩
          exact ⟨v, snoc_get.2 (.inl h1)⟩
        · rintro ⟨v, h1⟩
          rcases snoc_get.1 h1 with h1 | ⟨_, h1⟩
          · exact ⟨v, h1⟩
          · cases h1
    · rename_i hgd
      split at hd <;> first | (cases hd; done) | skip
      rename_i vs hvs
      split at hd <;> first | (cases hd; done) | skip
      rename_i r h' cons' al' hk
      split at hd <;> first | (cases hd; done) | skip
      rename_i env' hput
      obtain ⟨hdb, hpv⟩ := putA_spec hput
      have inv : ∀ (r' : Rk), (∀ t u, env'.get t = some u → (o.dst = some t ∧ u = r'.res) ∨ (o.dst ≠ some t ∧ env.get t = some u)) → isL r' = false → (∀ ao v, r' ≠ .alloc ao v) → InvR ops b env0 h0 (rs.reverse ++ [r']) env' h cons al := by
        intro r' hpv' hnl hna
        refine ⟨val_snoc ho hI.env hpv', ?_, ?_, ?_⟩
        · rw [heapOf_append, ← hI.heap, heapOf_none (by simpa using hnl)]
        · intro a
          rw [hI.cons]
          constructor
          · rintro ⟨q, v, hh, h1, h2⟩
            exact ⟨q, v, hh, snoc_get.2 (.inl h1), h2⟩
          · rintro ⟨q, v, hh, h1, h2⟩
            rcases snoc_get.1 h1 with h1 | ⟨_, h1⟩
            · exact ⟨q, v, hh, h1, h2⟩
            · subst h1; cases hnl
        · intro a ao
          rw [hI.al]
          constructor
          · rintro ⟨v, h1⟩
            exact ⟨v, snoc_get.2 (.inl h1)⟩
          · rintro ⟨v, h1⟩
            rcases snoc_get.1 h1 with h1 | ⟨_, h1⟩
            · exact ⟨v, h1⟩
            · exact absurd h1 (hna _ _)
      cases hkd : kd o.op with
      | pure =>
        rw [hkd] at hk
        dsimp only at hk
        split at hk <;> first | (cases hk; done) | skip
        rename_i v hv
        simp only [Option.some.injEq, Prod.mk.injEq] at hk
        obtain ⟨rfl, rfl, rfl, rfl⟩ := hk
        exact step _ env' h cons al (inv _ hpv rfl (by intro _ _ h; cases h)) ⟨env, h, cons, al, hI, hdb, .inr ⟨hgd, vs, hvs, by unfold KF; rw [hkd]; exact ⟨v, hv, rfl⟩⟩⟩ hd
      | read =>
        rw [hkd] at hk
        dsimp only at hk
        split at hk <;> first | (cases hk; done) | skip
        rename_i v hv
        simp only [Option.some.injEq, Prod.mk.injEq] at hk
        obtain ⟨rfl, rfl, rfl, rfl⟩ := hk
        exact step _ env' h cons al (inv _ hpv rfl (by intro _ _ h; cases h)) ⟨env, h, cons, al, hI, hdb, .inr ⟨hgd, vs, hvs, by unfold KF; rw [hkd]; exact ⟨v, rfl⟩⟩⟩ hd
      | alloc =>
        rw [hkd] at hk
        dsimp only at hk
        split at hk <;> first | (cases hk; done) | skip
        rename_i ao k hv
        simp only [Option.some.injEq, Prod.mk.injEq] at hk
        obtain ⟨rfl, rfl, rfl, rfl⟩ := hk
        refine step _ env' h cons _ ⟨val_snoc ho hI.env hpv, ?_, ?_, ?_⟩ ⟨env, h, cons, al, hI, hdb, .inr ⟨hgd, vs, hvs, by unfold KF; rw [hkd]; exact ⟨ao, k, hv, rfl⟩⟩⟩ hd
        · rw [heapOf_append, ← hI.heap]; rfl
        · intro a
          rw [hI.cons]
          constructor
          · rintro ⟨q, v, hh, h1, h2⟩
            exact ⟨q, v, hh, snoc_get.2 (.inl h1), h2⟩
          · rintro ⟨q, v, hh, h1, h2⟩
            rcases snoc_get.1 h1 with h1 | ⟨_, h1⟩
            · exact ⟨q, v, hh, h1, h2⟩
            · cases h1
        · intro a ao'
          rw [List.mem_cons, hI.al]
          constructor
          · rintro (h1 | ⟨v, h1⟩)
            · cases h1
              exact ⟨_, snoc_get.2 (.inr ⟨by simp, rfl⟩)⟩
            · exact ⟨v, snoc_get.2 (.inl h1)⟩
          · rintro ⟨v, h1⟩
            rcases snoc_get.1 h1 with h1 | ⟨h0, h1⟩
            · exact .inr ⟨v, h1⟩
            · cases h1
              left
              rw [h0]
              simp
      | loud =>
        rw [hkd] at hk
        dsimp only at hk
        split at hk <;> first | (cases hk; done) | skip
        rename_i v h1 hv
        simp only [Option.some.injEq, Prod.mk.injEq] at hk
        obtain ⟨rfl, rfl, rfl, rfl⟩ := hk
        refine step _ env' _ _ al ⟨val_snoc ho hI.env hpv, ?_, ?_, ?_⟩ ⟨env, h, cons, al, hI, hdb, .inr ⟨hgd, vs, hvs, by unfold KF; rw [hkd]; exact ⟨v, _, rfl, hv⟩⟩⟩ hd
        · rw [heapOf_append]; rfl
        · intro a
          rw [Nat.testBit_or, Bool.or_eq_true, hI.cons]
          constructor
          · rintro (⟨q, v, hh, h1, h2⟩ | h1)
            · exact ⟨q, v, hh, snoc_get.2 (.inl h1), h2⟩
            · exact ⟨rs.length, _, _, snoc_get.2 (.inr ⟨by simp, rfl⟩), h1⟩
          · rintro ⟨q, v, hh, h1, h2⟩
            rcases snoc_get.1 h1 with h1 | ⟨h3, h1⟩
            · exact .inl ⟨q, v, hh, h1, h2⟩
            · right
              rw [h3, List.length_reverse] at h2
              exact h2
        · intro a ao
          rw [hI.al]
          constructor
          · rintro ⟨v, h1⟩
            exact ⟨v, snoc_get.2 (.inl h1)⟩
          · rintro ⟨v, h1⟩
            rcases snoc_get.1 h1 with h1 | ⟨_, h1⟩
            · exact ⟨v, h1⟩
            · cases h1
end
end Go.Proofs.YtfgomgodfcdijaaGreatDoor.Ex

/-
  The runner: a region that draws its order: what was checked of it. No condition.
-/
namespace Go.Proofs.YtfgomgodfcdijaaGreatDoor.Ex
open Go
mutual
theorem AV.beq_eq : ∀ {a b : AV}, AV.beq a b = true → a = b
  | .bool a, b, h => by cases b <;> simp [AV.beq] at h; rw [h]
  | .int k a, b, h => by cases b <;> simp [AV.beq] at h; rw [h.1, h.2]
  | .sym k e, b, h => by cases b <;> simp [AV.beq] at h; rw [h.1, SE.beq_eq h.2]
  | .bsym c p, b, h => by cases b <;> simp [AV.beq] at h; rw [Cnd.beq_eq h.1, h.2]
  | .eptr n e s j, b, h => by cases b <;> simp [AV.beq] at h; rw [h.1.1, SE.beq_eq h.1.2, h.2.1, h.2.2]
  | .dsl n e s, b, h => by cases b <;> simp [AV.beq] at h; rw [h.1, SE.beq_eq h.2.1, h.2.2]
  | .ssl n e l s, b, h => by cases b <;> simp [AV.beq] at h; rw [h.1.1, SE.beq_eq h.1.2, h.2.1, h.2.2]
  | .rsl i, b, h => by cases b <;> simp [AV.beq] at h; rw [h]
  | .rptr i e, b, h => by cases b <;> simp [AV.beq] at h; rw [h.1, SE.beq_eq h.2]
  | .str _, b, h => by cases b <;> simp [AV.beq] at h
  | .nilp, b, h => by cases b <;> simp [AV.beq] at h; rfl
  | .ptr n o, b, h => by
    cases b <;> simp [AV.beq] at h
    rw [h.1, h.2]
  | .gptr n o, b, h => by
    cases b <;> simp [AV.beq] at h
    rw [h.1, h.2]
  | .nilsl, b, h => by cases b <;> simp [AV.beq] at h; rfl
  | .sl n o l s r, b, h => by
    cases b <;> simp [AV.beq] at h
    obtain ⟨h1, h2, h3, h4, h5⟩ := h
    rename_i n' o' l' s' r'
    have : r = r' := by
      cases r <;> cases r' <;> first | rfl | (cases h5; done) | skip
      simp at h5
      rw [h5]
    rw [h1, h2, h3, h4, this]
  | .esl n, b, h => by cases b <;> simp [AV.beq] at h; rw [h]
  | .zsl, b, h => by cases b <;> simp [AV.beq] at h; rfl
  | .osl e, b, h => by cases b <;> simp [AV.beq] at h; rw [SE.beq_eq h]
  | .nilmap, b, h => by cases b <;> simp [AV.beq] at h; rfl
  | .map n, b, h => by cases b <;> simp [AV.beq] at h; rw [h]
  | .fn f x y, b, h => by
    cases b with
    | fn f' x' y' =>
      cases f <;> cases f' <;> simp [AV.beq] at h
      obtain ⟨h1, h2, h3⟩ := h
      rw [h1, AV.beqs_eq h2, AV.beqs_eq h3]
    | _ => cases f <;> simp [AV.beq] at h
  | .nilfn, b, h => by cases b <;> simp [AV.beq] at h; rfl
  | .nilif, b, h => by cases b <;> simp [AV.beq] at h; rfl
  | .ifc t v, b, h => by
    cases b <;> simp [AV.beq] at h
    rw [h.1, AV.beq_eq h.2]
  | .agg l, b, h => by
    cases b <;> simp [AV.beq] at h
    rw [AV.beqs_eq h]
  | .tup l, b, h => by
    cases b <;> simp [AV.beq] at h
    rw [AV.beqs_eq h]
theorem AV.beqs_eq : ∀ {a b : List AV}, AV.beqs a b = true → a = b
  | [], b, h => by cases b <;> simp [AV.beqs] at h; rfl
  | x :: a, b, h => by
    cases b with
    | nil => simp [AV.beqs] at h
    | cons y b =>
      simp [AV.beqs] at h
      rw [AV.beq_eq h.1, AV.beqs_eq h.2]
end
variable [Nums]
section
variable {P : Program} {call : FuncId → List AV → AH → Option (AV × AH)} {nt : Nat} {ops : Array Oper} {b : T Nat} {base : Nat} {env0 : T AV} {h0 : AH}
omit [Nums] in
theorem take_get {α : Type} {l : List α} {n i : Nat} {x : α} : (l.take n)[i]? = some x ↔ i < n ∧ l[i]? = some x := by
  rw [List.getElem?_take]
  by_cases h : i < n <;> simp [h]
omit [Nums] in
theorem Val.ext {p q : List Rk} {n t : Nat} {v : AV} (h : Val ops env0 p (below n) t v) (he : ∀ i, i < n → p[i]? = q[i]?) : Val ops env0 q (below n) t v := by
  rcases h with ⟨i, r, h1, h2, h3, h4, h5⟩ | h
  · refine .inl ⟨i, r, h1, h2, ?_, h4, h5⟩
    rw [← he i (by simpa [below] using h1)]
    exact h3
  · exact .inr h
omit [Nums] in
theorem mayAt_ok {i j : Nat} : ∀ {rs : List Rk} {l : Nat}, (∀ (k : Nat) v h, rs[k]? = some (.loud v h) → (l + k < j → ahead b i (l + k) = false) ∧ (j ≤ l + k → ahead b (l + k) i = false)) → mayAt b i j l rs = true
  | [], _, _ => rfl
  | r :: rs, l, h => by
    have ih : mayAt b i j (Nat.add l 1) rs = true := mayAt_ok fun k v h' hk => by
      have := h (k + 1) v h' (by simpa using hk)
      have e : Nat.add l 1 + k = l + (k + 1) := by show l + 1 + k = _; omega
      rw [e]
      exact this
    cases r with
    | loud v h' =>
      have := h 0 v h' rfl
      rw [Nat.add_zero] at this
      unfold mayAt
      split
      · rename_i hlt
        rw [this.1 (by simpa using hlt)]
        exact ih
      · rename_i hlt
        rw [this.2 (by have := blt_no hlt; omega)]
        exact ih
    | skip => exact ih
    | val _ => exact ih
    | alloc _ _ => exact ih
def ReadAt (P : Program) (b : T Nat) (base : Nat) (h0 : AH) (all : List Rk) (al : List (Nat × AO)) (op : Op) (vs : List AV) (v : AV) (i j : Nat) : Prop :=
  mayAt b i j 0 all = true → ∃ c : Nat, (∀ a, c.testBit a = true ↔ ConsP b (all.take j) a) ∧ aread P op vs (overlay base (fun a => ahead b a i && !(c.testBit a)) al (heapOf h0 (all.take j))) = some v
theorem next_spec {all : List Rk} {al : List (Nat × AO)} {op : Op} {vs : List AV} {v : AV} {i : Nat} : ∀ (rs pre : List Rk) (cons : Nat), all = pre ++ rs → (∀ a, cons.testBit a = true ↔ ConsP b pre a) →
    sameNext P b base all al op vs v i pre.length (heapOf h0 pre) cons rs = true → ∀ (q : Nat) u h, pre.length ≤ q → all[q]? = some (.loud u h) → ReadAt P b base h0 all al op vs v i (q + 1)
  | [], pre, cons, he, hc, hn, q, u, h, hq, ha => by
    rw [he, List.append_nil, List.getElem?_eq_none hq] at ha
    cases ha
  | r :: rs, pre, cons, he, hc, hn, q, u, h, hq, ha => by
    have he' : all = (pre ++ [r]) ++ rs := by rw [he]; simp
    have hlen : (pre ++ [r]).length = pre.length + 1 := by simp
    have htake : all.take (pre.length + 1) = pre ++ [r] := by rw [he', List.take_left' hlen]
    have other : isL r = false → sameNext P b base all al op vs v i (pre.length + 1) (heapOf h0 pre) cons rs = true → ReadAt P b base h0 all al op vs v i (q + 1) := by
      intro hnl hn'
      have hc' : ∀ a, cons.testBit a = true ↔ ConsP b (pre ++ [r]) a := by
        intro a
        rw [hc]
        constructor
        · rintro ⟨l, v, h, h1, h2⟩
          exact ⟨l, v, h, snoc_get.2 (.inl h1), h2⟩
        · rintro ⟨l, v, h, h1, h2⟩
          rcases snoc_get.1 h1 with h1 | ⟨_, h1⟩
          · exact ⟨l, v, h, h1, h2⟩
          · subst h1; cases hnl
      refine next_spec rs (pre ++ [r]) cons he' hc' ?_ q u h ?_ ha
      · rw [hlen, heapOf_append, heapOf_none (q := [r]) (by simpa using hnl)]
        exact hn'
      · rw [hlen]
        rcases Nat.lt_or_ge pre.length q with h1 | h1
        · omega
        · have : q = pre.length := by omega
          rw [this, he, List.getElem?_append_right (Nat.le_refl _)] at ha
          simp at ha
          subst ha
          cases hnl
    cases r with
    | loud u' h' =>
      unfold sameNext at hn
      dsimp only at hn
      split at hn <;> first | (cases hn; done) | skip
      rename_i hcheck
      have hc' : ∀ a, (cons ||| bitsAt b pre.length).testBit a = true ↔ ConsP b (pre ++ [.loud u' h']) a := by
        intro a
        rw [Nat.testBit_or, Bool.or_eq_true, hc]
        constructor
        · rintro (⟨l, v, h, h1, h2⟩ | h1)
          · exact ⟨l, v, h, snoc_get.2 (.inl h1), h2⟩
          · exact ⟨pre.length, _, _, snoc_get.2 (.inr ⟨rfl, rfl⟩), h1⟩
        · rintro ⟨l, v, h, h1, h2⟩
          rcases snoc_get.1 h1 with h1 | ⟨h3, h1⟩
          · exact .inl ⟨l, v, h, h1, h2⟩
          · right
            rw [h3] at h2
            exact h2
      rcases Nat.lt_or_ge pre.length q with h1 | h1
      · refine next_spec rs (pre ++ [.loud u' h']) _ he' hc' ?_ q u h (by rw [hlen]; omega) ha
        rw [hlen, heapOf_append]
        exact hn
      · have hqe : q = pre.length := by omega
        subst hqe
        intro hmay
        refine ⟨cons ||| bitsAt b pre.length, ?_, ?_⟩
        · rw [htake]; exact hc'
        · rw [htake, heapOf_append]
          have hmay' : mayAt b i (Nat.add pre.length 1) 0 all = true := hmay
          unfold okAt at hcheck
          rw [hmay'] at hcheck
          dsimp only at hcheck
          split at hcheck <;> first | (cases hcheck; done) | skip
          rename_i u2 hu2
          have := AV.beq_eq hcheck
          subst this
          exact hu2
    | skip => exact other rfl hn
    | val _ => exact other rfl hn
    | alloc _ _ => exact other rfl hn
theorem sameAll_spec {all : List Rk} {al : List (Nat × AO)} {op : Op} {vs : List AV} {v : AV} {i : Nat} (h : sameAll P b base all al op vs v i h0 = true) (j : Nat) (hj : j = 0 ∨ ∃ q u g, j = q + 1 ∧ all[q]? = some (.loud u g)) :
    ReadAt P b base h0 all al op vs v i j := by
  unfold sameAll at h
  split at h <;> first | (cases h; done) | skip
  rename_i hcheck
  have h0c : ∀ a, (0 : Nat).testBit a = true ↔ ConsP b [] a := by
    intro a
    simp [ConsP]
  rcases hj with rfl | ⟨q, u, g, rfl, hq⟩
  · intro hmay
    refine ⟨0, by simpa using h0c, ?_⟩
    unfold okAt at hcheck
    rw [hmay] at hcheck
    dsimp only at hcheck
    split at hcheck <;> first | (cases hcheck; done) | skip
    rename_i u2 hu2
    have := AV.beq_eq hcheck
    subst this
    exact hu2
  · exact next_spec all [] 0 (by simp) h0c h q u g (Nat.zero_le _) hq
theorem reads_facts {all : List Rk} {al : List (Nat × AO)} : ∀ (l : List Oper) (p tail : List Rk) (env : T AV), reads P nt ops b base h0 all al p.length l tail env = true → (∀ k, l[k]? = ops[p.length + k]?) →
    (∀ t v, env.get t = some v → Val ops env0 p (below p.length) t v) → ∀ (k : Nat) v o, tail[k]? = some (.val v) → l[k]? = some o → kd o.op = .read →
    ∃ env vs, (∀ t v, env.get t = some v → Val ops env0 (p ++ tail.take k) (below (p.length + k)) t v) ∧ evs env o.op.operands.toList = some vs ∧ sameAll P b base all al o.op vs v (p.length + k) h0 = true
  | [], p, tail, env, h, hl, he, k, v, o, hk, ho, hkd => by simp at ho
  | o :: l, p, [], env, h, hl, he, k, v, o', hk, ho, hkd => by simp at hk
  | o :: l, p, r :: rs, env, h, hl, he, k, v, o', hk, ho, hkd => by
    unfold reads at h
    split at h <;> first | (cases h; done) | skip
    rename_i hcheck
    split at h <;> first | (cases h; done) | skip
    rename_i env' hput
    have hop : ops[p.length]? = some o := by simpa using (hl 0).symm
    cases k with
    | zero =>
      simp at hk ho
      subst hk; subst ho
      rw [hkd] at hcheck
      dsimp only at hcheck
      split at hcheck <;> first | (cases hcheck; done) | skip
      rename_i vs hvs
      exact ⟨env, vs, by simpa using he, hvs, hcheck⟩
    | succ k =>
      obtain ⟨_, hpv⟩ := putA_spec hput
      have hlen : (p ++ [r]).length = p.length + 1 := by simp
      obtain ⟨e1, vs, h1, h2, h3⟩ := reads_facts l (p ++ [r]) rs env' (by rw [hlen]; exact h) (fun k => by
        have := hl (k + 1)
        rw [List.getElem?_cons_succ] at this
        rw [this, hlen]
        congr 1
        omega) (val_snoc hop he hpv) k v o' (by simpa using hk) (by simpa using ho) hkd
      refine ⟨e1, vs, fun t u hu => ?_, h2, ?_⟩
      · have := h1 t u hu
        rw [hlen] at this
        rw [show p.length + (k + 1) = p.length + 1 + k from by omega]
        simpa using this
      · rw [hlen] at h3
        rw [show p.length + (k + 1) = p.length + 1 + k from by omega]
        exact h3
/-! what is ahead -/
def Closed (ops : Array Oper) (L : Nat → Bool) : Prop := ∀ i o, ops[i]? = some o → L i = true → ∀ e ∈ o.after.toList, Region.binds .any e = true → L e.on = true
omit [Nums] in
theorem bfOf_spec {t : T Nat} {j : Nat} : ∀ {l : List Edge}, (bfOf t l).testBit j = true → ∃ e ∈ l, Region.binds .any e = true ∧ (j = e.on ∨ ∃ y, t.get e.on = some y ∧ y.testBit j = true)
  | [], h => by simp [bfOf] at h
  | e :: l, h => by
    unfold bfOf at h
    split at h
    · rename_i hb
      rw [Nat.testBit_or, Nat.testBit_or, Bool.or_eq_true, Bool.or_eq_true] at h
      rcases h with (h | h) | h
      · refine ⟨e, List.mem_cons_self, hb, .inl ?_⟩
        rw [Nat.testBit_two_pow] at h
        simpa using (of_decide_eq_true h).symm
      · refine ⟨e, List.mem_cons_self, hb, .inr ?_⟩
        split at h
        · rename_i y hy
          exact ⟨y, hy, h⟩
        · simp at h
      · obtain ⟨e', h1, h2⟩ := bfOf_spec h
        exact ⟨e', List.mem_cons_of_mem _ h1, h2⟩
    · obtain ⟨e', h1, h2⟩ := bfOf_spec h
      exact ⟨e', List.mem_cons_of_mem _ h1, h2⟩
def DepOk (ops : Array Oper) (t : T Nat) : Prop := ∀ (i x : Nat), t.get i = some x → ∀ j, x.testBit j = true → ∀ L, Closed ops L → L i = true → L j = true
omit [Nums] in
theorem bfs_ok : ∀ (l : List Oper) (i : Nat) (t : T Nat), (∀ k, l[k]? = ops[i + k]?) → DepOk ops t → DepOk ops (bfs i l t)
  | [], i, t, _, h => h
  | o :: l, i, t, hl, h => by
    unfold bfs
    refine bfs_ok l (i + 1) _ (fun k => ?_) ?_
    · have := hl (k + 1)
      rw [List.getElem?_cons_succ] at this
      rw [this]
      congr 1
      omega
    · intro q x hq j hj L hL hi
      rcases T.get_put hq with ⟨h1, h2⟩ | ⟨_, h2⟩
      · cases h2
        subst h1
        obtain ⟨e, he, hb, h3⟩ := bfOf_spec hj
        have hLe : L e.on = true := hL _ o (by simpa using (hl 0).symm) hi e he hb
        rcases h3 with rfl | ⟨y, hy, hyj⟩
        · exact hLe
        · exact h _ _ hy _ hyj L hL hLe
      · exact h _ _ h2 _ hj L hL hi
omit [Nums] in
theorem ahead_dep {i j : Nat} (h : ahead (bf ops) j i = true) {L : Nat → Bool} (hL : Closed ops L) (hi : L i = true) : L j = true := by
  have hd : DepOk ops (bf ops) := bfs_ok ops.toList 0 .e (by simp) (fun i x h => by rw [T.get_e] at h; cases h)
  unfold ahead bitsAt at h
  split at h
  · rename_i x hx
    exact hd _ _ hx _ h L hL hi
  · simp at h
omit [Nums] in
theorem memB_spec {t : Nat} : ∀ {l : List Nat}, t ∈ l → memB t l = true
  | [], h => by cases h
  | x :: l, h => by
    unfold memB
    split
    · rfl
    · rename_i hx
      rcases List.mem_cons.1 h with h1 | h1
      · subst h1
        simp at hx
      · exact memB_spec h1
omit [Nums] in
theorem chk2_spec {o : Oper} {i : Nat} : ∀ {l : List Oper} {j : Nat}, chk2 ops b o i j l = true → ∀ (k : Nat) q, l[k]? = some q → i ≠ j + k → ((∃ d, q.dst = some d ∧ d ∈ looks ops o) ∨ (isLoud o = true ∧ isLoud q = true)) →
    (j + k < i → ahead b (j + k) i = true) ∧ (i < j + k → ahead b i (j + k) = true)
  | [], j, h, k, q, hk, _, _ => by simp at hk
  | p :: l, j, h, k, q, hk, hne, hc => by
    have tail : chk2 ops b o i (Nat.add j 1) l = true := by
      unfold chk2 at h
      split at h
      · exact h
      · split at h
        · exact h
        · split at h
          · exact h
          · cases h
    cases k with
    | succ k =>
      have := chk2_spec tail k q (by simpa using hk) (by show i ≠ j + 1 + k; omega) hc
      have e : Nat.add j 1 + k = j + (k + 1) := by show j + 1 + k = _; omega
      rw [e] at this
      exact this
    | zero =>
      simp at hk
      subst hk
      rw [Nat.add_zero] at hne ⊢
      unfold chk2 at h
      split at h
      · rename_i hb
        exact absurd (Nat.eq_of_beq_eq_true hb) hne
      · have hcond : touch ops o p = true := by
          unfold touch
          rcases hc with ⟨d, h1, h2⟩ | ⟨h1, h2⟩
          · rw [h1]
            simp [memB_spec h2]
          · simp [h1, h2]
        rw [hcond] at h
        dsimp only at h
        split at h <;> first | (cases h; done) | skip
        rename_i hord
        split at hord
        · rename_i hlt
          have : j < i := by simpa using hlt
          exact ⟨fun _ => hord, fun h => by omega⟩
        · rename_i hlt
          have := blt_no hlt
          exact ⟨fun h => by omega, fun _ => hord⟩
omit [Nums] in
theorem chk1_spec : ∀ {l : List Oper} {i : Nat}, chk1 ops b i l = true → ∀ (k : Nat) o, l[k]? = some o → chk2 ops b o (i + k) 0 ops.toList = true
  | [], i, h, k, o, hk => by simp at hk
  | p :: l, i, h, k, o, hk => by
    unfold chk1 at h
    split at h <;> first | (cases h; done) | skip
    rename_i h2
    cases k with
    | zero =>
      simp at hk
      subst hk
      exact h2
    | succ k =>
      have := chk1_spec h k o (by simpa using hk)
      have e : Nat.add i 1 + k = i + (k + 1) := by show i + 1 + k = _; omega
      rw [e] at this
      exact this
omit [Nums] in
theorem edgesLt_spec : ∀ {l : List Oper} {i : Nat}, edgesLt i l = true → ∀ (k : Nat) o, l[k]? = some o → ∀ e ∈ o.after.toList, Region.binds .any e = true → e.on < i + k
  | [], i, h, k, o, hk => by simp at hk
  | p :: l, i, h, k, o, hk => by
    unfold edgesLt at h
    split at h <;> first | (cases h; done) | skip
    rename_i h2
    cases k with
    | zero =>
      simp at hk
      subst hk
      intro e he hb
      have := List.all_eq_true.1 h2 e he
      simpa [hb] using this
    | succ k =>
      have := edgesLt_spec h k o (by simpa using hk)
      intro e he hb
      have h3 := this e he hb
      have e' : Nat.add i 1 + k = i + (k + 1) := by show i + 1 + k = _; omega
      omega
omit [Nums] in
/-- two operations that touch one slot, or are both loud, are ordered -/
theorem chk_ord (h : chk ops = true) {i j : Nat} {o q : Oper} (hi : ops[i]? = some o) (hj : ops[j]? = some q) (hne : i ≠ j) (hc : (∃ d, q.dst = some d ∧ d ∈ looks ops o) ∨ (isLoud o = true ∧ isLoud q = true)) :
    (j < i → ahead (bf ops) j i = true) ∧ (i < j → ahead (bf ops) i j = true) := by
  unfold chk at h
  rw [Bool.and_eq_true] at h
  have h1 := chk1_spec h.1 i o (by simpa using hi)
  rw [Nat.zero_add] at h1
  have := chk2_spec h1 j q (by simpa using hj) (by omega) hc
  rw [Nat.zero_add] at this
  exact this
omit [Nums] in
theorem chk_lt (h : chk ops = true) {i : Nat} {o : Oper} (hi : ops[i]? = some o) : ∀ e ∈ o.after.toList, Region.binds .any e = true → e.on < i := by
  unfold chk at h
  rw [Bool.and_eq_true] at h
  intro e he hb
  have := edgesLt_spec h.2 i o (by simpa using hi) e he hb
  omega
end
end Go.Proofs.YtfgomgodfcdijaaGreatDoor.Ex
