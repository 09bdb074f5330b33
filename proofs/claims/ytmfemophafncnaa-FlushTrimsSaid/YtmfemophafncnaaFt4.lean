/-
  Texts of this claim, joined. No condition.
-/
import Derived.Test.YtmfemophafncnaaFt3
import Derived.Below
import Derived.Test.YtmfemophafncnaaFt1
/-
  The runner: a region that draws its order: what was checked of it. No condition.
-/
namespace Go.Proofs.Ytmfemophafncnaa.Ex
open Go
mutual
theorem AV.beq_eq : ∀ {a b : AV}, AV.beq a b = true → a = b
  | .bool a, b, h => by cases b <;> simp [AV.beq] at h; rw [h]
  | .int k a, b, h => by cases b <;> simp [AV.beq] at h; rw [h.1, h.2]
  | .sym k e, b, h => by cases b <;> simp [AV.beq] at h; rw [h.1, SE.beq_eq h.2]
  | .bsym c p, b, h => by cases b <;> simp [AV.beq] at h; rw [Cnd.beq_eq h.1, h.2]
  | .eptr n e s j, b, h => by cases b <;> simp [AV.beq] at h; rw [h.1.1, SE.beq_eq h.1.2, h.2.1, h.2.2]
  | .dsl n e s, b, h => by cases b <;> simp [AV.beq] at h; rw [h.1, SE.beq_eq h.2.1, h.2.2]
  | .ssl n e l s, b, h => by cases b <;> simp [AV.beq] at h; rw [h.1.1, SE.beq_eq h.1.2, h.2.1, h.2.2]
  | .rsl i, b, h => by cases b <;> simp [AV.beq] at h; rw [h]
  | .rptr i e, b, h => by cases b <;> simp [AV.beq] at h; rw [h.1, SE.beq_eq h.2]
  | .str _, b, h => by cases b <;> simp [AV.beq] at h
  | .nilp, b, h => by cases b <;> simp [AV.beq] at h; rfl
  | .ptr n o, b, h => by
    cases b <;> simp [AV.beq] at h
    rw [h.1, h.2]
  | .gptr n o, b, h => by
    cases b <;> simp [AV.beq] at h
    rw [h.1, h.2]
  | .nilsl, b, h => by cases b <;> simp [AV.beq] at h; rfl
  | .sl n o l s r, b, h => by
    cases b <;> simp [AV.beq] at h
    obtain ⟨h1, h2, h3, h4, h5⟩ := h
    rename_i n' o' l' s' r'
    have : r = r' := by
      cases r <;> cases r' <;> first | rfl | (cases h5; done) | skip
      simp at h5
      rw [h5]
    rw [h1, h2, h3, h4, this]
  | .esl n, b, h => by cases b <;> simp [AV.beq] at h; rw [h]
  | .zsl, b, h => by cases b <;> simp [AV.beq] at h; rfl
  | .osl e, b, h => by cases b <;> simp [AV.beq] at h; rw [SE.beq_eq h]
  | .nilmap, b, h => by cases b <;> simp [AV.beq] at h; rfl
  | .map n, b, h => by cases b <;> simp [AV.beq] at h; rw [h]
  | .fn f x y, b, h => by
    cases b with
    | fn f' x' y' =>
      cases f <;> cases f' <;> simp [AV.beq] at h
      obtain ⟨h1, h2, h3⟩ := h
      rw [h1, AV.beqs_eq h2, AV.beqs_eq h3]
    | _ => cases f <;> simp [AV.beq] at h
  | .nilfn, b, h => by cases b <;> simp [AV.beq] at h; rfl
  | .nilif, b, h => by cases b <;> simp [AV.beq] at h; rfl
  | .ifc _ _, b, h => by cases b <;> simp [AV.beq] at h
  | .agg l, b, h => by
    cases b <;> simp [AV.beq] at h
    rw [AV.beqs_eq h]
  | .tup l, b, h => by
    cases b <;> simp [AV.beq] at h
    rw [AV.beqs_eq h]
theorem AV.beqs_eq : ∀ {a b : List AV}, AV.beqs a b = true → a = b
  | [], b, h => by cases b <;> simp [AV.beqs] at h; rfl
  | x :: a, b, h => by
    cases b with
    | nil => simp [AV.beqs] at h
    | cons y b =>
      simp [AV.beqs] at h
      rw [AV.beq_eq h.1, AV.beqs_eq h.2]
end
variable [Nums]
section
variable {P : Program} {call : FuncId → List AV → AH → Option (AV × AH)} {nt : Nat} {ops : Array Oper} {b : T Nat} {base : Nat} {env0 : T AV} {h0 : AH}
omit [Nums] in
theorem take_get {α : Type} {l : List α} {n i : Nat} {x : α} : (l.take n)[i]? = some x ↔ i < n ∧ l[i]? = some x := by
  rw [List.getElem?_take]
  by_cases h : i < n <;> simp [h]
omit [Nums] in
theorem Val.ext {p q : List Rk} {n t : Nat} {v : AV} (h : Val ops env0 p (below n) t v) (he : ∀ i, i < n → p[i]? = q[i]?) : Val ops env0 q (below n) t v := by
  rcases h with ⟨i, r, h1, h2, h3, h4, h5⟩ | h
  · refine .inl ⟨i, r, h1, h2, ?_, h4, h5⟩
    rw [← he i (by simpa [below] using h1)]
    exact h3
  · exact .inr h
omit [Nums] in
theorem mayAt_ok {i j : Nat} : ∀ {rs : List Rk} {l : Nat}, (∀ (k : Nat) v h, rs[k]? = some (.loud v h) → (l + k < j → ahead b i (l + k) = false) ∧ (j ≤ l + k → ahead b (l + k) i = false)) → mayAt b i j l rs = true
  | [], _, _ => rfl
  | r :: rs, l, h => by
    have ih : mayAt b i j (Nat.add l 1) rs = true := mayAt_ok fun k v h' hk => by
      have := h (k + 1) v h' (by simpa using hk)
      have e : Nat.add l 1 + k = l + (k + 1) := by show l + 1 + k = _; omega
      rw [e]
      exact this
    cases r with
    | loud v h' =>
      have := h 0 v h' rfl
      rw [Nat.add_zero] at this
      unfold mayAt
      split
      · rename_i hlt
        rw [this.1 (by simpa using hlt)]
        exact ih
      · rename_i hlt
        rw [this.2 (by have := blt_no hlt; omega)]
        exact ih
    | skip => exact ih
    | val _ => exact ih
    | alloc _ _ => exact ih
def ReadAt (P : Program) (b : T Nat) (base : Nat) (h0 : AH) (all : List Rk) (al : List (Nat × AO)) (op : Op) (vs : List AV) (v : AV) (i j : Nat) : Prop :=
  mayAt b i j 0 all = true → ∃ c : Nat, (∀ a, c.testBit a = true ↔ ConsP b (all.take j) a) ∧ aread P op vs (overlay base (fun a => ahead b a i && !(c.testBit a)) al (heapOf h0 (all.take j))) = some v
theorem next_spec {all : List Rk} {al : List (Nat × AO)} {op : Op} {vs : List AV} {v : AV} {i : Nat} : ∀ (rs pre : List Rk) (cons : Nat), all = pre ++ rs → (∀ a, cons.testBit a = true ↔ ConsP b pre a) →
    sameNext P b base all al op vs v i pre.length (heapOf h0 pre) cons rs = true → ∀ (q : Nat) u h, pre.length ≤ q → all[q]? = some (.loud u h) → ReadAt P b base h0 all al op vs v i (q + 1)
  | [], pre, cons, he, hc, hn, q, u, h, hq, ha => by
    rw [he, List.append_nil, List.getElem?_eq_none hq] at ha
    cases ha
  | r :: rs, pre, cons, he, hc, hn, q, u, h, hq, ha => by
    have he' : all = (pre ++ [r]) ++ rs := by rw [he]; simp
    have hlen : (pre ++ [r]).length = pre.length + 1 := by simp
    have htake : all.take (pre.length + 1) = pre ++ [r] := by rw [he', List.take_left' hlen]
    have other : isL r = false → sameNext P b base all al op vs v i (pre.length + 1) (heapOf h0 pre) cons rs = true → ReadAt P b base h0 all al op vs v i (q + 1) := by
      intro hnl hn'
      have hc' : ∀ a, cons.testBit a = true ↔ ConsP b (pre ++ [r]) a := by
        intro a
        rw [hc]
        constructor
        · rintro ⟨l, v, h, h1, h2⟩
          exact ⟨l, v, h, snoc_get.2 (.inl h1), h2⟩
        · rintro ⟨l, v, h, h1, h2⟩
          rcases snoc_get.1 h1 with h1 | ⟨_, h1⟩
          · exact ⟨l, v, h, h1, h2⟩
          · subst h1; cases hnl
      refine next_spec rs (pre ++ [r]) cons he' hc' ?_ q u h ?_ ha
      · rw [hlen, heapOf_append, heapOf_none (q := [r]) (by simpa using hnl)]
        exact hn'
      · rw [hlen]
        rcases Nat.lt_or_ge pre.length q with h1 | h1
        · omega
        · have : q = pre.length := by omega
          rw [this, he, List.getElem?_append_right (Nat.le_refl _)] at ha
          simp at ha
          subst ha
          cases hnl
    cases r with
    | loud u' h' =>
      unfold sameNext at hn
      dsimp only at hn
      split at hn <;> first | (cases hn; done) | skip
      rename_i hcheck
      have hc' : ∀ a, (cons ||| bitsAt b pre.length).testBit a = true ↔ ConsP b (pre ++ [.loud u' h']) a := by
        intro a
        rw [Nat.testBit_or, Bool.or_eq_true, hc]
        constructor
        · rintro (⟨l, v, h, h1, h2⟩ | h1)
          · exact ⟨l, v, h, snoc_get.2 (.inl h1), h2⟩
          · exact ⟨pre.length, _, _, snoc_get.2 (.inr ⟨rfl, rfl⟩), h1⟩
        · rintro ⟨l, v, h, h1, h2⟩
          rcases snoc_get.1 h1 with h1 | ⟨h3, h1⟩
          · exact .inl ⟨l, v, h, h1, h2⟩
          · right
            rw [h3] at h2
            exact h2
      rcases Nat.lt_or_ge pre.length q with h1 | h1
      · refine next_spec rs (pre ++ [.loud u' h']) _ he' hc' ?_ q u h (by rw [hlen]; omega) ha
        rw [hlen, heapOf_append]
        exact hn
      · have hqe : q = pre.length := by omega
        subst hqe
        intro hmay
        refine ⟨cons ||| bitsAt b pre.length, ?_, ?_⟩
        · rw [htake]; exact hc'
        · rw [htake, heapOf_append]
          have hmay' : mayAt b i (Nat.add pre.length 1) 0 all = true := hmay
          unfold okAt at hcheck
          rw [hmay'] at hcheck
          dsimp only at hcheck
          split at hcheck <;> first | (cases hcheck; done) | skip
          rename_i u2 hu2
          have := AV.beq_eq hcheck
          subst this
          exact hu2
    | skip => exact other rfl hn
    | val _ => exact other rfl hn
    | alloc _ _ => exact other rfl hn
theorem sameAll_spec {all : List Rk} {al : List (Nat × AO)} {op : Op} {vs : List AV} {v : AV} {i : Nat} (h : sameAll P b base all al op vs v i h0 = true) (j : Nat) (hj : j = 0 ∨ ∃ q u g, j = q + 1 ∧ all[q]? = some (.loud u g)) :
    ReadAt P b base h0 all al op vs v i j := by
  unfold sameAll at h
  split at h <;> first | (cases h; done) | skip
  rename_i hcheck
  have h0c : ∀ a, (0 : Nat).testBit a = true ↔ ConsP b [] a := by
    intro a
    simp [ConsP]
  rcases hj with rfl | ⟨q, u, g, rfl, hq⟩
  · intro hmay
    refine ⟨0, by simpa using h0c, ?_⟩
    unfold okAt at hcheck
    rw [hmay] at hcheck
    dsimp only at hcheck
    split at hcheck <;> first | (cases hcheck; done) | skip
    rename_i u2 hu2
    have := AV.beq_eq hcheck
    subst this
    exact hu2
  · exact next_spec all [] 0 (by simp) h0c h q u g (Nat.zero_le _) hq
theorem reads_facts {all : List Rk} {al : List (Nat × AO)} : ∀ (l : List Oper) (p tail : List Rk) (env : T AV), reads P nt ops b base h0 all al p.length l tail env = true → (∀ k, l[k]? = ops[p.length + k]?) →
    (∀ t v, env.get t = some v → Val ops env0 p (below p.length) t v) → ∀ (k : Nat) v o, tail[k]? = some (.val v) → l[k]? = some o → kd o.op = .read →
    ∃ env vs, (∀ t v, env.get t = some v → Val ops env0 (p ++ tail.take k) (below (p.length + k)) t v) ∧ evs env o.op.operands.toList = some vs ∧ sameAll P b base all al o.op vs v (p.length + k) h0 = true
  | [], p, tail, env, h, hl, he, k, v, o, hk, ho, hkd => by simp at ho
  | o :: l, p, [], env, h, hl, he, k, v, o', hk, ho, hkd => by simp at hk
  | o :: l, p, r :: rs, env, h, hl, he, k, v, o', hk, ho, hkd => by
    unfold reads at h
    split at h <;> first | (cases h; done) | skip
    rename_i hcheck
    split at h <;> first | (cases h; done) | skip
    rename_i env' hput
    have hop : ops[p.length]? = some o := by simpa using (hl 0).symm
    cases k with
    | zero =>
      simp at hk ho
      subst hk; subst ho
      rw [hkd] at hcheck
      dsimp only at hcheck
      split at hcheck <;> first | (cases hcheck; done) | skip
      rename_i vs hvs
      exact ⟨env, vs, by simpa using he, hvs, hcheck⟩
    | succ k =>
      obtain ⟨_, hpv⟩ := putA_spec hput
      have hlen : (p ++ [r]).length = p.length + 1 := by simp
      obtain ⟨e1, vs, h1, h2, h3⟩ := reads_facts l (p ++ [r]) rs env' (by rw [hlen]; exact h) (fun k => by
        have := hl (k + 1)
        rw [List.getElem?_cons_succ] at this
        rw [this, hlen]
        congr 1
        omega) (val_snoc hop he hpv) k v o' (by simpa using hk) (by simpa using ho) hkd
      refine ⟨e1, vs, fun t u hu => ?_, h2, ?_⟩
      · have := h1 t u hu
        rw [hlen] at this
        rw [show p.length + (k + 1) = p.length + 1 + k from by omega]
        simpa using this
      · rw [hlen] at h3
        rw [show p.length + (k + 1) = p.length + 1 + k from by omega]
        exact h3
/-! what is ahead -/
def Closed (ops : Array Oper) (L : Nat → Bool) : Prop := ∀ i o, ops[i]? = some o → L i = true → ∀ e ∈ o.after.toList, Region.binds .any e = true → L e.on = true
omit [Nums] in
theorem bfOf_spec {t : T Nat} {j : Nat} : ∀ {l : List Edge}, (bfOf t l).testBit j = true → ∃ e ∈ l, Region.binds .any e = true ∧ (j = e.on ∨ ∃ y, t.get e.on = some y ∧ y.testBit j = true)
  | [], h => by simp [bfOf] at h
  | e :: l, h => by
    unfold bfOf at h
    split at h
    · rename_i hb
      rw [Nat.testBit_or, Nat.testBit_or, Bool.or_eq_true, Bool.or_eq_true] at h
      rcases h with (h | h) | h
      · refine ⟨e, List.mem_cons_self, hb, .inl ?_⟩
        rw [Nat.testBit_two_pow] at h
        simpa using (of_decide_eq_true h).symm
      · refine ⟨e, List.mem_cons_self, hb, .inr ?_⟩
        split at h
        · rename_i y hy
          exact ⟨y, hy, h⟩
        · simp at h
      · obtain ⟨e', h1, h2⟩ := bfOf_spec h
        exact ⟨e', List.mem_cons_of_mem _ h1, h2⟩
    · obtain ⟨e', h1, h2⟩ := bfOf_spec h
      exact ⟨e', List.mem_cons_of_mem _ h1, h2⟩
def DepOk (ops : Array Oper) (t : T Nat) : Prop := ∀ (i x : Nat), t.get i = some x → ∀ j, x.testBit j = true → ∀ L, Closed ops L → L i = true → L j = true
omit [Nums] in
theorem bfs_ok : ∀ (l : List Oper) (i : Nat) (t : T Nat), (∀ k, l[k]? = ops[i + k]?) → DepOk ops t → DepOk ops (bfs i l t)
  | [], i, t, _, h => h
  | o :: l, i, t, hl, h => by
    unfold bfs
    refine bfs_ok l (i + 1) _ (fun k => ?_) ?_
    · have := hl (k + 1)
      rw [List.getElem?_cons_succ] at this
      rw [this]
      congr 1
      omega
    · intro q x hq j hj L hL hi
      rcases T.get_put hq with ⟨h1, h2⟩ | ⟨_, h2⟩
      · cases h2
        subst h1
        obtain ⟨e, he, hb, h3⟩ := bfOf_spec hj
        have hLe : L e.on = true := hL _ o (by simpa using (hl 0).symm) hi e he hb
        rcases h3 with rfl | ⟨y, hy, hyj⟩
        · exact hLe
        · exact h _ _ hy _ hyj L hL hLe
      · exact h _ _ h2 _ hj L hL hi
omit [Nums] in
theorem ahead_dep {i j : Nat} (h : ahead (bf ops) j i = true) {L : Nat → Bool} (hL : Closed ops L) (hi : L i = true) : L j = true := by
  have hd : DepOk ops (bf ops) := bfs_ok ops.toList 0 .e (by simp) (fun i x h => by rw [T.get_e] at h; cases h)
  unfold ahead bitsAt at h
  split at h
  · rename_i x hx
    exact hd _ _ hx _ h L hL hi
  · simp at h
omit [Nums] in
theorem memB_spec {t : Nat} : ∀ {l : List Nat}, t ∈ l → memB t l = true
  | [], h => by cases h
  | x :: l, h => by
    unfold memB
    split
    · rfl
    · rename_i hx
      rcases List.mem_cons.1 h with h1 | h1
      · subst h1
        simp at hx
      · exact memB_spec h1
omit [Nums] in
theorem chk2_spec {o : Oper} {i : Nat} : ∀ {l : List Oper} {j : Nat}, chk2 ops b o i j l = true → ∀ (k : Nat) q, l[k]? = some q → i ≠ j + k → ((∃ d, q.dst = some d ∧ d ∈ looks ops o) ∨ (isLoud o = true ∧ isLoud q = true)) →
    (j + k < i → ahead b (j + k) i = true) ∧ (i < j + k → ahead b i (j + k) = true)
  | [], j, h, k, q, hk, _, _ => by simp at hk
  | p :: l, j, h, k, q, hk, hne, hc => by
    have tail : chk2 ops b o i (Nat.add j 1) l = true := by
      unfold chk2 at h
      split at h
      · exact h
      · split at h
        · exact h
        · split at h
          · exact h
          · cases h
    cases k with
    | succ k =>
      have := chk2_spec tail k q (by simpa using hk) (by show i ≠ j + 1 + k; omega) hc
      have e : Nat.add j 1 + k = j + (k + 1) := by show j + 1 + k = _; omega
      rw [e] at this
      exact this
    | zero =>
      simp at hk
      subst hk
      rw [Nat.add_zero] at hne ⊢
      unfold chk2 at h
      split at h
      · rename_i hb
        exact absurd (Nat.eq_of_beq_eq_true hb) hne
      · have hcond : touch ops o p = true := by
          unfold touch
          rcases hc with ⟨d, h1, h2⟩ | ⟨h1, h2⟩
          · rw [h1]
            simp [memB_spec h2]
          · simp [h1, h2]
        rw [hcond] at h
        dsimp only at h
        split at h <;> first | (cases h; done) | skip
        rename_i hord
        split at hord
        · rename_i hlt
          have : j < i := by simpa using hlt
          exact ⟨fun _ => hord, fun h => by omega⟩
        · rename_i hlt
          have := blt_no hlt
          exact ⟨fun h => by omega, fun _ => hord⟩
omit [Nums] in
theorem chk1_spec : ∀ {l : List Oper} {i : Nat}, chk1 ops b i l = true → ∀ (k : Nat) o, l[k]? = some o → chk2 ops b o (i + k) 0 ops.toList = true
  | [], i, h, k, o, hk => by simp at hk
  | p :: l, i, h, k, o, hk => by
    unfold chk1 at h
    split at h <;> first | (cases h; done) | skip
    rename_i h2
    cases k with
    | zero =>
      simp at hk
      subst hk
      exact h2
    | succ k =>
      have := chk1_spec h k o (by simpa using hk)
      have e : Nat.add i 1 + k = i + (k + 1) := by show i + 1 + k = _; omega
      rw [e] at this
      exact this
omit [Nums] in
theorem edgesLt_spec : ∀ {l : List Oper} {i : Nat}, edgesLt i l = true → ∀ (k : Nat) o, l[k]? = some o → ∀ e ∈ o.after.toList, Region.binds .any e = true → e.on < i + k
  | [], i, h, k, o, hk => by simp at hk
  | p :: l, i, h, k, o, hk => by
    unfold edgesLt at h
    split at h <;> first | (cases h; done) | skip
    rename_i h2
    cases k with
    | zero =>
      simp at hk
      subst hk
      intro e he hb
      have := List.all_eq_true.1 h2 e he
      simpa [hb] using this
    | succ k =>
      have := edgesLt_spec h k o (by simpa using hk)
      intro e he hb
      have h3 := this e he hb
      have e' : Nat.add i 1 + k = i + (k + 1) := by show i + 1 + k = _; omega
      omega
omit [Nums] in
/-- two operations that touch one slot, or are both loud, are ordered -/
theorem chk_ord (h : chk ops = true) {i j : Nat} {o q : Oper} (hi : ops[i]? = some o) (hj : ops[j]? = some q) (hne : i ≠ j) (hc : (∃ d, q.dst = some d ∧ d ∈ looks ops o) ∨ (isLoud o = true ∧ isLoud q = true)) :
    (j < i → ahead (bf ops) j i = true) ∧ (i < j → ahead (bf ops) i j = true) := by
  unfold chk at h
  rw [Bool.and_eq_true] at h
  have h1 := chk1_spec h.1 i o (by simpa using hi)
  rw [Nat.zero_add] at h1
  have := chk2_spec h1 j q (by simpa using hj) (by omega) hc
  rw [Nat.zero_add] at this
  exact this
omit [Nums] in
theorem chk_lt (h : chk ops = true) {i : Nat} {o : Oper} (hi : ops[i]? = some o) : ∀ e ∈ o.after.toList, Region.binds .any e = true → e.on < i := by
  unfold chk at h
  rw [Bool.and_eq_true] at h
  intro e he hb
  have := edgesLt_spec h.2 i o (by simpa using hi) e he hb
  omega
end
end Go.Proofs.Ytmfemophafncnaa.Ex

/-
  The runner: a region that draws its order gives, in whatever order, what it gives in the order of the text. No condition.
-/
namespace Go.Proofs.Ytmfemophafncnaa.Ex
open Go
noncomputable section
variable [Nums]
def consB (b : T Nat) (a : Nat) : Nat → List Rk → Bool
  | _, [] => false
  | l, .loud _ _ :: rs => ahead b a l || consB b a (l + 1) rs
  | l, _ :: rs => consB b a (l + 1) rs
omit [Nums] in
theorem consB_iff {b : T Nat} {a : Nat} : ∀ {rs : List Rk} {k : Nat}, consB b a k rs = true ↔ ∃ l u g, rs[l]? = some (.loud u g) ∧ ahead b a (k + l) = true
  | [], k => by simp [consB]
  | r :: rs, k => by
    have ih := consB_iff (b := b) (a := a) (rs := rs) (k := k + 1)
    have sh : (∃ l u g, rs[l]? = some (.loud u g) ∧ ahead b a (k + 1 + l) = true) ↔ ∃ l u g, 0 < l ∧ (r :: rs)[l]? = some (.loud u g) ∧ ahead b a (k + l) = true := by
      constructor
      · rintro ⟨l, u, g, h1, h2⟩
        exact ⟨l + 1, u, g, by omega, by simpa using h1, by rw [show k + (l + 1) = k + 1 + l from by omega]; exact h2⟩
      · rintro ⟨l, u, g, h0, h1, h2⟩
        obtain ⟨l, rfl⟩ : ∃ q, l = q + 1 := ⟨l - 1, by omega⟩
        exact ⟨l, u, g, by simpa using h1, by rw [show k + 1 + l = k + (l + 1) from by omega]; exact h2⟩
    have other : isL r = false → ((consB b a (k + 1) rs = true) ↔ ∃ l u g, (r :: rs)[l]? = some (.loud u g) ∧ ahead b a (k + l) = true) := by
      intro hn
      rw [ih, sh]
      constructor
      · rintro ⟨l, u, g, _, h⟩
        exact ⟨l, u, g, h⟩
      · rintro ⟨l, u, g, h1, h2⟩
        refine ⟨l, u, g, ?_, h1, h2⟩
        rcases Nat.eq_zero_or_pos l with rfl | h0
        · simp at h1
          subst h1
          cases hn
        · exact h0
    cases r with
    | loud u h =>
      simp only [consB, Bool.or_eq_true]
      rw [ih, sh]
      constructor
      · rintro (h1 | ⟨l, u, g, _, h⟩)
        · exact ⟨0, _, _, rfl, h1⟩
        · exact ⟨l, u, g, h⟩
      · rintro ⟨l, u', g, h1, h2⟩
        rcases Nat.eq_zero_or_pos l with rfl | h0
        · exact .inl h2
        · exact .inr ⟨l, u', g, h0, h1, h2⟩
    | skip => exact other rfl
    | val _ => exact other rfl
    | alloc _ _ => exact other rfl
omit [Nums] in
theorem consB_P {b : T Nat} {a : Nat} {rs : List Rk} : consB b a 0 rs = true ↔ ConsP b rs a := by
  rw [consB_iff]
  simp only [Nat.zero_add, ConsP]
/-- memory when some operations are done: the main one, and the blocks of the region that lie beside it -/
def gF (base : Nat) (rs : List Rk) (L C : Nat → Bool) (H : AH) (m : Nat) : Option AO :=
  match (if base ≤ m then rs[m - base]? else none) with
  | some (.alloc ao _) => if L (m - base) && !C (m - base) then some ao else H.get m
  | _ => H.get m
section
variable {base : Nat} {rs : List Rk} {L L' C C' : Nat → Bool} {H : AH}
omit [Nums] in
theorem gF_alloc {a : Nat} {ao : AO} {v : AV} (h : rs[a]? = some (.alloc ao v)) (hL : L a = true) (hC : C a = false) : gF base rs L C H (base + a) = some ao := by
  unfold gF
  rw [if_pos (by omega), show base + a - base = a from by omega, h]
  simp [hL, hC]
omit [Nums] in
theorem gF_cases {m : Nat} {o : AO} (h : gF base rs L C H m = some o) : (∃ a v, m = base + a ∧ rs[a]? = some (.alloc o v) ∧ L a = true ∧ C a = false) ∨
    (H.get m = some o ∧ ∀ a ao v, m = base + a → rs[a]? = some (.alloc ao v) → L a = true → C a = true) := by
  unfold gF at h
  by_cases hb : base ≤ m
  · rw [if_pos hb] at h
    have hm : m = base + (m - base) := by omega
    have key : ∀ a, m = base + a → a = m - base := fun a ha => by omega
    split at h
    · rename_i ao v hr
      split at h
      · rename_i hc
        rw [Bool.and_eq_true] at hc
        cases h
        exact .inl ⟨m - base, v, hm, hr, hc.1, by simpa using hc.2⟩
      · rename_i hc
        refine .inr ⟨h, fun a ao' v' ha hra hL => ?_⟩
        have := key a ha
        subst this
        simp [hL] at hc
        exact hc
    · rename_i hno
      refine .inr ⟨h, fun a ao' v' ha hra hL => ?_⟩
      have := key a ha
      subst this
      exact absurd hra (hno _ _)
  · rw [if_neg hb] at h
    exact .inr ⟨h, fun a ao' v' ha => by omega⟩
omit [Nums] in
theorem gF_main {m : Nat} {o : AO} (h : H.get m = some o) (hno : ∀ a ao v, m = base + a → rs[a]? = some (.alloc ao v) → L a = true → C a = true) : gF base rs L C H m = some o := by
  unfold gF
  by_cases hb : base ≤ m
  · rw [if_pos hb]
    split
    · rename_i ao v hr
      split
      · rename_i hc
        rw [Bool.and_eq_true] at hc
        have := hno (m - base) ao v (by omega) hr hc.1
        rw [this] at hc
        simp at hc
      · exact h
    · exact h
  · rw [if_neg hb]
    exact h
omit [Nums] in
theorem gF_congr (h : ∀ a ao v, rs[a]? = some (.alloc ao v) → L' a = L a) (hC : ∀ a, C' a = C a) : gF base rs L' C' H = gF base rs L C H := by
  funext m
  unfold gF
  split
  · rename_i ao v hr
    split at hr
    · rw [h _ _ _ hr, hC]
    · cases hr
  · rfl
end
section
variable {P : Program} {call : FuncId → List AV → AH → Option (AV × AH)} {nt : Nat} {ops : Array Oper} {env0 : T AV} {h : AH} {rs : List Rk} {al : List (Nat × AO)}
/-- all that is known of a region -/
structure Reg (P : Program) (call : FuncId → List AV → AH → Option (AV × AH)) (nt : Nat) (ops : Array Oper) (env0 : T AV) (h : AH) (rs : List Rk) (al : List (Nat × AO)) : Prop where
  chk : chk ops = true
  len : rs.length = ops.size
  fact : ∀ (i : Nat) r o, rs[i]? = some r → ops[i]? = some o → FactAt P call nt ops (bf ops) h.next env0 (h.skip ops.size) (rs.take i) o i r
  read : ∀ (i : Nat) v o, rs[i]? = some (.val v) → ops[i]? = some o → kd o.op = .read → ∃ env vs, (∀ t v, env.get t = some v → Val ops env0 rs (below i) t v) ∧ evs env o.op.operands.toList = some vs ∧ sameAll P (bf ops) h.next rs al o.op vs v i (h.skip ops.size) = true
  al : ∀ a ao, (a, ao) ∈ al ↔ ∃ v, rs[a]? = some (.alloc ao v)
/-- memory behind the loud operations below a place -/
def mainAt (ops : Array Oper) (h : AH) (rs : List Rk) (lam : Nat) : AH := heapOf (h.skip ops.size) (rs.take lam)
def consAt (ops : Array Oper) (rs : List Rk) (lam : Nat) (a : Nat) : Bool := consB (bf ops) a 0 (rs.take lam)
structure AI (nt : Nat) (ops : Array Oper) (env0 : T AV) (h : AH) (rs : List Rk) (ρ0 : Ren) (w0 : World) (L : Nat → Bool) (lam : Nat) (ρ : Ren) (w : World) (a : Act) : Prop where
  cl : Closed ops L
  lt : ∀ i, L i = true → i < ops.size
  lam0 : lam = 0 ∨ ∃ q u g, lam = q + 1 ∧ rs[q]? = some (.loud u g)
  loud : ∀ (q : Nat) u g, rs[q]? = some (.loud u g) → (L q = true ↔ q < lam)
  st : Stp ρ0 h.get h.next w0 ρ (gF h.next rs L (consAt ops rs lam) (mainAt ops h rs lam)) (mainAt ops h rs lam).next w
  nx : h.next + ops.size ≤ (mainAt ops h rs lam).next
  nm : ∀ i, i < ops.size → L i = false → ρ (h.next + i) = none
  mask : ∀ i, i < ops.size → ((mainAt ops h rs lam).get (h.next + i)).isSome = true → consAt ops rs lam i = true
  dz : a.defers = []
  size : a.tmps.size = nt
  val : ∀ t v, Val ops env0 rs L t v → ∃ x, a.tmps[t]? = some x ∧ VR ρ v x
variable {ρ0 ρ : Ren} {w0 w : World} {L L' : Nat → Bool} {lam : Nat} {a : Act}
omit [Nums] in
theorem consAt_iff {lam x : Nat} : consAt ops rs lam x = true ↔ ∃ l u g, l < lam ∧ rs[l]? = some (.loud u g) ∧ ahead (bf ops) x l = true := by
  unfold consAt
  rw [consB_P]
  unfold ConsP
  constructor
  · rintro ⟨l, u, g, h1, h2⟩
    obtain ⟨h3, h4⟩ := take_get.1 h1
    exact ⟨l, u, g, h3, h4, h2⟩
  · rintro ⟨l, u, g, h3, h4, h2⟩
    exact ⟨l, u, g, take_get.2 ⟨h3, h4⟩, h2⟩
/-- a place that may come next -/
structure Rdy (ops : Array Oper) (L : Nat → Bool) (i : Nat) (o : Oper) : Prop where
  op : ops[i]? = some o
  no : L i = false
  pre : ∀ e ∈ o.after.toList, Region.binds .any e = true → L e.on = true
omit [Nums] in
theorem Rdy.ahead {i : Nat} {o : Oper} (hc : Closed ops L) {j : Nat} (h : ahead (bf ops) j i = true) (hr : Rdy ops L i o) (hne : j ≠ i) : L j = true := by
  have hcl : Closed ops (fun k => L k || decide (k = i)) := by
    intro k q hq hk e he hb
    simp only [Bool.or_eq_true, decide_eq_true_eq] at hk ⊢
    rcases hk with hk | rfl
    · exact .inl (hc k q hq hk e he hb)
    · rw [hr.op] at hq
      cases hq
      exact .inl (hr.pre e he hb)
  have := ahead_dep h hcl (by simp)
  simpa [hne] using this
omit [Nums] in
/-- writers of a slot that an operation touches: done just if they stand ahead of it -/
theorem Rdy.writer {i : Nat} {o : Oper} (hk : chk ops = true) (hc : Closed ops L) (hr : Rdy ops L i o) {j t : Nat} (hj : dstAt ops j = some t) (ht : t ∈ looks ops o) : L j = true ↔ j < i := by
  obtain ⟨q, hq, hqd⟩ : ∃ q, ops[j]? = some q ∧ q.dst = some t := by
    unfold dstAt at hj
    cases hq : ops[j]? with
    | none => rw [hq] at hj; cases hj
    | some q => rw [hq] at hj; exact ⟨q, rfl, hj⟩
  rcases Nat.lt_trichotomy j i with h | h | h
  · refine ⟨fun _ => h, fun _ => ?_⟩
    have := (chk_ord hk hr.op hq (by omega) (.inl ⟨t, hqd, ht⟩)).1 h
    exact Rdy.ahead hc this hr (by omega)
  · subst h
    rw [hr.no]
    simp
  · refine ⟨fun hL => ?_, fun h' => by omega⟩
    have := (chk_ord hk hr.op hq (by omega) (.inl ⟨t, hqd, ht⟩)).2 h
    have := ahead_dep this hc hL
    rw [hr.no] at this
    cases this
omit [Nums] in
theorem Rdy.val {i : Nat} {o : Oper} (hk : chk ops = true) (hc : Closed ops L) (hr : Rdy ops L i o) {t : Nat} {v : AV} (ht : t ∈ looks ops o) (h : Val ops env0 rs (below i) t v) : Val ops env0 rs L t v := by
  have hw := fun j (hj : dstAt ops j = some t) => Rdy.writer hk hc hr hj ht
  rcases h with ⟨q, r, h1, h2, h3, h4, h5⟩ | ⟨h1, h2⟩
  · refine .inl ⟨q, r, (hw q h2).2 (by simpa [below] using h1), h2, h3, h4, fun j hj hj' => h5 j ?_ hj'⟩
    simp [below]
    exact (hw j hj').1 hj
  · refine .inr ⟨fun j hj hj' => h1 j ?_ hj', h2⟩
    simp [below]
    exact (hw j hj').1 hj
/-- what the slots hold that an operation looks at -/
theorem evs_rel {ρ : Ren} {env : T AV} {a : Act} : ∀ {l : List Operand} {vs : List AV}, (∀ t v, .tmp t ∈ l → env.get t = some v → ∃ x, a.tmps[t]? = some x ∧ VR ρ v x) → evs env l = some vs → VRs ρ vs (l.map a.eval)
  | [], vs, _, h => by simp only [evs, Option.some.injEq] at h; subst h; exact VRs.nil
  | o :: l, vs, hv, h => by
    unfold evs at h
    split at h <;> first | (cases h; done) | skip
    rename_i v hvo
    split at h <;> first | (cases h; done) | skip
    rename_i us hus
    simp only [Option.some.injEq] at h
    subst h
    refine VRs.cons ?_ (evs_rel (fun t v ht => hv t v (List.mem_cons_of_mem _ ht)) hus)
    cases o with
    | tmp t =>
      obtain ⟨x, hx, hr⟩ := hv t v List.mem_cons_self hvo
      have : a.eval (.tmp t) = x := by simp [Act.eval, hx]
      rw [this]
      exact hr
    | const c => exact ofV_sound ρ hvo
    | func f =>
      simp only [ev, Option.some.injEq] at hvo
      subst hvo
      unfold VR
      exact ⟨#[], #[], rfl, VRs.nil, VRs.nil⟩
    | global g =>
      simp only [ev, Option.some.injEq] at hvo
      subst hvo
      unfold VR
      rfl
theorem guard_rel {ρ : Ren} {env : T AV} {a : Act} {o : Oper} {g : Bool} (hv : ∀ t v, t ∈ o.looksAt ops → env.get t = some v → ∃ x, a.tmps[t]? = some x ∧ VR ρ v x) (h : guardA ops o env = some g) : Region.wanted o (yielded ops a.tmps) = g := by
  unfold guardA at h
  unfold Region.wanted
  split at h
  · rename_i hg
    rw [hg]
    simpa using h
  · rename_i j want hg
    rw [hg]
    dsimp only
    split at h
    · rename_i hj
      simp only [Option.some.injEq] at h
      subst h
      simp [yielded, hj]
    · rename_i q hj
      split at h
      · rename_i hd
        simp only [Option.some.injEq] at h
        subst h
        simp [yielded, hj, hd]
      · rename_i d hd
        have hmem : d ∈ o.looksAt ops := by
          unfold Oper.looksAt
          rw [hg]
          simp [hj, hd]
        split at h <;> first | (cases h; done) | skip
        · rename_i b hb
          simp only [Option.some.injEq] at h
          subst h
          obtain ⟨x, hx, hr⟩ := hv d _ hmem hb
          unfold VR at hr
          subst hr
          simp only [yielded, hj, Option.bind_some, hd, hx]
          simp
        · rename_i c p hb
          split at h <;> first | (cases h; done) | skip
          rename_i q hq
          simp only [Option.some.injEq] at h
          subst h
          obtain ⟨x, hx, hr⟩ := hv d _ hmem hb
          unfold VR at hr
          rw [askC_ok hq] at hr
          subst hr
          simp only [yielded, hj, Option.bind_some, hd, hx]
          simp
        · rename_i v hno hno2 hb
          simp only [Option.some.injEq] at h
          subst h
          obtain ⟨x, hx, hr⟩ := hv d _ hmem hb
          simp only [yielded, hj, Option.bind_some, hd, hx]
          cases x with
          | bool b =>
            cases v <;> simp [VR] at hr
            · subst hr
              exact absurd rfl (hno _)
            · exact absurd rfl (hno2 _ _)
          | _ => rfl
omit [Nums] in
theorem tmp_looks {o : Oper} {t : Nat} (h : .tmp t ∈ o.op.operands.toList) : t ∈ o.looksAt ops := by
  unfold Oper.looksAt
  refine List.mem_append_left _ ?_
  rw [List.mem_filterMap]
  exact ⟨_, h, rfl⟩
omit [Nums] in
theorem looks_of {o : Oper} {t : Nat} (h : t ∈ o.looksAt ops) : t ∈ looks ops o := List.mem_append_right _ h
omit [Nums] in
/-- what the slots hold behind one more operation -/
theorem val_step {i : Nat} {o : Oper} {r : Rk} (hk : chk ops = true) (hc : Closed ops L) (hr : Rdy ops L i o) (hri : rs[i]? = some r) (hL : ∀ j, L' j = true ↔ L j = true ∨ j = i) {t : Nat} {v : AV} (h : Val ops env0 rs L' t v) :
    (o.dst = some t ∧ v = r.res) ∨ (o.dst ≠ some t ∧ Val ops env0 rs L t v) := by
  have hd : dstAt ops i = o.dst := by simp [dstAt, hr.op]
  by_cases hdt : o.dst = some t
  · left
    refine ⟨hdt, ?_⟩
    have htl : t ∈ looks ops o := by unfold looks; rw [hdt]; simp
    rcases h with ⟨q, r', h1, h2, h3, h4, h5⟩ | ⟨h1, _⟩
    · have hiq := h5 i ((hL i).2 (.inr rfl)) (by rw [hd, hdt])
      rcases (hL q).1 h1 with h6 | h6
      · have := (Rdy.writer hk hc hr h2 htl).1 h6
        omega
      · subst h6
        rw [hri] at h3
        cases h3
        exact h4
    · exact absurd (by rw [hd, hdt]) (h1 i ((hL i).2 (.inr rfl)))
  · right
    refine ⟨hdt, ?_⟩
    rcases h with ⟨q, r', h1, h2, h3, h4, h5⟩ | ⟨h1, h2⟩
    · rcases (hL q).1 h1 with h6 | h6
      · exact .inl ⟨q, r', h6, h2, h3, h4, fun j hj hj' => h5 j ((hL j).2 (.inl hj)) hj'⟩
      · subst h6
        rw [hd] at h2
        exact absurd h2 hdt
    · exact .inr ⟨fun j hj hj' => h1 j ((hL j).2 (.inl hj)) hj', h2⟩
theorem put_vals {i : Nat} {o : Oper} {r : Rk} {ρ' : Ren} {x : Value} (hk : chk ops = true) (hc : Closed ops L) (hr : Rdy ops L i o) (hri : rs[i]? = some r) (hL : ∀ j, L' j = true ↔ L j = true ∨ j = i)
    (hd : ∀ d, o.dst = some d → d < nt) (hs : a.tmps.size = nt) (hv : ∀ t v, Val ops env0 rs L t v → ∃ x, a.tmps[t]? = some x ∧ VR ρ v x) (hm : ∀ n p, ρ n = some p → ρ' n = some p) (hx : VR ρ' r.res x) :
    ∀ t v, Val ops env0 rs L' t v → ∃ y, (a.put o.dst x).tmps[t]? = some y ∧ VR ρ' v y := by
  intro t v h
  rcases val_step hk hc hr hri hL h with ⟨h1, rfl⟩ | ⟨h1, h2⟩
  · have hlt := hd t h1
    refine ⟨x, ?_, hx⟩
    rw [h1]
    simp [Act.put, hs, hlt]
  · obtain ⟨y, hy, hyr⟩ := hv t v h2
    refine ⟨y, ?_, hyr.mono hm⟩
    cases hod : o.dst with
    | none => exact hy
    | some d =>
      have : d ≠ t := fun he => h1 (by rw [hod, he])
      simp [Act.put, Array.getElem?_setIfInBounds, this, hy]
omit [Nums] in
theorem put_size {o : Option Tmp} {x : Value} : (a.put o x).tmps.size = a.tmps.size := by
  cases o <;> simp [Act.put]
omit [Nums] in
theorem put_defers {o : Option Tmp} {x : Value} : (a.put o x).defers = a.defers := by
  cases o <;> rfl
omit [Nums] in
theorem closed_more {i : Nat} {o : Oper} (hc : Closed ops L) (hr : Rdy ops L i o) (hL : ∀ j, L' j = true ↔ L j = true ∨ j = i) : Closed ops L' := by
  intro k q hq hk e he hb
  rw [hL] at hk ⊢
  rcases hk with hk | rfl
  · exact .inl (hc k q hq hk e he hb)
  · rw [hr.op] at hq
    cases hq
    exact .inl (hr.pre e he hb)
/-- an operation that leaves memory as it is -/
theorem AI.still (hI : AI nt ops env0 h rs ρ0 w0 L lam ρ w a) {i : Nat} {o : Oper} {r : Rk} {x : Value} (hk : Ex.chk ops = true) (hr : Rdy ops L i o) (hri : rs[i]? = some r) (hL : ∀ j, L' j = true ↔ L j = true ∨ j = i) (hd : ∀ d, o.dst = some d → d < nt)
    (hnl : isL r = false) (hna : ∀ ao v, r ≠ .alloc ao v) (hx : VR ρ r.res x) : AI nt ops env0 h rs ρ0 w0 L' lam ρ w (a.put o.dst x) := by
  have hne : ∀ {q : Nat} {r' : Rk}, rs[q]? = some r' → r' ≠ r → q ≠ i := fun h1 h2 he => by
    subst he
    rw [hri] at h1
    cases h1
    exact h2 rfl
  refine ⟨closed_more hI.cl hr hL, fun j hj => ?_, hI.lam0, fun q u g hq => ?_, ?_, hI.nx, fun j hj hn => hI.nm j hj ?_, hI.mask, by rw [put_defers]; exact hI.dz, by rw [put_size]; exact hI.size, put_vals hk hI.cl hr hri hL hd hI.size hI.val (fun _ _ h => h) hx⟩
  · rcases (hL j).1 hj with h1 | rfl
    · exact hI.lt j h1
    · exact (Array.getElem?_eq_some_iff.1 hr.op).1
  · rw [← hI.loud q u g hq, hL]
    have : q ≠ i := hne hq (fun he => by subst he; cases hnl)
    simp [this]
  · rw [gF_congr (L := L) (C := consAt ops rs lam) (fun q ao v hq => ?_) (fun _ => rfl)]
    · exact hI.st
    · have : q ≠ i := hne hq (fun he => hna ao v he.symm)
      have := hL q
      cases h1 : L q <;> cases h2 : L' q <;> simp_all
  · cases h1 : L j with
    | false => rfl
    | true => rw [(hL j).2 (.inl h1)] at hn; cases hn
theorem AI.view (hI : AI nt ops env0 h rs ρ0 w0 L lam ρ w a) {i : Nat} {o : Oper} (hr : Rdy ops L i o) (hal : ∀ a ao, (a, ao) ∈ al → ∃ v, rs[a]? = some (.alloc ao v)) {r : Rk} (hri : rs[i]? = some r) (hna : ∀ ao v, r ≠ .alloc ao v)
    {see : Nat → Bool} (hsee : ∀ a, see a = true → ahead (bf ops) a i = true ∧ consAt ops rs lam a = false) {m : Nat} {x : AO} (hm : (overlay h.next see al (mainAt ops h rs lam)).get m = some x) :
    gF h.next rs L (consAt ops rs lam) (mainAt ops h rs lam) m = some x := by
  rcases overlay_spec hm with ⟨q, h1, h2, rfl⟩ | h1
  · obtain ⟨v, hq⟩ := hal _ _ h2
    obtain ⟨h3, h4⟩ := hsee q h1
    have hne : q ≠ i := fun he => by subst he; rw [hri] at hq; cases hq; exact hna _ _ rfl
    exact gF_alloc hq (Rdy.ahead hI.cl h3 hr hne) h4
  · refine gF_main h1 fun q ao v he hq hLq => ?_
    subst he
    exact hI.mask q (hI.lt q hLq) (by rw [h1]; rfl)
end
end
end Go.Proofs.Ytmfemophafncnaa.Ex

/-
  The runner: a region that draws its order (the end). No condition.
-/
namespace Go.Proofs.Ytmfemophafncnaa.Ex
open Go
noncomputable section
variable [Nums]
section
variable {P : Program} {call : FuncId → List AV → AH → Option (AV × AH)} {nt : Nat} {ops : Array Oper} {env0 : T AV} {h : AH} {rs : List Rk} {al : List (Nat × AO)}
variable {ρ0 ρ : Ren} {w0 w : World} {L L' : Nat → Bool} {lam : Nat} {a : Act}
omit [Nums] in
theorem more_at {i : Nat} (hL : ∀ j, L' j = true ↔ L j = true ∨ j = i) {q : Nat} (h : q ≠ i) : L' q = L q := by
  have := hL q
  cases h1 : L q <;> cases h2 : L' q <;> simp_all
/-- an operation that makes a block -/
theorem AI.alloc (hI : AI nt ops env0 h rs ρ0 w0 L lam ρ w a) {i : Nat} {o : Oper} {ao : AO} {v : AV} {x : Value} {obj : Obj} {s : Nat} (hk : Ex.chk ops = true) (hr : Rdy ops L i o) (hri : rs[i]? = some (.alloc ao v)) (hL : ∀ j, L' j = true ↔ L j = true ∨ j = i) (hd : ∀ d, o.dst = some d → d < nt)
    (hO : OR ρ ao s (some obj)) (hx : ∀ ρ' : Ren, ρ' (h.next + i) = some (w.heap.size, s) → VR ρ' v x) : AI nt ops env0 h rs ρ0 w0 L' lam (upd ρ (h.next + i) (w.heap.size, s)) (w.alloc obj) (a.put o.dst x) := by
  have hi : i < ops.size := (Array.getElem?_eq_some_iff.1 hr.op).1
  have hCi : consAt ops rs lam i = false := by
    cases hc : consAt ops rs lam i with
    | false => rfl
    | true =>
      obtain ⟨l, u, g, h1, h2, h3⟩ := consAt_iff.1 hc
      have := ahead_dep h3 hI.cl ((hI.loud l u g h2).2 h1)
      rw [hr.no] at this
      cases this
  have hnl : ∀ {q : Nat} {u : AV} {g : AH}, rs[q]? = some (.loud u g) → q ≠ i := fun hq he => by
    subst he
    rw [hri] at hq
    cases hq
  obtain ⟨hst, hm⟩ := Stp.kept (w' := w.alloc obj) (g' := gF h.next rs L' (consAt ops rs lam) (mainAt ops h rs lam)) hI.st (h.next + i) (hI.nm i hi hr.no) (by omega) (by have := hI.nx; omega) hO rfl rfl rfl rfl (fun m o' hm => by
    rcases gF_cases hm with ⟨q, u, rfl, h1, h2, h3⟩ | ⟨h1, h2⟩
    · by_cases hq : q = i
      · subst hq
        rw [hri] at h1
        cases h1
        exact .inl ⟨rfl, rfl⟩
      · exact .inr ⟨by omega, gF_alloc h1 (by rw [← more_at hL hq]; exact h2) h3⟩
    · by_cases hmi : m = h.next + i
      · have := h2 i ao v hmi hri ((hL i).2 (.inr rfl))
        rw [hCi] at this
        cases this
      · refine .inr ⟨hmi, gF_main h1 fun q ao' v' he hq hLq => h2 q ao' v' he hq ((hL q).2 (.inl hLq))⟩)
  have hup : upd ρ (h.next + i) (w.heap.size, s) (h.next + i) = some (w.heap.size, s) := by simp [upd]
  refine ⟨closed_more hI.cl hr hL, fun j hj => ?_, hI.lam0, fun q u g hq => ?_, hst, hI.nx, fun j hj hn => ?_, hI.mask, by rw [put_defers]; exact hI.dz, by rw [put_size]; exact hI.size,
    put_vals hk hI.cl hr hri hL hd hI.size hI.val hm (hx _ hup)⟩
  · rcases (hL j).1 hj with h1 | rfl
    · exact hI.lt j h1
    · exact hi
  · rw [← hI.loud q u g hq, more_at hL (hnl hq)]
  · have hji : j ≠ i := fun he => by
      subst he
      rw [(hL j).2 (.inr rfl)] at hn
      cases hn
    rw [more_at hL hji] at hn
    unfold upd
    rw [if_neg (by omega)]
    exact hI.nm j hj hn
omit [Nums] in
theorem isLoud_of {o : Oper} (h : kd o.op = .loud) : isLoud o = true := by unfold isLoud; rw [h]
/-- no loud operation stands between the last one that is done and the next one -/
theorem Reg.gap (hR : Reg P call nt ops env0 h rs al) (hI : AI nt ops env0 h rs ρ0 w0 L lam ρ w a) {i : Nat} {o : Oper} (hr : Rdy ops L i o) (hko : kd o.op = .loud) {l : Nat} {u : AV} {g : AH} (hl : rs[l]? = some (.loud u g)) (hli : l < i) : l < lam := by
  have hlt : l < rs.length := (List.getElem?_eq_some_iff.1 hl).1
  obtain ⟨q, hq⟩ : ∃ q, ops[l]? = some q := ⟨_, Array.getElem?_eq_getElem (by rw [← hR.len]; exact hlt)⟩
  have hql : isLoud q = true := by
    obtain ⟨env, h1, cons, al', _, _, hf⟩ := hR.fact l _ q hl hq
    rcases hf with ⟨_, h2⟩ | ⟨_, vs, _, h2⟩
    · cases h2
    · unfold KF at h2
      unfold isLoud
      split at h2
      · obtain ⟨_, _, h3⟩ := h2; cases h3
      · obtain ⟨_, h3⟩ := h2; cases h3
      · obtain ⟨_, _, _, h3⟩ := h2; cases h3
      · rename_i hk; rw [hk]
  have := (chk_ord hR.chk hr.op hq (by omega) (.inr ⟨isLoud_of hko, hql⟩)).1 hli
  exact (hI.loud l u g hl).1 (Rdy.ahead hI.cl this hr (by omega))
theorem Reg.main_eq (hR : Reg P call nt ops env0 h rs al) (hI : AI nt ops env0 h rs ρ0 w0 L lam ρ w a) {i : Nat} {o : Oper} (hr : Rdy ops L i o) (hko : kd o.op = .loud) (hle : lam ≤ i) :
    heapOf (h.skip ops.size) (rs.take i) = mainAt ops h rs lam := by
  have hs : rs.take i = rs.take lam ++ (rs.drop lam).take (i - lam) := by
    rw [← List.take_add, show lam + (i - lam) = i from by omega]
  rw [hs, heapOf_append, heapOf_none]
  · rfl
  · intro r hmem
    obtain ⟨k, hk⟩ := List.mem_iff_getElem?.1 hmem
    obtain ⟨h1, h2⟩ := take_get.1 hk
    rw [List.getElem?_drop] at h2
    cases r with
    | loud u g =>
      have := hR.gap hI hr hko h2 (by omega)
      omega
    | _ => rfl
/-- a loud operation -/
theorem AI.loudOp (hR : Reg P call nt ops env0 h rs al) (hI : AI nt ops env0 h rs ρ0 w0 L lam ρ w a) {i : Nat} {o : Oper} {v : AV} {H' V : AH} {x : Value} {ρ' : Ren} {w' : World} (hr : Rdy ops L i o) (hko : kd o.op = .loud) (hri : rs[i]? = some (.loud v H')) (hL : ∀ j, L' j = true ↔ L j = true ∨ j = i) (hd : ∀ d, o.dst = some d → d < nt)
    (hVn : V.next = (mainAt ops h rs lam).next) (hV : ∀ m o', V.get m = some o' → (∃ q, ahead (bf ops) q i = true ∧ consAt ops rs lam q = false ∧ m = h.next + q ∧ ∃ u, rs[q]? = some (.alloc o' u)) ∨ (mainAt ops h rs lam).get m = some o')
    (hVi : ∀ m o', V.get m = some o' → gF h.next rs L (consAt ops rs lam) (mainAt ops h rs lam) m = some o')
    (hst : Stp ρ V.get V.next w ρ' H'.get H'.next w') (hx : VR ρ' v x) : AI nt ops env0 h rs ρ0 w0 L' (i + 1) ρ' w' (a.put o.dst x) := by
  have hi : i < ops.size := (Array.getElem?_eq_some_iff.1 hr.op).1
  have hli : lam ≤ i := by
    rcases Nat.lt_or_ge i lam with h1 | h1
    · have := (hI.loud i v H' hri).2 h1
      rw [hr.no] at this
      cases this
    · exact h1
  have hmain' : mainAt ops h rs (i + 1) = H' := by
    unfold mainAt
    have hlt := (List.getElem?_eq_some_iff.1 hri).1
    have hri' : rs[i] = .loud v H' := (List.getElem?_eq_some_iff.1 hri).2
    rw [List.take_succ_eq_append_getElem hlt, heapOf_append, hri']
    rfl
  have hmono : ∀ q, consAt ops rs lam q = true → consAt ops rs (i + 1) q = true := fun q hq => by
    obtain ⟨l, u, g, h1, h2, h3⟩ := consAt_iff.1 hq
    exact consAt_iff.2 ⟨l, u, g, by omega, h2, h3⟩
  have hmono' : ∀ q, ahead (bf ops) q i = true → consAt ops rs (i + 1) q = true := fun q hq => consAt_iff.2 ⟨i, v, H', by omega, hri, hq⟩
  have hcons' : ∀ q, consAt ops rs (i + 1) q = true → consAt ops rs lam q = true ∨ ahead (bf ops) q i = true := fun q hq => by
    obtain ⟨l, u, g, h1, h2, h3⟩ := consAt_iff.1 hq
    rcases Nat.lt_or_ge l i with h4 | h4
    · exact .inl (consAt_iff.2 ⟨l, u, g, hR.gap hI hr hko h2 h4, h2, h3⟩)
    · have : l = i := by omega
      subst this
      exact .inr h3
  have hst' : Stp ρ (gF h.next rs L (consAt ops rs lam) (mainAt ops h rs lam)) (mainAt ops h rs lam).next w ρ' (gF h.next rs L' (consAt ops rs (i + 1)) H') H'.next w' := by
    rw [hVn] at hst
    refine Stp.frame hI.st.hr hVi hst _ fun m o' hm => ?_
    rcases gF_cases hm with ⟨q, u, rfl, h1, h2, h3⟩ | ⟨h1, h2⟩
    · left
      have hqi : q ≠ i := fun he => by subst he; rw [hri] at h1; cases h1
      have hq0 : consAt ops rs lam q = false := by
        cases hc : consAt ops rs lam q with
        | false => rfl
        | true => rw [hmono q hc] at h3; cases h3
      refine ⟨gF_alloc h1 (by rw [← more_at hL hqi]; exact h2) hq0, ?_⟩
      cases hg : V.get (h.next + q) with
      | none => rfl
      | some o2 =>
        rcases hV _ _ hg with ⟨q', h4, _, h5, _⟩ | h4
        · have : q' = q := by omega
          subst this
          rw [hmono' _ h4] at h3
          cases h3
        · have := hI.mask q (by rw [← hR.len]; exact (List.getElem?_eq_some_iff.1 h1).1) (by rw [h4]; rfl)
          rw [hq0] at this
          cases this
    · exact .inr h1
  have hgr := hst.gr
  rw [hVn] at hgr
  have hnx : h.next + ops.size ≤ H'.next := Nat.le_trans hI.nx hgr
  refine ⟨closed_more hI.cl hr hL, fun j hj => ?_, .inr ⟨i, v, H', rfl, hri⟩, fun q u g hq => ?_, by rw [hmain']; exact hI.st.trans hst', by rw [hmain']; exact hnx, fun j hj hn => ?_, fun j hj hm => ?_, by rw [put_defers]; exact hI.dz, by rw [put_size]; exact hI.size,
    put_vals hR.chk hI.cl hr hri hL hd hI.size hI.val (Stp.mono hI.st.hr hst') hx⟩
  · rcases (hL j).1 hj with h1 | rfl
    · exact hI.lt j h1
    · exact hi
  · rw [hL, hI.loud q u g hq]
    constructor
    · rintro (h1 | rfl) <;> omega
    · intro h1
      rcases Nat.lt_or_ge q i with h2 | h2
      · exact .inl (hR.gap hI hr hko hq h2)
      · exact .inr (by omega)
  · have hjL : L j = false := by
      cases h1 : L j with
      | false => rfl
      | true => rw [(hL j).2 (.inl h1)] at hn; cases hn
    rw [hst'.ext (h.next + j) (by have := hI.nx; omega)]
    exact hI.nm j hj hjL
  · rw [hmain'] at hm
    have := hst.dom (h.next + j) (by rw [hVn]; have := hI.nx; omega) hm
    obtain ⟨o2, ho2⟩ := Option.isSome_iff_exists.1 this
    rcases hV _ _ ho2 with ⟨q', h4, _, h5, _⟩ | h4
    · have : q' = j := by omega
      subst this
      exact hmono' _ h4
    · exact hmono _ (hI.mask j hj (by rw [h4]; rfl))
/-- one operation that may come next -/
theorem Reg.step (hR : Reg P call nt ops env0 h rs al) (hc : CallS P call) (hI : AI nt ops env0 h rs ρ0 w0 L lam ρ w a) {i : Nat} {o : Oper} (hr : Rdy ops L i o) (hL : ∀ j, L' j = true ↔ L j = true ∨ j = i) {Q : Exit → Act → World → Prop} {K : Act → World → Prop}
    (hK : ∀ lam' ρ' w' a', AI nt ops env0 h rs ρ0 w0 L' lam' ρ' w' a' → K a' w') : wpOp P ops Q i K a w := by
  have hi : i < ops.size := (Array.getElem?_eq_some_iff.1 hr.op).1
  obtain ⟨r, hri⟩ : ∃ r, rs[i]? = some r := ⟨_, List.getElem?_eq_getElem (by rw [hR.len]; exact hi)⟩
  obtain ⟨env, h1, cons, al', hInv, hd, hf⟩ := hR.fact i r o hri hr.op
  have hlen : (rs.take i).length = i := by rw [List.length_take, Nat.min_eq_left (by rw [hR.len]; omega)]
  have hpre : ∀ k, k < i → (rs.take i)[k]? = rs[k]? := fun k hk => by rw [List.getElem?_take, if_pos hk]
  have hvals : ∀ {env : T AV}, (∀ t v, env.get t = some v → Val ops env0 rs (below i) t v) → ∀ t v, t ∈ looks ops o → env.get t = some v → ∃ x, a.tmps[t]? = some x ∧ VR ρ v x := fun he t v ht hg => hI.val t v (Rdy.val hR.chk hI.cl hr ht (he t v hg))
  have henv : ∀ t v, env.get t = some v → Val ops env0 rs (below i) t v := fun t v hv => by
    have := hInv.env t v hv
    rw [hlen] at this
    exact this.ext hpre
  unfold wpOp
  rw [hr.op]
  dsimp only
  rcases hf with ⟨hg, rfl⟩ | ⟨hg, vs, hvs, hkf⟩
  · have hw := guard_rel (ρ := ρ) (a := a) (fun t v ht => hvals henv t v (looks_of ht)) hg
    rw [hw]
    simp only [Bool.false_eq_true, if_false]
    exact hK lam ρ w _ (AI.still hI hR.chk hr hri hL hd rfl (by intro _ _ h; cases h) (by unfold Rk.res und VR; exact ⟨#[], rfl, VRs.nil⟩))
  · have hw := guard_rel (ρ := ρ) (a := a) (fun t v ht => hvals henv t v (looks_of ht)) hg
    rw [hw]
    simp only [if_true]
    left
    have hv : VRs ρ vs (o.op.operands.toList.map a.eval) := evs_rel (fun t v ht => hvals henv t v (looks_of (tmp_looks ht))) hvs
    unfold KF at hkf
    split at hkf
    · obtain ⟨v, hp, rfl⟩ := hkf
      obtain ⟨x, hx, hrun⟩ := pure_sound hp hv
      unfold Oper.wp
      rw [hrun w]
      exact hK lam ρ w _ (AI.still hI hR.chk hr hri hL hd rfl (by intro _ _ h; cases h) hx)
    · rename_i hkd
      obtain ⟨v, rfl⟩ := hkf
      obtain ⟨env2, vs2, henv2, hvs2, hsame⟩ := hR.read i v o hri hr.op hkd
      have hv2 : VRs ρ vs2 (o.op.operands.toList.map a.eval) := evs_rel (fun t v ht => hvals henv2 t v (looks_of (tmp_looks ht))) hvs2
      have hmay : mayAt (bf ops) i lam 0 rs = true := by
        refine mayAt_ok fun k u g hk => ?_
        rw [Nat.zero_add]
        have hki : k ≠ i := fun he => by subst he; rw [hri] at hk; cases hk
        refine ⟨fun hlt => ?_, fun hge => ?_⟩
        · cases ha : ahead (bf ops) i k with
          | false => rfl
          | true =>
            have := ahead_dep ha hI.cl ((hI.loud k u g hk).2 hlt)
            rw [hr.no] at this
            cases this
        · cases ha : ahead (bf ops) k i with
          | false => rfl
          | true =>
            have := (hI.loud k u g hk).1 (Rdy.ahead hI.cl ha hr hki)
            omega
      obtain ⟨c, hcb, hread⟩ := sameAll_spec hsame lam hI.lam0 hmay
      have hcc : ∀ q, c.testBit q = consAt ops rs lam q := fun q => by
        have := hcb q
        rw [← consB_P] at this
        unfold consAt
        cases h1 : c.testBit q <;> cases h2 : consB (bf ops) q 0 (rs.take lam) <;> simp_all
      obtain ⟨x, hx, hrun⟩ := read_sound (nx := (mainAt ops h rs lam).next) (w := w) (HR.sub hI.st.hr fun m o' hm => by
        refine AI.view hI (al := al) hr (fun q ao hq => (hR.al q ao).1 hq) hri (by intro _ _ h; cases h) (fun q hq => ?_) hm
        rw [Bool.and_eq_true] at hq
        refine ⟨hq.1, ?_⟩
        have := hq.2
        rw [hcc] at this
        simpa using this) hread hv2
      unfold Oper.wp
      rw [hrun]
      exact hK lam ρ w _ (AI.still hI hR.chk hr hri hL hd rfl (by intro _ _ h; cases h) hx)
    · obtain ⟨ao, k, ha, rfl⟩ := hkf
      obtain ⟨obj, s, hO, hrun⟩ := alloc_sound ha hv
      obtain ⟨x, hrx, hx⟩ := hrun w
      unfold Oper.wp
      rw [hrx]
      exact hK lam _ _ _ (AI.alloc hI hR.chk hr hri hL hd hO fun ρ' hp => hx ρ' _ hp)
    · rename_i hkd
      obtain ⟨v, H', rfl, hop⟩ := hkf
      have hli : lam ≤ i := by
        rcases Nat.lt_or_ge i lam with h1 | h1
        · have := (hI.loud i v H' hri).2 h1
          rw [hr.no] at this
          cases this
        · exact h1
      have hmain : h1 = mainAt ops h rs lam := by rw [hInv.heap, hR.main_eq hI hr hkd hli]
      have hcons : ∀ q, cons.testBit q = consAt ops rs lam q := fun q => by
        have h2 : cons.testBit q = true ↔ consAt ops rs lam q = true := by
          rw [hInv.cons, consAt_iff]
          constructor
          · rintro ⟨l, u, g, h3, h4⟩
            obtain ⟨h5, h6⟩ := take_get.1 h3
            exact ⟨l, u, g, hR.gap hI hr hkd h6 h5, h6, h4⟩
          · rintro ⟨l, u, g, h3, h4, h5⟩
            exact ⟨l, u, g, take_get.2 ⟨by omega, h4⟩, h5⟩
        cases h3 : cons.testBit q <;> cases h4 : consAt ops rs lam q <;> simp_all
      have hal' : ∀ q ao, (q, ao) ∈ al' → ∃ u, rs[q]? = some (.alloc ao u) := fun q ao hq => by
        obtain ⟨u, hu⟩ := (hInv.al q ao).1 hq
        exact ⟨u, (take_get.1 hu).2⟩
      rw [hmain] at hop
      have hview : ∀ m o', (overlay h.next (fun q => ahead (bf ops) q i && !(cons.testBit q)) al' (mainAt ops h rs lam)).get m = some o' → gF h.next rs L (consAt ops rs lam) (mainAt ops h rs lam) m = some o' := fun m o' hm => by
        refine AI.view hI (al := al') hr hal' hri (by intro _ _ h; cases h) (fun q hq => ?_) hm
        rw [Bool.and_eq_true] at hq
        refine ⟨hq.1, ?_⟩
        have := hq.2
        rw [hcons] at this
        simpa using this
      refine loudOp_wp hc hkd hop (HR.sub (by rw [overlay_next]; exact hI.st.hr) hview) hv fun ρ' x w' hst hx => ?_
      refine hK (i + 1) ρ' w' _ (AI.loudOp hR hI hr hkd hri hL hd overlay_next (fun m o' hm => ?_) hview hst hx)
      rcases overlay_spec hm with ⟨q, h2, h3, rfl⟩ | h2
      · left
        rw [Bool.and_eq_true] at h2
        obtain ⟨u, hu⟩ := hal' _ _ h3
        refine ⟨q, h2.1, ?_, rfl, u, hu⟩
        have := h2.2
        rw [hcons] at this
        simpa using this
      · exact .inr h2
end
end
end Go.Proofs.Ytmfemophafncnaa.Ex

/-
  The runner: regions, code, calls: what it finds is what the model does, whatever the tape holds. No condition.
-/
namespace Go.Proofs.Ytmfemophafncnaa.Ex
open Go
noncomputable section
variable [Nums]
section
variable {P : Program} {call : FuncId → List AV → AH → Option (AV × AH)} {nt : Nat} {ops : Array Oper} {ρ : Ren} {w : World}
theorem Stp.up {ρ' : Ren} {g g' : Nat → Option AO} {nx nx' n2 : Nat} {w' : World} (h : Stp ρ g nx w ρ' g' nx' w') (hn : nx' ≤ n2) : Stp ρ g nx w ρ' g' n2 w' :=
  ⟨h.hr.up hn, h.ext, Nat.le_trans h.gr hn, h.os, h.tape, h.output, h.size, h.block, h.live, h.dom⟩
omit [Nums] in
theorem skip_get {h : AH} {k : Nat} : (h.skip k).get = h.get := by cases h; rfl
omit [Nums] in
theorem skip_next {h : AH} {k : Nat} : (h.skip k).next = h.next + k := by cases h; rfl
omit [Nums] in
theorem cnt {p p' : Nat → Bool} {i : Nat} (hp : p i = true) (h : ∀ j, p' j = (p j && decide (j ≠ i))) : ∀ l : List Nat, l.Nodup → i ∈ l → l.countP p' + 1 = l.countP p
  | [], _, hi => by cases hi
  | x :: l, hn, hi => by
    rw [List.nodup_cons] at hn
    by_cases hx : x = i
    · subst hx
      have : ∀ j ∈ l, p' j = p j := fun j hj => by
        rw [h]
        have : j ≠ x := fun he => hn.1 (he ▸ hj)
        simp [this]
      have hc : l.countP p' = l.countP p := by
        clear hi hn
        induction l with
        | nil => rfl
        | cons y l ih =>
          rw [List.countP_cons, List.countP_cons, ih (fun j hj => this j (List.mem_cons_of_mem _ hj)), this y List.mem_cons_self]
      rw [List.countP_cons, List.countP_cons, hc, hp, h]
      simp
    · have hi' : i ∈ l := by
        rcases List.mem_cons.1 hi with h1 | h1
        · exact absurd h1.symm hx
        · exact h1
      have ih := cnt hp h l hn.2 hi'
      rw [List.countP_cons, List.countP_cons, h]
      simp [hx]
      omega
omit [Nums] in
theorem ready_iff {listed : Array Bool} (hs : listed.size = ops.size) {i : Nat} : i ∈ Region.ready .any ops listed ↔ ∃ o, Rdy ops (fun j => listed.getD j false) i o := by
  unfold Region.ready
  rw [List.mem_filter, List.mem_range]
  constructor
  · rintro ⟨h1, h2⟩
    rw [Bool.and_eq_true] at h2
    obtain ⟨o, ho⟩ : ∃ o, ops[i]? = some o := ⟨_, Array.getElem?_eq_getElem h1⟩
    refine ⟨o, ho, ?_, fun e he hb => ?_⟩
    · have := h2.1
      simp only [Array.getD_eq_getD_getElem?, Array.getElem?_eq_getElem (show i < listed.size by omega)] at this ⊢
      simpa using this
    · have := h2.2
      rw [ho] at this
      simp only [Option.map_some, Option.getD_some, Array.all_eq_true_iff_forall_mem] at this
      have := this e (by simpa using he)
      simpa [hb] using this
  · rintro ⟨o, hr⟩
    have h1 : i < ops.size := (Array.getElem?_eq_some_iff.1 hr.op).1
    refine ⟨h1, ?_⟩
    rw [Bool.and_eq_true]
    refine ⟨?_, ?_⟩
    · have := hr.no
      simp only [Array.getD_eq_getD_getElem?, Array.getElem?_eq_getElem (show i < listed.size by omega)] at this ⊢
      simpa using this
    · rw [hr.op]
      simp only [Option.map_some, Option.getD_some, Array.all_eq_true_iff_forall_mem]
      intro e he
      cases hb : Region.binds .any e with
      | false => rfl
      | true => simpa using hr.pre e (by simpa using he) hb
section
variable {env0 : T AV} {h : AH} {rs : List Rk} {al : List (Nat × AO)} {ρ0 : Ren} {w0 : World}
omit [Nums] in
/-- none may come next: all are done -/
theorem ready_nil (hk : chk ops = true) {listed : Array Bool} (hs : listed.size = ops.size) (hn : Region.ready .any ops listed = []) : ∀ i, i < ops.size → listed.getD i false = true := by
  intro i
  induction i using Nat.strongRecOn with
  | _ i ih =>
    intro hi
    cases hL : listed.getD i false with
    | true => rfl
    | false =>
      obtain ⟨o, ho⟩ : ∃ o, ops[i]? = some o := ⟨_, Array.getElem?_eq_getElem hi⟩
      have : i ∈ Region.ready .any ops listed := (ready_iff hs).2 ⟨o, ho, hL, fun e he hb => by
        have := chk_lt hk ho e he hb
        exact ih e.on this (by omega)⟩
      rw [hn] at this
      cases this
theorem any_wp (hR : Reg P call nt ops env0 h rs al) (hc : CallS P call) {Q : Exit → Act → World → Prop}
    (hQ : ∀ L lam ρ w a, AI nt ops env0 h rs ρ0 w0 L lam ρ w a → (∀ i, i < ops.size → L i = true) → Q .normal a w) : ∀ (fuel : Nat) (listed : Array Bool) (lam : Nat) (ρ : Ren) (w : World) (a : Act), listed.size = ops.size →
    (List.range ops.size).countP (fun j => !listed.getD j false) ≤ fuel → AI nt ops env0 h rs ρ0 w0 (fun j => listed.getD j false) lam ρ w a → wpAny P .any ops Q fuel listed a w
  | 0, listed, lam, ρ, w, a, hs, hf, hI => by
    have hall : ∀ i, i < ops.size → listed.getD i false = true := by
      intro i hi
      have h0 : (List.range ops.size).countP (fun j => !listed.getD j false) = 0 := by omega
      rw [List.countP_eq_zero] at h0
      have := h0 i (List.mem_range.2 hi)
      simpa using this
    refine ⟨?_, hQ _ _ _ _ _ hI hall⟩
    rw [List.eq_nil_iff_forall_not_mem]
    intro i hi
    obtain ⟨o, hr⟩ := (ready_iff hs).1 hi
    have := hall i (Array.getElem?_eq_some_iff.1 hr.op).1
    have h2 : listed.getD i false = false := hr.no
    rw [this] at h2
    cases h2
  | fuel + 1, listed, lam, ρ, w, a, hs, hf, hI => by
    refine ⟨fun hn => hQ _ _ _ _ _ hI (ready_nil hR.chk hs hn), fun i hi => ?_⟩
    obtain ⟨o, hr⟩ := (ready_iff hs).1 hi
    have hio : i < ops.size := (Array.getElem?_eq_some_iff.1 hr.op).1
    have hL : ∀ j, (listed.setIfInBounds i true).getD j false = true ↔ listed.getD j false = true ∨ j = i := by
      intro j
      simp only [Array.getD_eq_getD_getElem?, Array.getElem?_setIfInBounds]
      by_cases hij : i = j
      · subst hij
        simp [show i < listed.size by omega]
      · simp [hij, Ne.symm hij]
    refine hR.step hc hI hr (L' := fun j => (listed.setIfInBounds i true).getD j false) hL fun lam' ρ' w' a' hI' => ?_
    refine any_wp hR hc hQ fuel _ lam' ρ' w' a' (by simpa using hs) ?_ hI'
    have := cnt (p := fun j => !listed.getD j false) (p' := fun j => !(listed.setIfInBounds i true).getD j false) (i := i) (by simpa using hr.no) (fun j => by
      have := hL j
      cases h1 : (listed.setIfInBounds i true).getD j false <;> cases h2 : listed.getD j false <;> by_cases h3 : j = i <;> simp_all) (List.range ops.size) List.nodup_range (List.mem_range.2 hio)
    omega
end
/-- A REGION THAT DRAWS ITS ORDER -/
theorem regDr_wp (hc : CallS P call) {env env' : T AV} {h h' : AH} {a : Act} (hreg : regDr P call nt ops env h = some (env', h')) (hE : ER ρ env nt a) (hH : HR ρ h.get h.next w) {Q : Exit → Act → World → Prop}
    (hQ : ∀ ρ' w' a', Stp ρ h.get h.next w ρ' h'.get h'.next w' → ER ρ' env' nt a' → Q .normal a' w') : wpAny P .any ops Q ops.size (Array.replicate ops.size false) a w := by
  unfold regDr at hreg
  split at hreg <;> first | (cases hreg; done) | skip
  rename_i hk
  split at hreg <;> first | (cases hreg; done) | skip
  split at hreg <;> first | (cases hreg; done) | skip
  rename_i rs envF hF cons al hd
  split at hreg <;> first | (cases hreg; done) | skip
  rename_i hrd
  simp only [Option.some.injEq, Prod.mk.injEq] at hreg
  obtain ⟨rfl, rfl⟩ := hreg
  have hInv0 : InvR ops (bf ops) env (h.skip ops.size) ([] : List Rk).reverse env (h.skip ops.size) 0 [] := by
    refine ⟨fun t v hv => .inr ⟨by simp [below], hv⟩, rfl, fun a => by simp [ConsP], fun a ao => by simp⟩
  obtain ⟨tail, e1, e2, hInv, hfact⟩ := regD_facts (env0 := env) (h0 := h.skip ops.size) ops.toList env (h.skip ops.size) 0 [] [] hd (by simp) hInv0
  simp only [List.reverse_nil, List.nil_append, List.length_nil, Nat.zero_add] at e1 hfact
  subst e1
  have hlen : rs.length = ops.size := by simpa using e2
  have hreads := reads_facts (nt := nt) (b := bf ops) (base := h.next) (env0 := env) (h0 := h.skip ops.size) (all := rs) (al := al) ops.toList [] rs env hrd (by simp) (fun t v hv => .inr ⟨by simp [below], hv⟩)
  simp only [List.nil_append, List.length_nil, Nat.zero_add] at hreads
  have hR : Reg P call nt ops env h rs al := by
    refine ⟨hk, hlen, fun i r o hr ho => hfact i r o hr (by simpa using ho), fun i v o hr ho hkd => ?_, hInv.al⟩
    obtain ⟨en, vs, h1, h2, h3⟩ := hreads i v o hr (by simpa using ho) hkd
    exact ⟨en, vs, fun t u hu => (h1 t u hu).ext fun k hk => by rw [List.getElem?_take, if_pos hk], h2, h3⟩
  have hg0 : ∀ m o, gF h.next rs (fun j => (Array.replicate ops.size false).getD j false) (consAt ops rs 0) (mainAt ops h rs 0) m = some o → h.get m = some o := by
    intro m o hm
    rcases gF_cases hm with ⟨q, u, _, _, h2, _⟩ | ⟨h1, _⟩
    · simp only [Array.getD_eq_getD_getElem?, Array.getElem?_replicate] at h2
      split at h2 <;> simp at h2
    · have : (mainAt ops h rs 0).get = h.get := by unfold mainAt; rw [List.take_zero]; exact skip_get
      rw [← this]
      exact h1
  have hm0 : mainAt ops h rs 0 = h.skip ops.size := by unfold mainAt; rw [List.take_zero]; rfl
  refine any_wp (ρ0 := ρ) (w0 := w) hR hc (fun L lam ρ' w' a' hI hall => ?_) ops.size _ 0 ρ w a (by simp) ?_ ?_
  · have hlam : rs.take lam = rs ∨ ∀ q u g, rs[q]? = some (.loud u g) → q < lam := .inr fun q u g hq => (hI.loud q u g hq).1 (hall q (by rw [← hlen]; exact (List.getElem?_eq_some_iff.1 hq).1))
    have hlast : ∀ q u g, rs[q]? = some (.loud u g) → q < lam := fun q u g hq => (hI.loud q u g hq).1 (hall q (by rw [← hlen]; exact (List.getElem?_eq_some_iff.1 hq).1))
    have hmain : mainAt ops h rs lam = hF := by
      rw [hInv.heap]
      unfold mainAt
      have : rs = rs.take lam ++ rs.drop lam := (List.take_append_drop _ _).symm
      conv => rhs; rw [this]
      rw [heapOf_append, heapOf_none (q := rs.drop lam)]
      intro r hmem
      obtain ⟨k, hk⟩ := List.mem_iff_getElem?.1 hmem
      rw [List.getElem?_drop] at hk
      cases r with
      | loud u g =>
        have := hlast _ u g hk
        omega
      | _ => rfl
    have hcons : ∀ q, cons.testBit q = consAt ops rs lam q := fun q => by
      have h2 : cons.testBit q = true ↔ consAt ops rs lam q = true := by
        rw [hInv.cons, consAt_iff]
        constructor
        · rintro ⟨l, u, g, h3, h4⟩
          exact ⟨l, u, g, hlast l u g h3, h3, h4⟩
        · rintro ⟨l, u, g, _, h4, h5⟩
          exact ⟨l, u, g, h4, h5⟩
      cases h3 : cons.testBit q <;> cases h4 : consAt ops rs lam q <;> simp_all
    refine hQ ρ' w' a' ?_ ⟨hI.dz, hI.size, fun t v hv => hI.val t v ?_⟩
    · have := hI.st
      rw [hmain] at this
      rw [overlay_next]
      refine Stp.sub this fun m o hm => ?_
      rcases overlay_spec hm with ⟨q, h1, h2, rfl⟩ | h1
      · obtain ⟨u, hu⟩ := (hInv.al q o).1 h2
        refine gF_alloc hu (hall q (by rw [← hlen]; exact (List.getElem?_eq_some_iff.1 hu).1)) ?_
        rw [hcons] at h1
        simpa using h1
      · refine gF_main h1 fun q ao v he hq _ => ?_
        subst he
        exact hI.mask q (by rw [← hlen]; exact (List.getElem?_eq_some_iff.1 hq).1) (by rw [hmain, h1]; rfl)
    · have := hInv.env t v hv
      rcases this with ⟨q, r, h1, h2, h3, h4, h5⟩ | ⟨h1, h2⟩
      · refine .inl ⟨q, r, hall q (by rw [← hlen]; exact (List.getElem?_eq_some_iff.1 h3).1), h2, h3, h4, fun j hj hj' => h5 j ?_ hj'⟩
        have := hI.lt j hj
        simp [below, hlen, this]
      · refine .inr ⟨fun j hj hj' => h1 j ?_ hj', h2⟩
        have := hI.lt j hj
        simp [below, hlen, this]
  · have := List.countP_le_length (p := fun j => !(Array.replicate ops.size false).getD j false) (l := List.range ops.size)
    simpa using this
  · have hLf : ∀ j, (Array.replicate ops.size false).getD j false = false := by
      intro j
      simp only [Array.getD_eq_getD_getElem?, Array.getElem?_replicate]
      split <;> rfl
    refine ⟨fun i o _ hi => ?_, fun i hi => ?_, .inl rfl, fun q u g _ => ?_, ?_, ?_, fun i hi _ => ?_, fun i hi hs => ?_, hE.dz, hE.size, fun t v hv => ?_⟩
    · rw [hLf] at hi; cases hi
    · rw [hLf] at hi; cases hi
    · rw [hLf]; simp
    · rw [hm0, skip_next]
      have := (Stp.refl hH).up (n2 := h.next + ops.size) (by omega)
      exact Stp.sub this (by rw [hm0] at hg0; exact hg0)
    · rw [hm0, skip_next]; omega
    · exact hH.fresh _ (by omega)
    · rw [hm0, skip_get] at hs
      obtain ⟨o, ho⟩ := Option.isSome_iff_exists.1 hs
      obtain ⟨b, s, hb, _⟩ := hH.obj _ _ ho
      rw [hH.fresh _ (by omega)] at hb
      cases hb
    · rcases hv with ⟨q, r, h1, _⟩ | ⟨_, h2⟩
      · dsimp only at h1
        rw [hLf] at h1; cases h1
      · exact hE.val t v h2
end
end
end Go.Proofs.Ytmfemophafncnaa.Ex

/-
  The runner: code and calls: what it finds is what the model does, whatever the tape holds. No condition.
-/
namespace Go.Proofs.Ytmfemophafncnaa.Ex
open Go
noncomputable section
variable [Nums]
section
variable {P : Program} {call : FuncId → List AV → AH → Option (AV × AH)} {nt : Nat} {ρ : Ren} {w : World}
theorem ER.put {ρ' : Ren} {env env' : T AV} {a : Act} {dst : Option Tmp} {v : AV} {x : Value} (hE : ER ρ env nt a) (hm : ∀ n p, ρ n = some p → ρ' n = some p) (hp : putA nt env dst v = some env') (hx : VR ρ' v x) : ER ρ' env' nt (a.put dst x) := by
  obtain ⟨hd, hv⟩ := putA_spec hp
  refine ⟨by rw [put_defers]; exact hE.dz, by rw [put_size]; exact hE.size, fun t u hu => ?_⟩
  rcases hv t u hu with ⟨rfl, rfl⟩ | ⟨h1, h2⟩
  · refine ⟨x, ?_, hx⟩
    have := hd t rfl
    simp [Act.put, hE.size, this]
  · obtain ⟨y, hy, hr⟩ := hE.val t u h2
    refine ⟨y, ?_, hr.mono hm⟩
    cases dst with
    | none => exact hy
    | some d =>
      have : d ≠ t := fun he => h1 (by rw [he])
      simp [Act.put, Array.getElem?_setIfInBounds, this, hy]
theorem ER.mono {ρ' : Ren} {env : T AV} {a : Act} (hE : ER ρ env nt a) (hm : ∀ n p, ρ n = some p → ρ' n = some p) : ER ρ' env nt a :=
  ⟨hE.dz, hE.size, fun t v hv => by
    obtain ⟨x, hx, hr⟩ := hE.val t v hv
    exact ⟨x, hx, hr.mono hm⟩⟩
theorem undR : VR ρ und undef := by unfold und VR; exact ⟨#[], rfl, VRs.nil⟩
/-- A REGION IN THE ORDER OF THE TEXT -/
theorem regL_wp (hc : CallS P call) {ops : Array Oper} {Q : Exit → Act → World → Prop} : ∀ (l : List Oper) (env : T AV) (h : AH) (env' : T AV) (h' : AH) (ρ : Ren) (w : World) (a : Act), regL P call nt ops l env h = some (env', h') →
    ER ρ env nt a → HR ρ h.get h.next w → (∀ ρ' w' a', Stp ρ h.get h.next w ρ' h'.get h'.next w' → ER ρ' env' nt a' → Q .normal a' w') → wpList P ops Q l a w
  | [], env, h, env', h', ρ, w, a, hr, hE, hH, hQ => by
    simp only [regL, Option.some.injEq, Prod.mk.injEq] at hr
    obtain ⟨rfl, rfl⟩ := hr
    exact hQ ρ w a (Stp.refl hH) hE
  | o :: l, env, h, env', h', ρ, w, a, hr, hE, hH, hQ => by
    unfold regL at hr
    split at hr <;> first | (cases hr; done) | skip
    · rename_i hg
      have hw := guard_rel (ρ := ρ) (a := a) (fun t v _ hv => hE.val t v hv) hg
      split at hr <;> first | (cases hr; done) | skip
      rename_i env1 hp
      unfold wpList
      rw [hw]
      simp only [Bool.false_eq_true, if_false]
      exact regL_wp hc l env1 h env' h' ρ w _ hr (ER.put hE (fun _ _ h => h) hp undR) hH hQ
    · rename_i hg
      have hw := guard_rel (ρ := ρ) (a := a) (fun t v _ hv => hE.val t v hv) hg
      split at hr <;> first | (cases hr; done) | skip
      rename_i vs hvs
      split at hr <;> first | (cases hr; done) | skip
      rename_i v h1 hop
      split at hr <;> first | (cases hr; done) | skip
      rename_i env1 hp
      unfold wpList
      rw [hw]
      simp only [if_true]
      left
      refine op_wp hc hop hH (evs_rel (fun t v _ hv => hE.val t v hv) hvs) fun ρ' x w' hst hx => ?_
      exact regL_wp hc l env1 h1 env' h' ρ' w' _ hr (ER.put hE (Stp.mono hH hst) hp hx) hst.hr fun ρ2 w2 a2 h2 h3 => hQ ρ2 w2 a2 (hst.trans h2) h3
def exitOf : AX → Exit
  | .normal => .normal
  | .exit id => .exit id
  | .ret => .ret
def PostX (nt : Nat) (ρ : Ren) (h : AH) (w : World) (x : AX) (env' : T AV) (h' : AH) (e : Exit) (a' : Act) (w' : World) : Prop :=
  e = exitOf x ∧ ∃ ρ', Stp ρ h.get h.next w ρ' h'.get h'.next w' ∧ ER ρ' env' nt a'
omit [Nums] in
theorem rounds_mono {c : Code} {Q Q' : Exit → Act → World → Prop} (hq : ∀ e a w, Q e a w → Q' e a w) : ∀ (n : Nat) (a : Act) (w : World), Code.rounds P c Q n a w → Code.rounds P c Q' n a w
  | 0, _, _, h => h
  | n + 1, a, w, h => by
    rw [rounds_succ] at h ⊢
    refine wp_mono h fun e a1 w1 h1 => ?_
    cases e with
    | normal => exact rounds_mono hq n a1 w1 h1
    | _ => exact hq _ _ _ h1
theorem iter_wp {c : Code} {body : T AV → AH → Option (AX × T AV × AH)} (hb : ∀ env h x env' h', body env h = some (x, env', h') → ∀ (ρ : Ren) w a, ER ρ env nt a → HR ρ h.get h.next w → c.wp P (PostX nt ρ h w x env' h') a w) :
    ∀ (n : Nat) env h x env' h', iter body n env h = some (x, env', h') → ∀ (ρ : Ren) w a, ER ρ env nt a → HR ρ h.get h.next w → Code.rounds P c (PostX nt ρ h w x env' h') n a w
  | 0, _, _, _, _, _, h, _, _, _, _, _ => by simp [iter] at h
  | n + 1, env, h, x, env', h', hi, ρ, w, a, hE, hH => by
    rw [rounds_succ]
    unfold iter at hi
    split at hi
    · rename_i env1 h1 hbody
      refine wp_mono (hb _ _ _ _ _ hbody ρ w a hE hH) ?_
      rintro e a1 w1 ⟨rfl, ρ1, hst, hE1⟩
      refine rounds_mono (fun e a' w' hq => ?_) _ _ _ (iter_wp hb n _ _ _ _ _ hi ρ1 w1 a1 hE1 hst.hr)
      obtain ⟨h1, ρ2, h2, h3⟩ := hq
      exact ⟨h1, ρ2, hst.trans h2, h3⟩
    · rename_i hno
      refine wp_mono (hb _ _ _ _ _ hi ρ w a hE hH) ?_
      rintro e a1 w1 ⟨rfl, hq⟩
      cases x with
      | normal => exact absurd hi (hno _ _)
      | exit id => exact ⟨rfl, hq⟩
      | ret => exact ⟨rfl, hq⟩
omit [Nums] in
theorem then_of {x : AX} {K : Act → World → Prop} {Q : Exit → Act → World → Prop} {a : Act} {w : World} (hn : x = .normal → K a w) (ho : x ≠ .normal → Q (exitOf x) a w) : Exit.then K Q (exitOf x) a w := by
  cases x with
  | normal => exact hn rfl
  | exit id => exact ho (by intro h; cases h)
  | ret => exact ho (by intro h; cases h)
theorem exec_wp (hm : P.follows .mixedOrders = true) (hc : CallS P call) : ∀ (c : Code) env h x env' h', exec P call nt c env h = some (x, env', h') → ∀ (ρ : Ren) w a, ER ρ env nt a → HR ρ h.get h.next w → c.wp P (PostX nt ρ h w x env' h') a w
  | .skip, env, h, x, env', h', he, ρ, w, a, hE, hH => by
    simp only [exec, Option.some.injEq, Prod.mk.injEq] at he
    obtain ⟨rfl, rfl, rfl⟩ := he
    exact wp_skip ⟨rfl, ρ, Stp.refl hH, hE⟩
  | .label l, env, h, x, env', h', he, ρ, w, a, hE, hH => by
    simp only [exec, Option.some.injEq, Prod.mk.injEq] at he
    obtain ⟨rfl, rfl, rfl⟩ := he
    exact wp_label ⟨rfl, ρ, Stp.refl hH, hE⟩
  | .region id ops false, env, h, x, env', h', he, ρ, w, a, hE, hH => by
    unfold exec at he
    split at he <;> first | (cases he; done) | skip
    rename_i env1 h1 hr
    simp only [Option.some.injEq, Prod.mk.injEq] at he
    obtain ⟨rfl, rfl, rfl⟩ := he
    exact wp_region_list (regL_wp hc _ _ _ _ _ ρ w a hr hE hH fun ρ' w' a' hst hE' => ⟨rfl, ρ', hst, hE'⟩)
  | .region id ops true, env, h, x, env', h', he, ρ, w, a, hE, hH => by
    unfold exec at he
    split at he <;> first | (cases he; done) | skip
    rename_i env1 h1 hr
    simp only [Option.some.injEq, Prod.mk.injEq] at he
    obtain ⟨rfl, rfl, rfl⟩ := he
    exact wp_region_any hm (regDr_wp hc hr hE (hH.drew _) fun ρ' w' a' hst hE' => ⟨rfl, ρ', hst.drew, hE'⟩)
  | .seq c d, env, h, x, env', h', he, ρ, w, a, hE, hH => by
    unfold exec at he
    split at he
    · rename_i env1 h1 hx
      refine wp_seq (wp_mono (exec_wp hm hc c _ _ _ _ _ hx ρ w a hE hH) ?_)
      rintro e a1 w1 ⟨rfl, ρ1, hst, hE1⟩
      refine wp_mono (exec_wp hm hc d _ _ _ _ _ he ρ1 w1 a1 hE1 hst.hr) ?_
      rintro e a2 w2 ⟨rfl, ρ2, hst2, hE2⟩
      exact ⟨rfl, ρ2, hst.trans hst2, hE2⟩
    · rename_i hno
      refine wp_seq (wp_mono (exec_wp hm hc c _ _ _ _ _ he ρ w a hE hH) ?_)
      rintro e a1 w1 ⟨rfl, hq⟩
      exact then_of (fun hx => by subst hx; exact absurd he (hno _ _)) (fun _ => ⟨rfl, hq⟩)
  | .cond c d e, env, h, x, env', h', he, ρ, w, a, hE, hH => by
    unfold exec at he
    have hev : ∀ b, ev env c = some (.bool b) → a.eval c = .bool b := by
      intro b hb
      have := evs_rel (ρ := ρ) (a := a) (l := [c]) (vs := [.bool b]) (fun t v _ hv => hE.val t v hv) (by simp [evs, hb])
      obtain ⟨y, hy, hr⟩ := this.one
      simp at hy
      unfold VR at hr
      rw [hy, hr]
    have hevs : ∀ q p, ev env c = some (.bsym q p) → a.eval c = .bool (q.ev Nums.σ == p) := by
      intro q p hb
      have := evs_rel (ρ := ρ) (a := a) (l := [c]) (vs := [.bsym q p]) (fun t v _ hv => hE.val t v hv) (by simp [evs, hb])
      obtain ⟨y, hy, hr⟩ := this.one
      simp at hy
      unfold VR at hr
      rw [hy, hr]
    split at he
    · rename_i hb
      exact wp_cond_true (hev _ hb) (exec_wp hm hc d _ _ _ _ _ he ρ w a hE hH)
    · rename_i hb
      exact wp_cond_false (hev _ hb) (exec_wp hm hc e _ _ _ _ _ he ρ w a hE hH)
    · rename_i q p hb
      split at he <;> first | (cases he; done) | skip
      rename_i r hr
      have hb := hevs _ _ hb
      rw [askC_ok hr] at hb
      split at he
      · rename_i hrp
        rw [hrp] at hb
        exact wp_cond_true hb (exec_wp hm hc d _ _ _ _ _ he ρ w a hE hH)
      · rename_i hrp
        rw [hrp] at hb
        exact wp_cond_false hb (exec_wp hm hc e _ _ _ _ _ he ρ w a hE hH)
    · cases he
  | .block id c, env, h, x, env', h', he, ρ, w, a, hE, hH => by
    unfold exec at he
    split at he
    · rename_i j env1 h1 hx
      refine wp_block (wp_mono (exec_wp hm hc c _ _ _ _ _ hx ρ w a hE hH) ?_)
      rintro e a1 w1 ⟨rfl, ρ1, hst, hE1⟩
      split at he
      · rename_i hj
        have hj := Nat.eq_of_beq_eq_true hj
        simp only [Option.some.injEq, Prod.mk.injEq] at he
        obtain ⟨rfl, rfl, rfl⟩ := he
        show (if j = id then _ else _)
        rw [if_pos hj]
        exact ⟨rfl, ρ1, hst, hE1⟩
      · rename_i hj
        simp only [Option.some.injEq, Prod.mk.injEq] at he
        obtain ⟨rfl, rfl, rfl⟩ := he
        show (if j = id then _ else _)
        rw [if_neg (fun hji => by subst hji; simp at hj)]
        exact ⟨rfl, ρ1, hst, hE1⟩
    · rename_i hno
      refine wp_block (wp_mono (exec_wp hm hc c _ _ _ _ _ he ρ w a hE hH) ?_)
      rintro e a1 w1 ⟨rfl, hq⟩
      cases x with
      | normal => exact ⟨rfl, hq⟩
      | exit j => exact absurd he (hno _ _ _)
      | ret => exact ⟨rfl, hq⟩
  | .loop c, env, h, x, env', h', he, ρ, w, a, hE, hH => by
    unfold exec at he
    exact wp_loop_rounds 100000 (iter_wp (exec_wp hm hc c) 100000 _ _ _ _ _ he ρ w a hE hH)
  | .scope c, env, h, x, env', h', he, ρ, w, a, hE, hH => by
    unfold exec at he
    refine wp_scope_straight (wp_mono (exec_wp hm hc c _ _ _ _ _ he ρ w a hE hH) ?_)
    rintro e a1 w1 ⟨rfl, hq⟩
    cases x <;> exact ⟨rfl, hq⟩
  | .exit id, env, h, x, env', h', he, ρ, w, a, hE, hH => by
    simp only [exec, Option.some.injEq, Prod.mk.injEq] at he
    obtain ⟨rfl, rfl, rfl⟩ := he
    exact wp_exit ⟨rfl, ρ, Stp.refl hH, hE⟩
  | .ret, env, h, x, env', h', he, ρ, w, a, hE, hH => by
    simp only [exec, Option.some.injEq, Prod.mk.injEq] at he
    obtain ⟨rfl, rfl, rfl⟩ := he
    exact wp_ret ⟨rfl, ρ, Stp.refl hH, hE⟩
  | .goto _, _, _, _, _, _, he, _, _, _, _, _ => by simp [exec] at he
  | .rangeFunc _ _ _ _, _, _, _, _, _, he, _, _, _, _, _ => by simp [exec] at he
  | .refuse _, _, _, _, _, _, he, _, _, _, _, _ => by simp [exec] at he
/-! results -/
theorem ress_sound {h : AH} {env : T AV} {a : Act} {nx : Nat} {F : ResultVar → Sem Value} (hFt : ∀ t, F (.tmp t) = pure (a.tmps.getD t undef)) (hFc : ∀ c t, F (.cell c t) = (asAddr (a.tmps.getD c undef) >>= fun x => loadVar t x))
    (hH : HR ρ h.get nx w) (hE : ER ρ env nt a) : ∀ {l : List ResultVar} {vs : List AV}, ress P h env l = some vs →
    ∃ xs : List Value, VRs ρ vs xs ∧ (l.mapM F : Sem (List Value)).run P w = .ok xs w
  | [], vs, hr => by
    simp only [ress, Option.some.injEq] at hr
    subst hr
    exact ⟨[], VRs.nil, rfl⟩
  | .tmp t :: l, vs, hr => by
    unfold ress at hr
    split at hr <;> first | (cases hr; done) | skip
    rename_i v hv
    split at hr <;> first | (cases hr; done) | skip
    rename_i us hus
    simp only [Option.some.injEq] at hr
    subst hr
    obtain ⟨x, hx, hxr⟩ := hE.val t v hv
    obtain ⟨xs, h1, h2⟩ := ress_sound hFt hFc hH hE hus
    refine ⟨x :: xs, VRs.cons hxr h1, ?_⟩
    have : a.tmps.getD t undef = x := by simp [hx]
    simp only [List.mapM_cons, Sem.run_bind, Sem.run_pure, Result.andThen_ok, hFt, this, h2]
  | .cell c t :: l, vs, hr => by
    unfold ress at hr
    split at hr <;> first | (cases hr; done) | skip
    rename_i p hp
    split at hr <;> first | (cases hr; done) | skip
    rename_i v hv
    split at hr <;> first | (cases hr; done) | skip
    rename_i us hus
    simp only [Option.some.injEq] at hr
    subst hr
    obtain ⟨y, hy, hyr⟩ := hE.val c p hp
    obtain ⟨xs, h1, h2⟩ := ress_sound hFt hFc hH hE hus
    have hyv : a.tmps.getD c undef = y := by simp [hy]
    have hop : VRs ρ [p] (((Op.load t (.tmp c)).operands.toList).map a.eval) := by
      have : a.eval (.tmp c) = y := by simp [Act.eval, hy]
      simp only [Op.operands, List.map_cons, List.map_nil, this]
      exact VRs.cons hyr VRs.nil
    obtain ⟨x, hx, hrun⟩ := read_sound (o := { (default : Oper) with op := .load t (.tmp c) }) hH hv hop
    obtain ⟨ad, rfl⟩ : ∃ ad, y = .pointer (some ad) := by
      simp only [aread] at hv
      split at hv <;> first | (cases hv; done) | skip
      all_goals (rename_i hh; simp only [List.cons.injEq, and_true] at hh; subst hh)
      · obtain ⟨b, s, _, rfl⟩ := hyr.ptr_inv
        exact ⟨_, rfl⟩
      · unfold VR at hyr
        obtain ⟨_, _, _, rfl⟩ := hyr
        exact ⟨_, rfl⟩
      · unfold VR at hyr
        obtain ⟨_, _, _, _, rfl, _⟩ := hyr
        exact ⟨_, rfl⟩
      · unfold VR at hyr
        exact ⟨_, hyr⟩
    have hload : (loadVar t ad).run P w = .ok x w := by
      have he : a.eval (.tmp c) = .pointer (some ad) := by simp [Act.eval, hy]
      simp only [execOp, he, Instr.loadAt, Instr.sureAddr, Sem.run_bind, Sem.run_pure, Result.andThen_ok] at hrun
      cases hl : (loadVar t ad).run P w with
      | ok x' w' =>
        rw [hl] at hrun
        simp only [Result.andThen_ok, Result.ok.injEq, Next.value.injEq] at hrun
        rw [hrun.1, hrun.2]
      | halt e w' =>
        rw [hl] at hrun
        simp at hrun
    refine ⟨x :: xs, VRs.cons hx h1, ?_⟩
    have hs : (F (.cell c t)).run P w = .ok x w := by
      rw [hFc, hyv, Sem.run_bind]
      exact hload
    simp only [List.mapM_cons, Sem.run_bind, Sem.run_pure, Result.andThen_ok, hs, h2]
theorem results_sound {h : AH} {env : T AV} {a : Act} {nx : Nat} {fn : Func} {vs : List AV} (hH : HR ρ h.get nx w) (hE : ER ρ env nt a) (hr : ress P h env fn.results.toList = some vs) :
    ∃ x, VR ρ (resOf vs) x ∧ (results fn a.tmps).run P w = .ok x w := by
  unfold results
  generalize hF : (fun x : ResultVar => (_ : Sem Value)) = F
  obtain ⟨xs, h1, h2⟩ := ress_sound (F := F) (fun t => by rw [← hF]) (fun c t => by rw [← hF]) hH hE hr
  have hl := h1.len
  have harr : fn.results = fn.results.toList.toArray := by simp
  rw [harr, List.mapM_toArray]
  simp only [Sem.run_bind, Sem.run_map]
  refine ⟨if hh : xs.toArray.size = 1 then xs.toArray[0] else .tuple xs.toArray, ?_, ?_⟩
  · cases vs with
    | nil =>
      simp only [List.length_nil] at hl
      rw [dif_neg (by simp; omega)]
      unfold resOf VR
      exact ⟨_, rfl, by simpa using h1⟩
    | cons v vs =>
      cases vs with
      | nil =>
        obtain ⟨y, rfl, hy⟩ := h1.one
        exact hy
      | cons v' vs =>
        simp only [List.length_cons] at hl
        rw [dif_neg (by simp; omega)]
        unfold resOf VR
        exact ⟨_, rfl, by simpa using h1⟩
  · rw [h2]
    rfl
omit [Nums] in
theorem envOf_get : ∀ {l : List AV} {k : Nat} {t0 : T AV} {t : Nat} {v : AV}, (envOf k l t0).get t = some v → (k ≤ t ∧ l[t - k]? = some v) ∨ t0.get t = some v
  | [], k, t0, t, v, h => .inr h
  | x :: l, k, t0, t, v, h => by
    unfold envOf at h
    rcases envOf_get h with ⟨h1, h2⟩ | h1
    · have h1 : k + 1 ≤ t := h1
      have h2 : l[t - (k + 1)]? = some v := h2
      refine .inl ⟨by omega, ?_⟩
      rw [show t - k = (t - (k + 1)) + 1 from by omega, List.getElem?_cons_succ]
      exact h2
    · rcases T.get_put h1 with ⟨h2, h3⟩ | ⟨_, h3⟩
      · subst h2
        exact .inl ⟨Nat.le_refl _, by rw [Nat.sub_self]; simpa using h3⟩
      · exact .inr h3
/-- memory known before is known behind what left it alone -/
theorem Stp.left {g : Nat → Option AO} {nx : Nat} {w' : World} (h : HR ρ g nx w) (hb : RowKit.Below w.heap.size w w') : Stp ρ g nx w ρ g nx w' := by
  have hT := h.tables (w' := w') (g' := g) (ρ' := ρ) (fun c hc _ => hb.block c hc) (fun m c s1 hm hq => .inr ⟨m, s1, hm, hq⟩)
  refine ⟨⟨h.fresh, fun n o hn => ?_, h.inj, hT.1, hT.2.1, hT.2.2.1, hT.2.2.2⟩, fun _ _ => rfl, Nat.le_refl _, hb.os, hb.tape, hb.output, hb.size, fun b hlt _ => hb.block b hlt, fun n b s hn hp => .inr ⟨n, s, hn, hp⟩, fun _ _ h => h⟩
  obtain ⟨b, s, hp, hO⟩ := h.obj n o hn
  refine ⟨b, s, hp, ?_⟩
  have hlt : b < w.heap.size := by
    rcases Nat.lt_or_ge b w.heap.size with h1 | h1
    · exact h1
    · rw [Array.getElem?_eq_none h1] at hO
      exact hO.notNone.elim
  rw [hb.block b hlt]
  exact hO
mutual
/-- what a value without memory is -/
def valOf (σ : Nat → Int) : AV → Value
  | .bool b => .bool b
  | .int k n => .int k n
  | .sym k e => .int k (e.ev σ)
  | .bsym c p => .bool (c.ev σ == p)
  | .str s => .string s
  | .nilp => .pointer none
  | .nilsl => .slice none 0 0
  | .nilmap => .map none
  | .nilfn => .nilFunc
  | .nilif => .nilIface
  | .agg l => .agg (valsOf σ l).toArray
  | .tup l => .tuple (valsOf σ l).toArray
  | _ => undef
def valsOf (σ : Nat → Int) : List AV → List Value
  | [] => []
  | v :: l => valOf σ v :: valsOf σ l
end
mutual
theorem VR.shut : ∀ {v : AV} {x : Value}, VR ρ v x → v.shut = true → x = valOf Nums.σ v
  | .bool _, _, h, _ => by unfold VR at h; exact h
  | .int _ _, _, h, _ => by unfold VR at h; exact h
  | .sym _ _, _, h, _ => by unfold VR at h; exact h
  | .bsym _ _, _, h, _ => by unfold VR at h; exact h
  | .eptr .., _, _, h => by cases h
  | .dsl .., _, _, h => by cases h
  | .rsl _, _, _, h => by cases h
  | .ssl .., _, _, h => by cases h
  | .rptr _ _, _, _, h => by cases h
  | .str _, _, h, _ => by unfold VR at h; exact h
  | .nilp, _, h, _ => by unfold VR at h; exact h
  | .ptr _ _, _, _, h => by cases h
  | .gptr _ _, _, _, h => by cases h
  | .nilsl, _, h, _ => by unfold VR at h; exact h
  | .sl .., _, _, h => by cases h
  | .esl _, _, _, h => by cases h
  | .zsl, _, _, h => by cases h
  | .osl _, _, _, h => by cases h
  | .nilmap, _, h, _ => by unfold VR at h; exact h
  | .map _, _, _, h => by cases h
  | .fn _ _ _, _, _, h => by cases h
  | .nilfn, _, h, _ => by unfold VR at h; exact h
  | .nilif, _, h, _ => by unfold VR at h; exact h
  | .ifc _ _, _, _, h => by cases h
  | .agg l, _, h, hs => by
    unfold VR at h
    obtain ⟨a, rfl, h⟩ := h
    have := VRs.shut h hs
    unfold valOf
    rw [← this]
  | .tup l, _, h, hs => by
    unfold VR at h
    obtain ⟨a, rfl, h⟩ := h
    have := VRs.shut h hs
    unfold valOf
    rw [← this]
theorem VRs.shut : ∀ {l : List AV} {m : List Value}, VRs ρ l m → AV.shuts l = true → m = valsOf Nums.σ l
  | [], _, h, _ => by unfold VRs at h; exact h
  | v :: l, _, h, hs => by
    obtain ⟨y, ys, rfl, h1, h2⟩ := h.uncons
    unfold AV.shuts at hs
    split at hs
    · rename_i hv
      unfold valsOf
      rw [VR.shut h1 hv, VRs.shut h2 hs]
    · cases hs
end
mutual
theorem VR.ofShut : ∀ {v : AV}, v.shut = true → VR ρ v (valOf Nums.σ v)
  | .bool _, _ => by unfold VR valOf; rfl
  | .int _ _, _ => by unfold VR valOf; rfl
  | .sym _ _, _ => by unfold VR valOf; rfl
  | .bsym _ _, _ => by unfold VR valOf; rfl
  | .eptr .., h => by cases h
  | .dsl .., h => by cases h
  | .rsl _, h => by cases h
  | .ssl .., h => by cases h
  | .rptr _ _, h => by cases h
  | .str _, _ => by unfold VR valOf; rfl
  | .nilp, _ => by unfold VR valOf; rfl
  | .ptr _ _, h => by cases h
  | .gptr _ _, h => by cases h
  | .nilsl, _ => by unfold VR valOf; rfl
  | .sl .., h => by cases h
  | .esl _, h => by cases h
  | .zsl, h => by cases h
  | .osl _, h => by cases h
  | .nilmap, _ => by unfold VR valOf; rfl
  | .map _, h => by cases h
  | .fn _ _ _, h => by cases h
  | .nilfn, _ => by unfold VR valOf; rfl
  | .nilif, _ => by unfold VR valOf; rfl
  | .ifc _ _, h => by cases h
  | .agg l, h => by unfold VR valOf; exact ⟨_, rfl, VRs.ofShut h⟩
  | .tup l, h => by unfold VR valOf; exact ⟨_, rfl, VRs.ofShut h⟩
theorem VRs.ofShut : ∀ {l : List AV}, AV.shuts l = true → VRs ρ l (valsOf Nums.σ l)
  | [], _ => by unfold valsOf; exact VRs.nil
  | v :: l, hs => by
    unfold AV.shuts at hs
    split at hs
    · rename_i hv
      unfold valsOf
      exact VRs.cons (VR.ofShut hv) (VRs.ofShut hs)
    · cases hs
end
/-- calls that are known -/
def OvOk (P : Program) (gs : List (Nat × List Int)) (σ : Nat → Int) (ov : Ov) : Prop := ∀ f xs v, (f, xs, v) ∈ ov →
  AV.shuts xs = true ∧ v.shut = true ∧ FnOk P f ∧ ∀ w, Tabs gs w → Calls P f (valsOf σ xs).toArray w fun e w' => e = .returned (valOf σ v) ∧ RowKit.Below w.heap.size w w'
omit [Nums] in
theorem ovAt_mem {f : FuncId} {args : List AV} {v : AV} : ∀ {ov : Ov}, ovAt f args ov = some v → (f, args, v) ∈ ov
  | [], h => by cases h
  | (g, xs, u) :: l, h => by
    unfold ovAt at h
    split at h
    · rename_i hg
      have hg := Nat.eq_of_beq_eq_true hg
      split at h
      · rename_i ha
        have ha := AV.beqs_eq ha
        simp only [Option.some.injEq] at h
        subst hg ha h
        exact List.mem_cons_self
      · exact List.mem_cons_of_mem _ (ovAt_mem h)
    · exact List.mem_cons_of_mem _ (ovAt_mem h)
theorem condsOk_mem : ∀ {l : List (Cnd × Bool)}, condsOk l = true → ∀ c ∈ l, c.1.ev Nums.σ = c.2
  | [], _, c, hc => by cases hc
  | (.lt a b, r) :: l, h, c, hc => by
    unfold condsOk at h
    split at h <;> first | (cases h; done) | skip
    rename_i q hq
    split at h <;> first | (cases h; done) | skip
    rename_i hqr
    rcases List.mem_cons.1 hc with rfl | hc
    · show decide _ = r
      rw [askLt_ok hq]
      simpa using hqr
    · exact condsOk_mem h c hc
  | (.eq a b, r) :: l, h, c, hc => by
    unfold condsOk at h
    split at h <;> first | (cases h; done) | skip
    rename_i q hq
    split at h <;> first | (cases h; done) | skip
    rename_i hqr
    rcases List.mem_cons.1 hc with rfl | hc
    · show (_ == _) = r
      rw [askEq_ok hq]
      simpa using hqr
    · exact condsOk_mem h c hc
/-- .. whatever must be known of numbers, and whatever becomes of blocks of which nothing is known -/
def KnOk (P : Program) (kn : List Kn) : Prop := ∀ k ∈ kn, (∀ c ∈ k.conds, c.1.ev Nums.σ = c.2) → FnOk P k.f ∧ ∀ (ρ : Ren) (h h' : AH) (w : World) (args' : Array Value), effDo h k.effs = some h' → HR ρ h.get h.next w → VRs ρ k.args args'.toList →
  Calls P k.f args' w fun e w' => ∃ x, e = .returned x ∧ VR ρ k.res x ∧ Stp ρ h.get h.next w ρ h'.get h'.next w'
theorem knAt_mem {f : FuncId} {args : List AV} {h h' : AH} {v : AV} : ∀ {kn : List Kn}, knAt f args h kn = some (v, h') → ∃ k ∈ kn, k.f = f ∧ args = k.args ∧ (∀ c ∈ k.conds, c.1.ev Nums.σ = c.2) ∧ effDo h k.effs = some h' ∧ k.res = v
  | [], hk => by cases hk
  | k :: l, hk => by
    have hrest : knAt f args h l = some (v, h') → ∃ k' ∈ k :: l, k'.f = f ∧ args = k'.args ∧ (∀ c ∈ k'.conds, c.1.ev Nums.σ = c.2) ∧ effDo h k'.effs = some h' ∧ k'.res = v := fun hl => by
      obtain ⟨k', h1, h2⟩ := knAt_mem hl
      exact ⟨k', List.mem_cons_of_mem _ h1, h2⟩
    unfold knAt at hk
    split at hk
    · exact hrest hk
    · rename_i hf
      split at hk
      · exact hrest hk
      · rename_i ha
        split at hk
        · exact hrest hk
        · rename_i hc
          split at hk
          · rename_i h1 he
            simp only [Option.some.injEq, Prod.mk.injEq] at hk
            obtain ⟨rfl, rfl⟩ := hk
            exact ⟨k, List.mem_cons_self, Nat.eq_of_beq_eq_true hf, AV.beqs_eq ha, condsOk_mem hc, he, rfl⟩
          · exact hrest hk
theorem kn_nil : KnOk P [] := fun k hk => by cases hk
theorem callN_sound (hm : P.follows .mixedOrders = true) {ov : Ov} (hov : OvOk P Fc.globs Nums.σ ov) {kn : List Kn} (hkn : KnOk P kn) : ∀ n, CallS P (callN P ov kn n)
  | 0 => fun f args h v h' he => by simp [callN] at he
  | n + 1 => fun f args h v h' he => by
    unfold callN at he
    split at he
    · rename_i u hf
      obtain ⟨ha, hu, h1, h2⟩ := hov _ _ _ (ovAt_mem hf)
      simp only [Option.some.injEq, Prod.mk.injEq] at he
      obtain ⟨rfl, rfl⟩ := he
      refine ⟨h1, fun ρ w args' hH hargs => ?_⟩
      have hargs := VRs.shut hargs ha
      have hargs : args' = (valsOf Nums.σ args).toArray := by rw [← hargs]
      subst hargs
      refine (h2 w hH.gl).mono ?_
      rintro e w' ⟨rfl, hb⟩
      exact ⟨ρ, _, rfl, VR.ofShut hu, Stp.left hH hb⟩
    split at he
    · rename_i r hk
      simp only [Option.some.injEq] at he
      subst he
      obtain ⟨k, hmem, rfl, rfl, hcs, heff, rfl⟩ := knAt_mem hk
      obtain ⟨h1, h2⟩ := hkn k hmem hcs
      exact ⟨h1, fun ρ w args' hH hargs => (h2 ρ _ _ w args' heff hH hargs).mono fun e w' ⟨x, hx, hv, hst⟩ => ⟨ρ, x, hx, hv, hst⟩⟩
    split at he <;> first | (cases he; done) | skip
    rename_i fn hf
    split at he <;> first | (cases he; done) | skip
    rename_i hname
    split at he <;> first | (cases he; done) | skip
    rename_i c hb
    split at he <;> first | (cases he; done) | skip
    rename_i hle
    rw [Bool.and_eq_true] at hle
    have hle := Nat.le_of_ble_eq_true hle.1
    refine ⟨⟨fn, c, hf, hname, hb⟩, fun ρ w args' hH hargs => ?_⟩
    have hal : args.length = args'.size := by simpa using hargs.len
    have hE : ER ρ (envOf 0 args .e) fn.ntmps { tmps := args' ++ Array.replicate (fn.ntmps - args'.size) undef, defers := [] } := by
      refine ⟨rfl, by simp; omega, fun t v hv => ?_⟩
      rcases envOf_get hv with ⟨_, h1⟩ | h1
      · rw [Nat.sub_zero] at h1
        obtain ⟨x, hx, hr⟩ := hargs.get h1
        refine ⟨x, ?_, hr⟩
        have hlt := (List.getElem?_eq_some_iff.1 hx).1
        rw [Array.getElem?_append_left (by simpa using hlt)]
        simpa using hx
      · rw [T.get_e] at h1; cases h1
    split at he <;> first | (cases he; done) | skip
    rename_i x env' h1 hno hx
    split at he <;> first | (cases he; done) | skip
    rename_i vs hvs
    simp only [Option.some.injEq, Prod.mk.injEq] at he
    obtain ⟨rfl, rfl⟩ := he
    refine calls_of_wp hf hb (wp_mono (exec_wp hm (callN_sound hm hov hkn n) c _ _ _ _ _ hx ρ w _ hE hH) ?_)
    rintro e a1 w1 ⟨rfl, ρ1, hst, hE1⟩
    obtain ⟨y, hy, hrun⟩ := results_sound (fn := fn) hst.hr hE1 hvs
    cases x with
    | exit id => exact absurd rfl (hno id)
    | normal => exact ⟨hE1.dz, y, hrun, ρ1, y, rfl, hy, hst⟩
    | ret => exact ⟨hE1.dz, y, hrun, ρ1, y, rfl, hy, hst⟩
omit [Nums] in
theorem AH.get_e {n k : Nat} : (AH.mk .e k).get n = none := T.getP_e _
theorem ros_nil {w : World} (h : Fc.rks = []) : Ros w := fun i k A len c hk => by rw [h] at hk; cases hk
/-- A CALL, BY THE RUNNER -/
theorem runs_calls (hm : P.follows .mixedOrders = true) {ov : Ov} (hov : OvOk P Fc.globs Nums.σ ov) {n : Nat} {f : FuncId} {args : List AV} {v : AV} (h : runs P ov n f args v = true) (ha : AV.shuts args = true) (hv : v.shut = true) (w : World) (hg : Tabs Fc.globs w) (hro : Ros w) :
    Calls P f (valsOf Nums.σ args).toArray w fun e w' => e = .returned (valOf Nums.σ v) ∧ RowKit.Below w.heap.size w w' := by
  unfold runs at h
  split at h <;> first | (cases h; done) | skip
  rename_i u h' hc
  have h := AV.beq_eq h
  subst h
  have hH : HR (fun _ => none) (AH.mk .e 0).get (AH.mk .e 0).next w := ⟨fun _ _ => rfl, (fun n o hn => by rw [AH.get_e] at hn; cases hn), (fun n m b s s' hn => by rw [AH.get_e] at hn; cases hn), hg, (fun b l _ n s hn => by rw [AH.get_e] at hn; cases hn), hro, (fun b _ n s hn => by rw [AH.get_e] at hn; cases hn)⟩
  refine ((callN_sound hm hov kn_nil n _ _ _ _ _ hc).2 (fun _ => none) w _ hH (VRs.ofShut ha)).mono ?_
  rintro e w' ⟨ρ', x, rfl, hx, hst⟩
  exact ⟨by rw [VR.shut hx hv], hst.os, hst.tape, hst.output, hst.size, fun b hb => hst.block b hb fun n s hn => by rw [AH.get_e] at hn; cases hn⟩
omit [Nums] in
theorem heap2_get {s n : Nat} {o : AO} (h : (heap2 s).get n = some o) : (n = 0 ∧ o = .opq (2 * s)) ∨ (n = 1 ∧ o = .opq (2 * s + 1)) := by
  unfold heap2 AH.get at h
  rcases T.get_put h with ⟨rfl, h⟩ | ⟨h1, h⟩
  · exact .inr ⟨rfl, by cases h; rfl⟩
  · rcases T.get_put h with ⟨rfl, h⟩ | ⟨h2, h⟩
    · exact .inl ⟨rfl, by cases h; rfl⟩
    · rw [T.get_e] at h; cases h
/-- what two blocks of which nothing is known are behind a call, and all others -/
structure Two (w w' : World) (b0 b1 : Nat) (o0 o1 : Obj) : Prop where
  os : w'.os = w.os
  tape : w'.tape = w.tape
  output : w'.output = w.output
  size : w.heap.size ≤ w'.heap.size
  block : ∀ b, b < w.heap.size → b ≠ b0 → b ≠ b1 → w'.heap[b]? = w.heap[b]?
  at0 : w'.heap[b0]? = some o0
  at1 : w'.heap[b1]? = some o1
def ren2 (b0 b1 : Nat) : Ren := fun n => match n with
  | 0 => some (b0, 0)
  | 1 => some (b1, 0)
  | _ => none
omit [Nums] in
theorem isOpq_get {h : AH} {n i : Nat} (hq : isOpq h n i = true) : h.get n = some (.opq i) := by
  unfold isOpq at hq
  split at hq
  · rename_i j hj
    rw [hj, Nat.eq_of_beq_eq_true hq]
  · cases hq
/-- A CALL AMID TWO BLOCKS OF WHICH NOTHING IS KNOWN, BY THE RUNNER -/
theorem runs2_calls (hm : P.follows .mixedOrders = true) {ov : Ov} (hov : OvOk P Fc.globs Nums.σ ov) {kn : List Kn} (hkn : KnOk P kn) {n : Nat} {f : FuncId} {xs : List AV} {s0 s : Nat} {v : AV} (h : runs2 P ov kn n f (.ptr 0 0 :: xs) s0 v s = true) (ha : AV.shuts xs = true) (hv : v.shut = true)
    (w : World) (hg : Tabs Fc.globs w) (hro : Fc.rks = []) {b0 b1 : Nat} (hb : b0 ≠ b1) (h0 : w.heap[b0]? = some (Nums.ω (2 * s0) b0 b1)) (h1 : w.heap[b1]? = some (Nums.ω (2 * s0 + 1) b0 b1)) (hgn : ∀ b l, findG b Fc.globs = some l → b ≠ b0 ∧ b ≠ b1) :
    Calls P f (.pointer (some ⟨b0, 0, none⟩) :: valsOf Nums.σ xs).toArray w fun e w' => e = .returned (valOf Nums.σ v) ∧ Two w w' b0 b1 (Nums.ω (2 * s) b0 b1) (Nums.ω (2 * s + 1) b0 b1) := by
  unfold runs2 at h
  split at h <;> first | (cases h; done) | skip
  rename_i u h' hc
  rw [Bool.and_eq_true, Bool.and_eq_true] at h
  obtain ⟨hu, q0, q1⟩ := h
  have hu := AV.beq_eq hu
  subst hu
  have q0 := isOpq_get q0
  have q1 := isOpq_get q1
  have hH : HR (ren2 b0 b1) (heap2 s0).get (heap2 s0).next w := by
    refine ⟨fun n hn => ?_, fun n o ho => ?_, fun n m b s s' hn hm hp hq => ?_, hg, fun b l hf n s hn hp => ?_, (fun i k A len c hk => by rw [hro] at hk; cases hk), fun b ⟨i, k, a, len, c, hk, _⟩ => by rw [hro] at hk; cases hk⟩
    · have : 2 ≤ n := hn
      match n, this with
      | n + 2, _ => rfl
    · rcases heap2_get ho with ⟨rfl, rfl⟩ | ⟨rfl, rfl⟩
      · exact ⟨b0, 0, rfl, b0, 0, b1, 0, rfl, rfl, h0⟩
      · exact ⟨b1, 0, rfl, b0, 0, b1, 0, rfl, rfl, h1⟩
    · obtain ⟨o1, ho1⟩ := Option.isSome_iff_exists.1 hn
      obtain ⟨o2, ho2⟩ := Option.isSome_iff_exists.1 hm
      rcases heap2_get ho1 with ⟨rfl, _⟩ | ⟨rfl, _⟩ <;> rcases heap2_get ho2 with ⟨rfl, _⟩ | ⟨rfl, _⟩
      · rfl
      · simp only [ren2, Option.some.injEq, Prod.mk.injEq] at hp hq
        exact absurd (hp.1.trans hq.1.symm) hb
      · simp only [ren2, Option.some.injEq, Prod.mk.injEq] at hp hq
        exact absurd (hq.1.trans hp.1.symm) hb
      · rfl
    · obtain ⟨o1, ho1⟩ := Option.isSome_iff_exists.1 hn
      have := hgn b l hf
      rcases heap2_get ho1 with ⟨rfl, _⟩ | ⟨rfl, _⟩
      · simp only [ren2, Option.some.injEq, Prod.mk.injEq] at hp
        exact this.1 hp.1.symm
      · simp only [ren2, Option.some.injEq, Prod.mk.injEq] at hp
        exact this.2 hp.1.symm
  refine ((callN_sound hm hov hkn n _ _ _ _ _ hc).2 (ren2 b0 b1) w (.pointer (some ⟨b0, 0, none⟩) :: valsOf Nums.σ xs).toArray hH (VRs.cons (by unfold VR; exact ⟨b0, 0, rfl, rfl⟩) (VRs.ofShut ha))).mono ?_
  rintro e w' ⟨ρ', x, rfl, hx, hst⟩
  have e0 : ρ' 0 = some (b0, 0) := (hst.ext 0 (show 0 < 2 by omega)).trans rfl
  have e1 : ρ' 1 = some (b1, 0) := (hst.ext 1 (show 1 < 2 by omega)).trans rfl
  obtain ⟨c0, t0, p0, r0⟩ := hst.hr.obj 0 _ q0
  obtain ⟨c1, t1, p1, r1⟩ := hst.hr.obj 1 _ q1
  rw [e0] at p0
  rw [e1] at p1
  cases p0
  cases p1
  obtain ⟨_, _, _, _, k0, k1, r0⟩ := r0
  rw [e0] at k0
  rw [e1] at k1
  cases k0
  cases k1
  obtain ⟨_, _, _, _, k0, k1, r1⟩ := r1
  rw [e0] at k0
  rw [e1] at k1
  cases k0
  cases k1
  refine ⟨by rw [VR.shut hx hv], hst.os, hst.tape, hst.output, hst.size, fun b hb' n0 n1 => hst.block b hb' fun n s hn hp => ?_, r0, r1⟩
  obtain ⟨o1, ho1⟩ := Option.isSome_iff_exists.1 hn
  rcases heap2_get ho1 with ⟨rfl, _⟩ | ⟨rfl, _⟩
  · simp only [ren2, Option.some.injEq, Prod.mk.injEq] at hp
    exact n0 hp.1.symm
  · simp only [ren2, Option.some.injEq, Prod.mk.injEq] at hp
    exact n1 hp.1.symm
end
end
end Go.Proofs.Ytmfemophafncnaa.Ex

/-
  The runner: numbers and names in place of others; values of a form. Soundness. No condition.
-/
namespace Go.Proofs.Ytmfemophafncnaa.Ex
open Go
/-- two readings of numbers agree -/
structure Agree (θ : Sub) (B : Bd) (N1 N2 : Nums) : Prop where
  v : ∀ i, i < B.k → N2.σ i = (θ.vAt i).ev N1.σ
  ln : ∀ i, i < B.kl → (N2.σ (ln i)).toNat = (θ.lAt i).evN N1.σ
  la : ∀ i, i < B.kl → ∀ e j, j < 64 → N2.σ (lc i e j) = (θ.lAt i).evA N1.σ e j
  o : ∀ i, i < B.ko → ∀ b0 b1 x, N1.Ω (θ.oAt i) b0 b1 x → N2.Ω i b0 b1 x
  ro : N2.ro = N1.ro
  rks : N2.toFc.rks = N1.toFc.rks
  globs : N2.toFc.globs = N1.toFc.globs
  rol : ∀ i p, N1.ro i = some p → (N2.σ (Ex.ln i)).toNat = (N1.σ (Ex.ln i)).toNat ∧ ∀ e, N2.σ (lc i e 0) = N1.σ (lc i e 0)
section
variable {θ : Sub} {B : Bd} {N1 N2 : Nums} (ag : Agree θ B N1 N2)
include ag
theorem SE.sub_all : ∀ e : SE, (SE.bd B e = true → (e.sub θ).ev N1.σ = e.ev N2.σ) ∧ (SE.bdL B e = true → (e.sub θ).evN N1.σ = e.evN N2.σ ∧ ∀ x j, j < 64 → (e.sub θ).evA N1.σ x j = e.evA N2.σ x j) ∧ (SE.bdR B e = true → ∀ x j, j < 64 → (e.sub θ).evA N1.σ x j = e.evA N2.σ x j) := by
  intro e
  induction e with
  | var i =>
    refine ⟨fun h => ?_, fun h => by simp [SE.bdL] at h, fun h => by simp [SE.bdR] at h⟩
    simp only [SE.bd] at h
    simp only [SE.sub, SE.ev]
    exact (ag.v i (by simpa using h)).symm
  | lit n => exact ⟨fun _ => rfl, fun h => by simp [SE.bdL] at h, fun h => by simp [SE.bdR] at h⟩
  | bin o a b ha hb =>
    refine ⟨fun h => ?_, fun h => by simp [SE.bdL] at h, fun h => by simp [SE.bdR] at h⟩
    simp only [SE.bd, Bool.and_eq_true] at h
    have h1 := ha.1 h.1
    have h2 := hb.1 h.2
    cases o <;> simp only [SE.sub, SE.ev, h1, h2]
  | ubin o a b ha hb =>
    refine ⟨fun h => ?_, fun h => by simp [SE.bdL] at h, fun h => by simp [SE.bdR] at h⟩
    simp only [SE.bd, Bool.and_eq_true] at h
    have h1 := ha.1 h.1
    have h2 := hb.1 h.2
    cases o <;> simp only [SE.sub, SE.ev, h1, h2]
  | cv k a ha =>
    refine ⟨fun h => ?_, fun h => by simp [SE.bdL] at h, fun h => by simp [SE.bdR] at h⟩
    simp only [SE.bd] at h
    simp only [SE.sub, SE.ev, ha.1 h]
  | lvar i =>
    refine ⟨fun h => by simp [SE.bd] at h, fun h => ?_, fun h => by simp [SE.bdR] at h⟩
    simp only [SE.bdL] at h
    have hi : i < B.kl := by simpa using h
    simp only [SE.sub, SE.evN, SE.evA]
    exact ⟨(ag.ln i hi).symm, fun x j hj => (ag.la i hi x j hj).symm⟩
  | lset l e k v hl he hv =>
    refine ⟨fun h => by simp [SE.bd] at h, fun h => ?_, fun h => by simp [SE.bdR] at h⟩
    simp only [SE.bdL, Bool.and_eq_true] at h
    obtain ⟨⟨h1, h2⟩, h3, h4⟩ := h
    have l1 := hl.2.1 h1
    have e1 := he.1 h2
    have v1 := hv.1 h4
    simp only [SE.sub, SE.evN, SE.evA, l1.1, e1, v1]
    exact ⟨trivial, fun x j hj => by rw [l1.2 x j hj]⟩
  | lsnoc l r hl hr =>
    refine ⟨fun h => by simp [SE.bd] at h, fun h => ?_, fun h => by simp [SE.bdR] at h⟩
    simp only [SE.bdL, Bool.and_eq_true] at h
    have l1 := hl.2.1 h.1
    have r1 := hr.2.2 h.2
    simp only [SE.sub, SE.evN, SE.evA, l1.1]
    exact ⟨trivial, fun x j hj => by rw [l1.2 x j hj, r1 0 j hj]⟩
  | rnil => exact ⟨fun h => by simp [SE.bd] at h, fun _ => ⟨rfl, fun _ _ _ => rfl⟩, fun _ _ _ _ => rfl⟩
  | rep n hn =>
    refine ⟨fun h => by simp [SE.bd] at h, fun h => ?_, fun h => by simp [SE.bdR] at h⟩
    simp only [SE.bdL] at h
    simp only [SE.sub, SE.evN, SE.evA, hn.1 h]
    exact ⟨trivial, fun _ _ _ => trivial⟩
  | rcons v r hv hr =>
    refine ⟨fun h => by simp [SE.bd] at h, fun h => by simp [SE.bdL] at h, fun h => ?_⟩
    simp only [SE.bdR, Bool.and_eq_true] at h
    have v1 := hv.1 h.1
    have r1 := hr.2.2 h.2
    intro x j hj
    simp only [SE.sub, SE.evA]
    cases j with
    | zero => exact v1
    | succ j => exact r1 0 j (by omega)
  | «at» l e j hl he =>
    refine ⟨fun h => ?_, fun h => by simp [SE.bdL] at h, fun h => by simp [SE.bdR] at h⟩
    simp only [SE.bd, Bool.and_eq_true] at h
    obtain ⟨h1, h2, h3⟩ := h
    simp only [SE.sub, SE.ev, he.1 h2]
    exact (hl.2.1 h1).2 _ j (by simpa using h3)
  | len l hl =>
    refine ⟨fun h => ?_, fun h => by simp [SE.bdL] at h, fun h => by simp [SE.bdR] at h⟩
    simp only [SE.bd] at h
    simp only [SE.sub, SE.ev, (hl.2.1 h).1]
theorem SE.sub_ev {e : SE} (h : SE.bd B e = true) : (e.sub θ).ev N1.σ = e.ev N2.σ := (SE.sub_all ag e).1 h
theorem Cnd.sub_ev {c : Cnd} (h : Cnd.bd B c = true) : (c.sub θ).ev N1.σ = c.ev N2.σ := by
  cases c with
  | lt a b =>
    simp only [Cnd.bd, Bool.and_eq_true] at h
    simp only [Cnd.sub, Cnd.ev, SE.sub_ev ag h.1, SE.sub_ev ag h.2]
  | eq a b =>
    simp only [Cnd.bd, Bool.and_eq_true] at h
    simp only [Cnd.sub, Cnd.ev, SE.sub_ev ag h.1, SE.sub_ev ag h.2]
end
section
variable {θ : Sub} {B : Bd} {N1 N2 : Nums} {ρ1 ρ2 : Ren}
mutual
theorem VR.sub (ag : Agree θ B N1 N2) (hρ : ∀ n, n < B.kn → ρ2 n = ρ1 (θ.nAt n)) : ∀ {v : AV} {x : Value}, AV.bd B v = true → @VR N1 ρ1 (v.sub θ) x → @VR N2 ρ2 v x
  | .sym k e, x, hb, h => by
    unfold AV.sub VR at h
    unfold AV.bd at hb
    unfold VR
    rw [← SE.sub_ev ag hb]
    exact h
  | .bsym c p, x, hb, h => by
    unfold AV.sub VR at h
    unfold AV.bd at hb
    unfold VR
    rw [← Cnd.sub_ev ag hb]
    exact h
  | .ptr n off, x, hb, h => by
    unfold AV.sub VR at h
    unfold AV.bd at hb
    unfold VR
    rw [hρ n (by simpa using hb)]
    exact h
  | .eptr n e s j, x, hb, h => by
    unfold AV.sub VR at h
    simp only [AV.bd, Bool.and_eq_true] at hb
    unfold VR
    rw [hρ n (by simpa using hb.1), ← SE.sub_ev ag hb.2]
    exact h
  | .dsl n e s, x, hb, h => by
    unfold AV.sub VR at h
    simp only [AV.bd, Bool.and_eq_true] at hb
    unfold VR
    rw [hρ n (by simpa using hb.1), ← SE.sub_ev ag hb.2]
    exact h
  | .ssl n e l s, x, hb, h => by
    unfold AV.sub VR at h
    simp only [AV.bd, Bool.and_eq_true] at hb
    unfold VR
    rw [hρ n (by simpa using hb.1), ← SE.sub_ev ag hb.2]
    exact h
  | .rptr i e, x, hb, h => by
    unfold AV.sub VR at h
    unfold AV.bd at hb
    unfold VR
    rw [← SE.sub_ev ag hb, ag.ro]
    exact h
  | .sl n off len sz r, x, hb, h => by
    unfold AV.sub VR at h
    unfold AV.bd at hb
    unfold VR
    rw [hρ n (by simpa using hb)]
    exact h
  | .map n, x, hb, h => by
    unfold AV.sub VR at h
    unfold AV.bd at hb
    unfold VR
    rw [hρ n (by simpa using hb)]
    exact h
  | .fn f a b, x, hb, h => by
    unfold AV.sub VR at h
    simp only [AV.bd, Bool.and_eq_true] at hb
    unfold VR
    obtain ⟨p, q, h1, h2, h3⟩ := h
    exact ⟨p, q, h1, VRs.sub ag hρ hb.1 h2, VRs.sub ag hρ hb.2 h3⟩
  | .ifc t v, x, hb, h => by
    unfold AV.sub VR at h
    unfold AV.bd at hb
    unfold VR
    obtain ⟨y, h1, h2⟩ := h
    exact ⟨y, h1, VR.sub ag hρ hb h2⟩
  | .agg l, x, hb, h => by
    unfold AV.sub VR at h
    unfold AV.bd at hb
    unfold VR
    obtain ⟨a, h1, h2⟩ := h
    exact ⟨a, h1, VRs.sub ag hρ hb h2⟩
  | .tup l, x, hb, h => by
    unfold AV.sub VR at h
    unfold AV.bd at hb
    unfold VR
    obtain ⟨a, h1, h2⟩ := h
    exact ⟨a, h1, VRs.sub ag hρ hb h2⟩
  | .bool _, x, _, h => by unfold AV.sub VR at h; unfold VR; exact h
  | .int _ _, x, _, h => by unfold AV.sub VR at h; unfold VR; exact h
  | .str _, x, _, h => by unfold AV.sub VR at h; unfold VR; exact h
  | .nilp, x, _, h => by unfold AV.sub VR at h; unfold VR; exact h
  | .gptr _ _, x, _, h => by unfold AV.sub VR at h; unfold VR; exact h
  | .nilsl, x, _, h => by unfold AV.sub VR at h; unfold VR; exact h
  | .esl _, x, _, h => by unfold AV.sub VR at h; unfold VR; exact h
  | .zsl, x, _, h => by unfold AV.sub VR at h; unfold VR; exact h
  | .osl e, x, hb, h => by
    unfold AV.sub VR at h
    unfold VR
    unfold AV.bd at hb
    rw [← SE.sub_ev ag hb]
    exact h
  | .rsl i, x, _, h => by
    unfold AV.sub VR at h
    unfold VR
    obtain ⟨A, l, c, h1, h2, h3, h4, h5, h6⟩ := h
    exact ⟨A, l, c, by rw [ag.ro]; exact h1, h2, h3, h4, by rw [(ag.rol i _ h1).1]; exact h5, h6⟩
  | .nilmap, x, _, h => by unfold AV.sub VR at h; unfold VR; exact h
  | .nilfn, x, _, h => by unfold AV.sub VR at h; unfold VR; exact h
  | .nilif, x, _, h => by unfold AV.sub VR at h; unfold VR; exact h
theorem VRs.sub (ag : Agree θ B N1 N2) (hρ : ∀ n, n < B.kn → ρ2 n = ρ1 (θ.nAt n)) : ∀ {l : List AV} {m : List Value}, AV.bds B l = true → @VRs N1 ρ1 (AV.subs θ l) m → @VRs N2 ρ2 l m
  | [], m, _, h => by unfold AV.subs VRs at h; unfold VRs; exact h
  | v :: l, m, hb, h => by
    unfold AV.subs VRs at h
    simp only [AV.bds, Bool.and_eq_true] at hb
    unfold VRs
    obtain ⟨y, ys, h1, h2, h3⟩ := h
    exact ⟨y, ys, h1, VR.sub ag hρ hb.1 h2, VRs.sub ag hρ hb.2 h3⟩
end
end
section
variable [Nums]
variable {ρ : Ren}
theorem eqB_ok {a b : SE} (h : eqB a b = true) : a.ev Nums.σ = b.ev Nums.σ := by
  unfold eqB at h
  split at h <;> first | (cases h; done) | skip
  rename_i he
  exact eq_of_beq (askEq_ok he)
mutual
theorem AV.fits_ok : ∀ {u v : AV} {x : Value}, AV.fits u v = true → VR ρ u x → VR ρ v x := by
  intro u v x hf h
  unfold AV.fits at hf
  split at hf
  · unfold VR at h ⊢
    obtain ⟨a, h1, h2⟩ := h
    exact ⟨a, h1, AV.fitsL_ok hf h2⟩
  · unfold VR at h ⊢
    obtain ⟨a, h1, h2⟩ := h
    exact ⟨a, h1, AV.fitsL_ok hf h2⟩
  · rw [Bool.and_eq_true] at hf
    have hk := of_decide_eq_true hf.1
    have he := eqB_ok hf.2
    unfold VR at h ⊢
    rw [h, hk, ← he]
    rfl
  · rw [Bool.and_eq_true] at hf
    have hk := of_decide_eq_true hf.1
    have he := eqB_ok hf.2
    unfold VR at h ⊢
    rw [h, hk, ← he]
  · rw [Bool.and_eq_true] at hf
    have hk := of_decide_eq_true hf.1
    have he := eqB_ok hf.2
    unfold VR at h ⊢
    rw [h, hk, he]
    rfl
  · split at hf <;> first | (cases hf; done) | skip
    rename_i q hq
    unfold VR at h ⊢
    rw [h, askC_ok hq, eq_of_beq hf]
  · split at hf <;> first | (cases hf; done) | skip
    rename_i q hq
    unfold VR at h ⊢
    rw [h, askC_ok hq, eq_of_beq hf]
  · unfold VR at h ⊢
    rw [Bool.or_eq_true] at hf
    rcases hf with hf | hf
    · rw [Bool.and_eq_true] at hf
      rw [h, Cnd.beq_eq hf.1, eq_of_beq hf.2]
    · split at hf <;> first | (cases hf; done) | skip
      rename_i q hq
      split at hf <;> first | (cases hf; done) | skip
      rename_i q' hq'
      rw [h, askC_ok hq, askC_ok hq', eq_of_beq hf]
  · simp only [Bool.and_eq_true] at hf
    obtain ⟨h1, h2, h3⟩ := hf
    have h1 := Nat.eq_of_beq_eq_true h1
    have h2 := Nat.eq_of_beq_eq_true h2
    have h3 := eqB_ok h3
    subst h1; subst h2
    unfold VR at h ⊢
    obtain ⟨b, z, l, c, k1, k2, k3, k4, k5, k6⟩ := h
    exact ⟨b, z, l, c, k1, k2, k3, k4, k5, by rw [← h3]; exact k6⟩
  · simp only [Bool.and_eq_true] at hf
    obtain ⟨⟨h1, h2⟩, ⟨h3, h4⟩, h5⟩ := hf
    have h1 := Nat.eq_of_beq_eq_true h1
    have h2 := Nat.eq_of_beq_eq_true h2
    have h3 := Nat.eq_of_beq_eq_true h3
    have h5 := eqB_ok h5
    subst h1; subst h2; subst h3
    unfold VR at h ⊢
    obtain ⟨b, z, c, k1, k2, k3, k4, k5⟩ := h
    refine ⟨b, z, _, c, k1, k2, k3, k4, ?_, by rw [← h5]; rfl⟩
    split at h4
    · exact k5.2
    · cases h4
  · unfold VR at h ⊢
    exact ⟨none, 0, h, by unfold maxLen; omega⟩
  · cases hf
  · have h3 := eqB_ok hf
    unfold VR at h ⊢
    obtain ⟨A, l, c, k1, k2, k3, k4⟩ := h
    exact ⟨A, l, c, k1, k2, k3, by rw [← h3]; exact k4⟩
  · rw [← AV.beq_eq hf]
    exact h
theorem AV.fitsL_ok : ∀ {u v : List AV} {x : List Value}, AV.fitsL u v = true → VRs ρ u x → VRs ρ v x
  | [], [], x, _, h => h
  | [], _ :: _, x, hf, h => by simp [AV.fitsL] at hf
  | _ :: _, [], x, hf, h => by simp [AV.fitsL] at hf
  | a :: l, b :: m, x, hf, h => by
    simp only [AV.fitsL, Bool.and_eq_true] at hf
    obtain ⟨y, ys, rfl, h1, h2⟩ := h.uncons
    exact VRs.cons (AV.fits_ok hf.1 h1) (AV.fitsL_ok hf.2 h2)
end
end
end Go.Proofs.Ytmfemophafncnaa.Ex

/-
  The runner: states of a form; known calls of any effect. Soundness. No condition.
-/
namespace Go.Proofs.Ytmfemophafncnaa.Ex
open Go
section
variable [Nums]
variable {ρ ρ' : Ren}
/-- a block is as it is to be -/
def TR (ρ : Ren) (t : TB) (s : Nat) (x : Option Obj) : Prop := match t with
  | .cells l e => ∃ cur : Array Value, x = some (.cells cur e (0, 0)) ∧ cur.size = s ∧ l.length ≤ s ∧ ∀ (i : Nat) v, l[i]? = some v → v.one = true ∧ ∃ y, cur[i]? = some y ∧ VR ρ v y
  | .recs l ks e => OR ρ (.recs l ks e) s x
  | .opb i n m => OR ρ (.opb i n m) s x
theorem TR.or {t : TB} {s : Nat} {x : Option Obj} (h : TR ρ t s x) : OR ρ t.ao s x := by
  cases t with
  | cells l e =>
    obtain ⟨cur, h1, h2, h3, h4⟩ := h
    refine ⟨cur, h1, h2, h3, fun i v hv => ?_⟩
    rcases setN_get hv with ⟨_, _, h5⟩ | ⟨_, h5⟩
    · rw [Nat.sub_zero] at h5
      exact h4 i v h5
    · rw [T.get_e] at h5; cases h5
  | recs l ks e => exact h
  | opb i n m => exact h
theorem fits_one : ∀ {u v : AV}, AV.fits u v = true → u.one = true → v.one = true := by
  intro u v hf h1
  cases hv : v.one with
  | true => rfl
  | false =>
    exfalso
    unfold AV.fits at hf
    split at hf <;> first | (cases h1; done) | (cases hv; done) | skip
    rw [AV.beq_eq hf, hv] at h1
    cases h1
omit [Nums] in
theorem getN_one {cs : T AV} (hc : ∀ i v, cs.get i = some v → v.one = true) : ∀ {n i : Nat} {l : List AV}, getN cs i n = some l → ∀ w ∈ l, w.one = true
  | 0, i, l, hg, w, hw => by simp only [getN, Option.some.injEq] at hg; subst hg; cases hw
  | n + 1, i, l, hg, w, hw => by
    unfold getN at hg
    split at hg <;> first | (cases hg; done) | skip
    rename_i w0 hw0
    split at hg <;> first | (cases hg; done) | skip
    rename_i l0 hl0
    simp only [Option.some.injEq] at hg
    subst hg
    rcases List.mem_cons.1 hw with rfl | hw
    · exact hc _ _ hw0
    · exact getN_one hc hl0 w hw
theorem fitsL_get : ∀ {l m : List AV} {i : Nat} {v : AV}, AV.fitsL l m = true → m[i]? = some v → ∃ u, l[i]? = some u ∧ AV.fits u v = true
  | [], [], _, _, _, h => by simp at h
  | [], _ :: _, _, _, hf, _ => by simp [AV.fitsL] at hf
  | _ :: _, [], _, _, hf, _ => by simp [AV.fitsL] at hf
  | a :: l, b :: m, i, v, hf, h => by
    simp only [AV.fitsL, Bool.and_eq_true] at hf
    cases i with
    | zero =>
      simp only [List.getElem?_cons_zero, Option.some.injEq] at h
      subst h
      exact ⟨a, rfl, hf.1⟩
    | succ i => exact fitsL_get (i := i) hf.2 (by simpa using h)
theorem recFits_ok {cs : T AV} {cur : Array Value} (hc : CellsOk ρ cs cur) : ∀ {ks : List CK} {off : Nat} {r : SE}, recFits cs off ks r = true → ∀ (j : Nat) (k : CK), ks[j]? = some k → cur[off + j]? = some (k.val (r.evA Nums.σ 0 j))
  | [], off, r, h, j, k, hk => by simp at hk
  | k0 :: ks, off, r, h, j, k, hk => by
    cases r <;> simp only [recFits] at h <;> first | (cases h; done) | skip
    rename_i v r
    split at h <;> first | (cases h; done) | skip
    rename_i a ha
    split at h <;> first | (cases h; done) | skip
    rename_i x hx
    rw [Bool.and_eq_true] at h
    obtain ⟨_, y, hy, hr⟩ := hc _ _ ha
    cases j with
    | zero =>
      simp only [List.getElem?_cons_zero, Option.some.injEq] at hk
      subst hk
      rw [Nat.add_zero, hy, toCK_rel hx hr, eqB_ok h.1]
      simp only [SE.evA]
    | succ j =>
      have := recFits_ok hc h.2 j k (by simpa using hk)
      rw [show off + (j + 1) = Nat.add off 1 + j from by show _ = off + 1 + j; omega, this]
      simp only [SE.evA]
theorem chainFits_ok {cs : T AV} {cur : Array Value} {ks : List CK} (hc : CellsOk ρ cs cur) : ∀ {l : SE} {n : Nat}, chainFits cs ks l = some n → l.evN Nums.σ = n ∧ ∀ (r j : Nat) (k : CK), r < n → ks[j]? = some k → cur[r * ks.length + j]? = some (k.val (l.evA Nums.σ r j))
  | .rnil, n, h => by
    simp only [chainFits, Option.some.injEq] at h
    subst h
    exact ⟨by simp only [SE.evN], fun r j k hr => by omega⟩
  | .lsnoc l r, n, h => by
    unfold chainFits at h
    split at h <;> first | (cases h; done) | skip
    rename_i m hm
    split at h <;> first | (cases h; done) | skip
    rename_i hr
    simp only [Option.some.injEq] at h
    have h : m + 1 = n := h
    subst h
    obtain ⟨h1, h2⟩ := chainFits_ok hc hm
    refine ⟨by simp only [SE.evN, h1], fun q j k hq hk => ?_⟩
    simp only [SE.evA, h1]
    by_cases hqm : q = m
    · subst hqm
      rw [if_pos rfl]
      exact recFits_ok hc hr j k hk
    · rw [if_neg hqm]
      exact h2 q j k (by omega) hk
  | .var _, _, h => by simp [chainFits] at h
  | .lit _, _, h => by simp [chainFits] at h
  | .bin _ _ _, _, h => by simp [chainFits] at h
  | .ubin _ _ _, _, h => by simp [chainFits] at h
  | .cv _ _, _, h => by simp [chainFits] at h
  | .lvar _, _, h => by simp [chainFits] at h
  | .lset _ _ _ _, _, h => by simp [chainFits] at h
  | .rcons _ _, _, h => by simp [chainFits] at h
  | .at _ _ _, _, h => by simp [chainFits] at h
  | .len _, _, h => by simp [chainFits] at h
omit [Nums] in
theorem CK.beqs_eq : ∀ {a b : List CK}, CK.beqs a b = true → a = b
  | [], [], _ => rfl
  | [], _ :: _, h => by simp [CK.beqs] at h
  | _ :: _, [], h => by simp [CK.beqs] at h
  | a :: l, b :: m, h => by
    simp only [CK.beqs, Bool.and_eq_true] at h
    have h1 : a = b := by
      have := h.1
      cases a <;> cases b <;> simp [CK.beq] at this <;> first | rfl | rw [this]
    rw [h1, CK.beqs_eq h.2]
theorem TB.fits_ok {o : AO} {t : TB} {s : Nat} {x : Option Obj} (hf : TB.fits o t = true) (h : OR ρ o s x) : TR ρ t s x := by
  unfold TB.fits at hf
  split at hf
  · simp only [Bool.and_eq_true] at hf
    obtain ⟨h1, h2, h3⟩ := hf
    have h1 := Nat.eq_of_beq_eq_true h1
    subst h1
    have h2 := Nat.le_of_ble_eq_true h2
    split at h3 <;> first | (cases h3; done) | skip
    rename_i l' hl
    obtain ⟨cur, k1, k2, k3, k4⟩ := h
    obtain ⟨ys, _, hrs, hat, _⟩ := getN_sound (ρ := ρ) k4 hl
    refine ⟨cur, k1, k2, by omega, fun i v hv => ?_⟩
    obtain ⟨u, hu, huf⟩ := fitsL_get h3 hv
    obtain ⟨y, hy, hyr⟩ := hrs.get hu
    have hy2 := hat i y hy
    rw [Nat.zero_add] at hy2
    refine ⟨?_, y, hy2, AV.fits_ok huf hyr⟩
    exact fits_one huf (getN_one (fun i v h => (k4 i v h).1) hl u (List.mem_of_getElem? hu))
  · simp only [Bool.and_eq_true] at hf
    obtain ⟨h1, h3⟩ := hf
    have h1 := Nat.eq_of_beq_eq_true h1
    subst h1
    split at h3 <;> first | (cases h3; done) | skip
    rename_i n hn
    have h3 := Nat.le_of_ble_eq_true h3
    obtain ⟨cur, k1, k2, k3, k4⟩ := h
    obtain ⟨c1, c2⟩ := chainFits_ok (ρ := ρ) k4 hn
    refine ⟨cur, k1, k2, ?_, fun r j k hr hk => c2 r j k (by omega) hk⟩
    rw [c1]
    exact Nat.le_trans h3 k3
  · simp only [Bool.and_eq_true] at hf
    obtain ⟨h1, h2, h3⟩ := hf
    have h1 := Nat.eq_of_beq_eq_true h1
    have h2 := SE.beq_eq h2
    have h3 := CK.beqs_eq h3
    subst h1; subst h2; subst h3
    exact h
  · simp only [Bool.and_eq_true] at hf
    obtain ⟨h1, h2, h3⟩ := hf
    have h1 := Nat.eq_of_beq_eq_true h1
    have h2 := Nat.eq_of_beq_eq_true h2
    have h3 := Nat.eq_of_beq_eq_true h3
    subst h1; subst h2; subst h3
    exact h
  · cases hf
end
theorem AV.sub_one (θ : Sub) (v : AV) : (v.sub θ).one = v.one := by cases v <;> simp [AV.sub, AV.one]
theorem AV.subs_get (θ : Sub) : ∀ {l : List AV} {i : Nat} {v : AV}, l[i]? = some v → (AV.subs θ l)[i]? = some (v.sub θ)
  | [], _, _, h => by simp at h
  | a :: l, i, v, h => by
    unfold AV.subs
    cases i with
    | zero => simp only [List.getElem?_cons_zero, Option.some.injEq] at h ⊢; rw [h]
    | succ i => simpa using AV.subs_get θ (i := i) (l := l) (by simpa using h)
theorem AV.subs_len (θ : Sub) : ∀ l : List AV, (AV.subs θ l).length = l.length
  | [] => by unfold AV.subs; rfl
  | a :: l => by unfold AV.subs; simp [AV.subs_len θ l]
theorem AV.bds_get {B : Bd} : ∀ {l : List AV} {i : Nat} {v : AV}, AV.bds B l = true → l[i]? = some v → AV.bd B v = true
  | [], _, _, _, h => by simp at h
  | a :: l, i, v, hb, h => by
    simp only [AV.bds, Bool.and_eq_true] at hb
    cases i with
    | zero => simp only [List.getElem?_cons_zero, Option.some.injEq] at h; rw [← h]; exact hb.1
    | succ i => exact AV.bds_get (i := i) hb.2 (by simpa using h)
section
variable {θ : Sub} {B : Bd} {N1 N2 : Nums} (ag : Agree θ B N1 N2) {ρ1 ρ2 : Ren} (hρ : ∀ n, n < B.kn → ρ2 n = ρ1 (θ.nAt n))
include ag hρ
theorem TR.sub {t : TB} {s : Nat} {x : Option Obj} (hb : TB.bd B t = true) (h : @TR N1 ρ1 (t.sub θ) s x) : @TR N2 ρ2 t s x := by
  cases t with
  | cells l e =>
    simp only [TB.bd, Bool.and_eq_true] at hb
    obtain ⟨cur, h1, h2, h3, h4⟩ := h
    rw [AV.subs_len] at h3
    refine ⟨cur, h1, h2, h3, fun i v hv => ?_⟩
    obtain ⟨_, y, h6, h7⟩ := h4 i _ (AV.subs_get θ hv)
    exact ⟨allOne_mem hb.2 v (List.mem_of_getElem? hv), y, h6, VR.sub ag hρ (AV.bds_get hb.1 hv) h7⟩
  | recs l ks e =>
    simp only [TB.bd, Bool.and_eq_true, ltAll] at hb
    obtain ⟨cur, h1, h2, h3, h4⟩ := h
    have hs := (SE.sub_all ag l).2.1 hb.1
    rw [hs.1] at h3 h4
    refine ⟨cur, h1, h2, h3, fun r j k hr hk => ?_⟩
    have hj : j < 64 := Nat.lt_of_lt_of_le (List.getElem?_eq_some_iff.1 hk).1 (Nat.le_of_ble_eq_true hb.2)
    rw [h4 r j k hr hk, hs.2 r j hj]
  | opb i n m =>
    simp only [TB.bd, Bool.and_eq_true] at hb
    obtain ⟨hi, hn, hm⟩ := hb
    obtain ⟨b0, z0, b1, z1, o, h0, h1, h2, h3⟩ := h
    exact ⟨b0, z0, b1, z1, o, by rw [hρ n (by simpa using hn)]; exact h0, by rw [hρ m (by simpa using hm)]; exact h1, h2, ag.o i (by simpa using hi) _ _ _ h3⟩
end
theorem envT_get : ∀ {l : List (Nat × AV)} {t : Nat} {v : AV}, (envT l).get t = some v → (t, v) ∈ l
  | [], t, v, h => by unfold envT at h; rw [T.get_e] at h; cases h
  | (t', v') :: l, t, v, h => by
    unfold envT at h
    rcases T.get_put h with ⟨rfl, h1⟩ | ⟨_, h1⟩
    · cases h1; exact List.mem_cons_self
    · exact List.mem_cons_of_mem _ (envT_get h1)
theorem heapT_get : ∀ {l : List (Nat × TB)} {n : Nat} {o : AO}, (heapT l).get n = some o → ∃ t, (n, t) ∈ l ∧ o = t.ao
  | [], n, o, h => by unfold heapT at h; rw [T.get_e] at h; cases h
  | (n', t') :: l, n, o, h => by
    unfold heapT at h
    rcases T.get_put h with ⟨rfl, h1⟩ | ⟨_, h1⟩
    · cases h1; exact ⟨_, List.mem_cons_self, rfl⟩
    · obtain ⟨t, h2, h3⟩ := heapT_get h1
      exact ⟨t, List.mem_cons_of_mem _ h2, h3⟩
theorem bdE_mem {B : Bd} : ∀ {l : List (Nat × AV)}, bdE B l = true → ∀ p ∈ l, AV.bd B p.2 = true
  | [], _, _, h => by cases h
  | (t, v) :: l, hb, p, h => by
    simp only [bdE, Bool.and_eq_true] at hb
    rcases List.mem_cons.1 h with rfl | h
    · exact hb.1
    · exact bdE_mem hb.2 p h
theorem bdH_mem {B : Bd} : ∀ {l : List (Nat × TB)}, bdH B l = true → ∀ p ∈ l, p.1 < B.kn ∧ TB.bd B p.2 = true
  | [], _, _, h => by cases h
  | (t, v) :: l, hb, p, h => by
    simp only [bdH, Bool.and_eq_true] at hb
    rcases List.mem_cons.1 h with rfl | h
    · exact ⟨by simpa using hb.1.1, hb.1.2⟩
    · exact bdH_mem hb.2 p h
theorem fitE_mem [Fc] {θ : Sub} {env : T AV} : ∀ {l : List (Nat × AV)}, fitE θ env l = true → ∀ p ∈ l, ∃ u, env.get p.1 = some u ∧ AV.fits u (p.2.sub θ) = true
  | [], _, _, h => by cases h
  | (t, v) :: l, hf, p, h => by
    unfold fitE at hf
    split at hf <;> first | (cases hf; done) | skip
    rename_i u hu
    rw [Bool.and_eq_true] at hf
    rcases List.mem_cons.1 h with rfl | h
    · exact ⟨u, hu, hf.1⟩
    · exact fitE_mem hf.2 p h
theorem notIn_mem {θ : Sub} {n : Nat} : ∀ {l : List (Nat × TB)}, notIn θ n l = true → ∀ p ∈ l, θ.nAt p.1 ≠ n
  | [], _, _, h => by cases h
  | (m, o) :: l, hf, p, h => by
    unfold notIn at hf
    split at hf <;> first | (cases hf; done) | skip
    rename_i hb
    rcases List.mem_cons.1 h with rfl | h
    · exact Nat.ne_of_beq_eq_false hb
    · exact notIn_mem hf p h
theorem fitH_mem [Fc] {θ : Sub} {h : AH} : ∀ {l : List (Nat × TB)}, fitH θ h l = true → (∀ p ∈ l, ∃ a, h.get (θ.nAt p.1) = some a ∧ TB.fits a (p.2.sub θ) = true) ∧ ∀ p ∈ l, ∀ q ∈ l, θ.nAt p.1 = θ.nAt q.1 → p = q
  | [], _ => ⟨(fun p h => by cases h), (fun p h => by cases h)⟩
  | (n, o) :: l, hf => by
    unfold fitH at hf
    split at hf <;> first | (cases hf; done) | skip
    rename_i a ha
    rw [Bool.and_eq_true, Bool.and_eq_true] at hf
    obtain ⟨h1, h2, h3⟩ := hf
    have h2 := notIn_mem h2
    obtain ⟨h4, h5⟩ := fitH_mem h3
    refine ⟨fun p hp => ?_, fun p hp q hq he => ?_⟩
    · rcases List.mem_cons.1 hp with rfl | hp
      · exact ⟨a, ha, h1⟩
      · exact h4 p hp
    · rcases List.mem_cons.1 hp with rfl | hp <;> rcases List.mem_cons.1 hq with rfl | hq
      · rfl
      · exact absurd he.symm (h2 q hq)
      · exact absurd he (h2 p hp)
      · exact h5 p hp q hq he
/-- names of a form, where a state's names stand -/
def reN (t : Tm) (θ : Sub) (ρ : Ren) : Ren := fun n => if n < t.b.kn then ρ (θ.nAt n) else none
/-- A STATE OF A FORM, READ ANEW -/
theorem Tm.re {t : Tm} {θ : Sub} {env : T AV} {h : AH} {N1 N2 : Nums} (hf : @Tm.fits N1.toFc t θ env h = true) (ag : Agree θ t.b N1 N2) {ρ : Ren} {w : World} {a : Act} {nt : Nat}
    (hE : @ER N1 ρ env nt a) (hH : @HR N1 ρ h.get h.next w) :
    @ER N2 (reN t θ ρ) (envT t.env) nt a ∧ @HR N2 (reN t θ ρ) t.h.get t.h.next w ∧ ∀ n, (t.h.get n).isSome = true → n < t.b.kn ∧ (h.get (θ.nAt n)).isSome = true := by
  unfold Tm.fits at hf
  rw [Bool.and_eq_true, Bool.and_eq_true] at hf
  obtain ⟨hok, hfe, hfh⟩ := hf
  unfold Tm.ok at hok
  rw [Bool.and_eq_true, Bool.and_eq_true] at hok
  obtain ⟨hbe, hbh, hkn⟩ := hok
  have hfe := @fitE_mem N1.toFc _ _ _ hfe
  obtain ⟨hfh, hinj⟩ := @fitH_mem N1.toFc _ _ _ hfh
  have hρ : ∀ n, n < t.b.kn → reN t θ ρ n = ρ (θ.nAt n) := fun n hn => by simp [reN, hn]
  have hat : ∀ n o, t.h.get n = some o → ∃ tb, (n, tb) ∈ t.heap ∧ o = tb.ao := fun n o ho => heapT_get ho
  have hdom : ∀ n, (t.h.get n).isSome = true → n < t.b.kn ∧ (h.get (θ.nAt n)).isSome = true := fun n hn => by
    obtain ⟨o, ho⟩ := Option.isSome_iff_exists.1 hn
    obtain ⟨tb, hm, _⟩ := hat n o ho
    obtain ⟨u, hu, _⟩ := hfh _ hm
    exact ⟨(bdH_mem hbh _ hm).1, by rw [show h.get (θ.nAt n) = some u from hu]; rfl⟩
  have edz := @ER.dz N1 _ _ _ _ hE
  have esz := @ER.size N1 _ _ _ _ hE
  have eval := @ER.val N1 _ _ _ _ hE
  have hobj := @HR.obj N1 _ _ _ _ hH
  have hinj1 := @HR.inj N1 _ _ _ _ hH
  have hgl := @HR.gl N1 _ _ _ _ hH
  have hgn := @HR.gn N1 _ _ _ _ hH
  have hrl := @HR.rl N1 _ _ _ _ hH
  have hrn := @HR.rn N1 _ _ _ _ hH
  refine ⟨⟨edz, esz, fun i v hv => ?_⟩, ⟨fun n hn => ?_, fun n o ho => ?_, fun n m b s s' hn hm hp hq => ?_, ?_, fun b l hl n s hn hp => ?_, ?_, fun b hb n s hn hp => ?_⟩, hdom⟩
  · have hm := envT_get hv
    obtain ⟨u, hu, huf⟩ := hfe _ hm
    obtain ⟨x, hx, hxr⟩ := eval _ _ hu
    exact ⟨x, hx, VR.sub ag hρ (bdE_mem hbe _ hm) (@AV.fits_ok N1 ρ _ _ _ huf hxr)⟩
  · have : ¬ n < t.b.kn := by
      have h1 : t.h.next = t.b.kn := rfl
      omega
    simp [reN, this]
  · obtain ⟨tb, hm, rfl⟩ := hat n o ho
    obtain ⟨u, hu, huf⟩ := hfh _ hm
    obtain ⟨hlt, hbd⟩ := bdH_mem hbh _ hm
    obtain ⟨b, s, hp, hO⟩ := hobj _ _ hu
    exact ⟨b, s, by rw [hρ n hlt]; exact hp, @TR.or N2 _ _ _ _ (TR.sub ag hρ hbd (@TB.fits_ok N1 ρ _ _ _ _ huf hO))⟩
  · obtain ⟨o1, ho1⟩ := Option.isSome_iff_exists.1 hn
    obtain ⟨o2, ho2⟩ := Option.isSome_iff_exists.1 hm
    obtain ⟨t1, hm1, _⟩ := hat n o1 ho1
    obtain ⟨t2, hm2, _⟩ := hat m o2 ho2
    obtain ⟨l1, d1⟩ := hdom n hn
    obtain ⟨l2, d2⟩ := hdom m hm
    rw [hρ n l1] at hp
    rw [hρ m l2] at hq
    have := hinj _ hm1 _ hm2 (hinj1 _ _ b s s' d1 d2 hp hq)
    exact congrArg Prod.fst this
  · rw [ag.globs]
    exact hgl
  · obtain ⟨l1, d1⟩ := hdom n hn
    rw [hρ n l1] at hp
    rw [ag.globs] at hl
    exact hgn b l hl _ s d1 hp
  · intro i k A len c hk hro
    rw [ag.rks] at hk
    rw [ag.ro] at hro
    obtain ⟨h1, h2⟩ := hrl i k A len c hk hro
    obtain ⟨r1, r2⟩ := ag.rol i _ hro
    refine ⟨by rw [r1]; exact h1, fun a ha h0 => ⟨(h2 a ha h0).1, fun e he => ?_⟩⟩
    rw [r2 e]
    exact (h2 a ha h0).2 e he
  · obtain ⟨i, k, a, len, c, hk, hro, h0, hab⟩ := hb
    rw [ag.rks] at hk
    rw [ag.ro] at hro
    obtain ⟨l1, d1⟩ := hdom n hn
    rw [hρ n l1] at hp
    exact hrn b ⟨i, k, a, len, c, hk, hro, h0, hab⟩ _ s d1 hp
end Go.Proofs.Ytmfemophafncnaa.Ex
