/-
  Texts of this claim, joined. No condition.
-/
import Derived.Test.YtfgomgodfcdijaaGreatDoorKn8
/-
  The runner: a region that draws its order gives, in whatever order, what it gives in the order of the text. No condition.
-/
namespace Go.Proofs.YtfgomgodfcdijaaGreatDoor.Ex
open Go
noncomputable section
variable [Nums]
def consB (b : T Nat) (a : Nat) : Nat → List Rk → Bool
  | _, [] => false
  | l, .loud _ _ :: rs => ahead b a l || consB b a (l + 1) rs
  | l, _ :: rs => consB b a (l + 1) rs
omit [Nums] in
theorem consB_iff {b : T Nat} {a : Nat} : ∀ {rs : List Rk} {k : Nat}, consB b a k rs = true ↔ ∃ l u g, rs[l]? = some (.loud u g) ∧ ahead b a (k + l) = true
  | [], k => by simp [consB]
  | r :: rs, k => by
    have ih := consB_iff (b := b) (a := a) (rs := rs) (k := k + 1)
    have sh : (∃ l u g, rs[l]? = some (.loud u g) ∧ ahead b a (k + 1 + l) = true) ↔ ∃ l u g, 0 < l ∧ (r :: rs)[l]? = some (.loud u g) ∧ ahead b a (k + l) = true := by
      constructor
      · rintro ⟨l, u, g, h1, h2⟩
        exact ⟨l + 1, u, g, by omega, by simpa using h1, by rw [show k + (l + 1) = k + 1 + l from by omega]; exact h2⟩
      · rintro ⟨l, u, g, h0, h1, h2⟩
        obtain ⟨l, rfl⟩ : ∃ q, l = q + 1 := ⟨l - 1, by omega⟩
        exact ⟨l, u, g, by simpa using h1, by rw [show k + 1 + l = k + (l + 1) from by omega]; exact h2⟩
    have other : isL r = false → ((consB b a (k + 1) rs = true) ↔ ∃ l u g, (r :: rs)[l]? = some (.loud u g) ∧ ahead b a (k + l) = true) := by
      intro hn
      rw [ih, sh]
      constructor
      · rintro ⟨l, u, g, _, h⟩
        exact ⟨l, u, g, h⟩
      · rintro ⟨l, u, g, h1, h2⟩
        refine ⟨l, u, g, ?_, h1, h2⟩
        rcases Nat.eq_zero_or_pos l with rfl | h0
        · simp at h1
          subst h1
          cases hn
        · exact h0
    cases r with
    | loud u h =>
      simp only [consB, Bool.or_eq_true]
      rw [ih, sh]
      constructor
      · rintro (h1 | ⟨l, u, g, _, h⟩)
        · exact ⟨0, _, _, rfl, h1⟩
        · exact ⟨l, u, g, h⟩
      · rintro ⟨l, u', g, h1, h2⟩
        rcases Nat.eq_zero_or_pos l with rfl | h0
        · exact .inl h2
        · exact .inr ⟨l, u', g, h0, h1, h2⟩
    | skip => exact other rfl
    | val _ => exact other rfl
    | alloc _ _ => exact other rfl
omit [Nums] in
theorem consB_P {b : T Nat} {a : Nat} {rs : List Rk} : consB b a 0 rs = true ↔ ConsP b rs a := by
  rw [consB_iff]
  simp only [Nat.zero_add, ConsP]
/-- memory when some operations are done: the main one, and the blocks of the region that lie beside it -/
def gF (base : Nat) (rs : List Rk) (L C : Nat → Bool) (H : AH) (m : Nat) : Option AO :=
  match (if base ≤ m then rs[m - base]? else none) with
  | some (.alloc ao _) => if L (m - base) && !C (m - base) then some ao else H.get m
  | _ => H.get m
section
variable {base : Nat} {rs : List Rk} {L L' C C' : Nat → Bool} {H : AH}
omit [Nums] in
theorem gF_alloc {a : Nat} {ao : AO} {v : AV} (h : rs[a]? = some (.alloc ao v)) (hL : L a = true) (hC : C a = false) : gF base rs L C H (base + a) = some ao := by
  unfold gF
  rw [if_pos (by omega), show base + a - base = a from by omega, h]
  simp [hL, hC]
omit [Nums] in
theorem gF_cases {m : Nat} {o : AO} (h : gF base rs L C H m = some o) : (∃ a v, m = base + a ∧ rs[a]? = some (.alloc o v) ∧ L a = true ∧ C a = false) ∨
    (H.get m = some o ∧ ∀ a ao v, m = base + a → rs[a]? = some (.alloc ao v) → L a = true → C a = true) := by
  unfold gF at h
  by_cases hb : base ≤ m
  · rw [if_pos hb] at h
    have hm : m = base + (m - base) := by omega
    have key : ∀ a, m = base + a → a = m - base := fun a ha => by omega
    split at h
    · rename_i ao v hr
      split at h
      · rename_i hc
        rw [Bool.and_eq_true] at hc
        cases h
        exact .inl ⟨m - base, v, hm, hr, hc.1, by simpa using hc.2⟩
      · rename_i hc
        refine .inr ⟨h, fun a ao' v' ha hra hL => ?_⟩
        have := key a ha
        subst this
        simp [hL] at hc
        exact hc
    · rename_i hno
      refine .inr ⟨h, fun a ao' v' ha hra hL => ?_⟩
      have := key a ha
      subst this
      exact absurd hra (hno _ _)
  · rw [if_neg hb] at h
    exact .inr ⟨h, fun a ao' v' ha => by omega⟩
omit [Nums] in
theorem gF_main {m : Nat} {o : AO} (h : H.get m = some o) (hno : ∀ a ao v, m = base + a → rs[a]? = some (.alloc ao v) → L a = true → C a = true) : gF base rs L C H m = some o := by
  unfold gF
  by_cases hb : base ≤ m
  · rw [if_pos hb]
    split
    · rename_i ao v hr
      split
      · rename_i hc
        rw [Bool.and_eq_true] at hc
        have := hno (m - base) ao v (by omega) hr hc.1
        rw [this] at hc
        simp at hc
      · exact h
    · exact h
  · rw [if_neg hb]
    exact h
omit [Nums] in
theorem gF_congr (h : ∀ a ao v, rs[a]? = some (.alloc ao v) → L' a = L a) (hC : ∀ a, C' a = C a) : gF base rs L' C' H = gF base rs L C H := by
  funext m
  unfold gF
  split
  · rename_i ao v hr
    split at hr
    · rw [h _ _ _ hr, hC]
    · cases hr
  · rfl
end
section
variable {P : Program} {call : FuncId → List AV → AH → Option (AV × AH)} {nt : Nat} {ops : Array Oper} {env0 : T AV} {h : AH} {rs : List Rk} {al : List (Nat × AO)}
/-- all that is known of a region -/
structure Reg (P : Program) (call : FuncId → List AV → AH → Option (AV × AH)) (nt : Nat) (ops : Array Oper) (env0 : T AV) (h : AH) (rs : List Rk) (al : List (Nat × AO)) : Prop where
  chk : chk ops = true
  len : rs.length = ops.size
  fact : ∀ (i : Nat) r o, rs[i]? = some r → ops[i]? = some o → FactAt P call nt ops (bf ops) h.next env0 (h.skip ops.size) (rs.take i) o i r
  read : ∀ (i : Nat) v o, rs[i]? = some (.val v) → ops[i]? = some o → kd o.op = .read → ∃ env vs, (∀ t v, env.get t = some v → Val ops env0 rs (below i) t v) ∧ evs env o.op.operands.toList = some vs ∧ sameAll P (bf ops) h.next rs al o.op vs v i (h.skip ops.size) = true
  al : ∀ a ao, (a, ao) ∈ al ↔ ∃ v, rs[a]? = some (.alloc ao v)
/-- memory behind the loud operations below a place -/
def mainAt (ops : Array Oper) (h : AH) (rs : List Rk) (lam : Nat) : AH := heapOf (h.skip ops.size) (rs.take lam)
def consAt (ops : Array Oper) (rs : List Rk) (lam : Nat) (a : Nat) : Bool := consB (bf ops) a 0 (rs.take lam)
structure AI (ds : List Deferred) (nt : Nat) (ops : Array Oper) (env0 : T AV) (h : AH) (rs : List Rk) (ρ0 : Ren) (w0 : World) (L : Nat → Bool) (lam : Nat) (ρ : Ren) (w : World) (a : Act) : Prop where
  cl : Closed ops L
  lt : ∀ i, L i = true → i < ops.size
  lam0 : lam = 0 ∨ ∃ q u g, lam = q + 1 ∧ rs[q]? = some (.loud u g)
  loud : ∀ (q : Nat) u g, rs[q]? = some (.loud u g) → (L q = true ↔ q < lam)
  st : Stp ρ0 h.get h.next w0 ρ (gF h.next rs L (consAt ops rs lam) (mainAt ops h rs lam)) (mainAt ops h rs lam).next w
  nx : h.next + ops.size ≤ (mainAt ops h rs lam).next
  nm : ∀ i, i < ops.size → L i = false → ρ (h.next + i) = none
  mask : ∀ i, i < ops.size → ((mainAt ops h rs lam).get (h.next + i)).isSome = true → consAt ops rs lam i = true
  dz : a.defers = ds
  size : a.tmps.size = nt
  val : ∀ t v, Val ops env0 rs L t v → ∃ x, a.tmps[t]? = some x ∧ VR ρ v x
variable {ds : List Deferred} {ρ0 ρ : Ren} {w0 w : World} {L L' : Nat → Bool} {lam : Nat} {a : Act}
omit [Nums] in
theorem consAt_iff {lam x : Nat} : consAt ops rs lam x = true ↔ ∃ l u g, l < lam ∧ rs[l]? = some (.loud u g) ∧ ahead (bf ops) x l = true := by
  unfold consAt
  rw [consB_P]
  unfold ConsP
  constructor
  · rintro ⟨l, u, g, h1, h2⟩
    obtain ⟨h3, h4⟩ := take_get.1 h1
    exact ⟨l, u, g, h3, h4, h2⟩
  · rintro ⟨l, u, g, h3, h4, h2⟩
    exact ⟨l, u, g, take_get.2 ⟨h3, h4⟩, h2⟩
/-- a place that may come next -/
structure Rdy (ops : Array Oper) (L : Nat → Bool) (i : Nat) (o : Oper) : Prop where
  op : ops[i]? = some o
  no : L i = false
  pre : ∀ e ∈ o.after.toList, Region.binds .any e = true → L e.on = true
omit [Nums] in
theorem Rdy.ahead {i : Nat} {o : Oper} (hc : Closed ops L) {j : Nat} (h : ahead (bf ops) j i = true) (hr : Rdy ops L i o) (hne : j ≠ i) : L j = true := by
  have hcl : Closed ops (fun k => L k || decide (k = i)) := by
    intro k q hq hk e he hb
    simp only [Bool.or_eq_true, decide_eq_true_eq] at hk ⊢
    rcases hk with hk | rfl
    · exact .inl (hc k q hq hk e he hb)
    · rw [hr.op] at hq
      cases hq
      exact .inl (hr.pre e he hb)
  have := ahead_dep h hcl (by simp)
  simpa [hne] using this
omit [Nums] in
/-- writers of a slot that an operation touches: done just if they stand ahead of it -/
theorem Rdy.writer {i : Nat} {o : Oper} (hk : chk ops = true) (hc : Closed ops L) (hr : Rdy ops L i o) {j t : Nat} (hj : dstAt ops j = some t) (ht : t ∈ looks ops o) : L j = true ↔ j < i := by
  obtain ⟨q, hq, hqd⟩ : ∃ q, ops[j]? = some q ∧ q.dst = some t := by
    unfold dstAt at hj
    cases hq : ops[j]? with
    | none => rw [hq] at hj; cases hj
    | some q => rw [hq] at hj; exact ⟨q, rfl, hj⟩
  rcases Nat.lt_trichotomy j i with h | h | h
  · refine ⟨fun _ => h, fun _ => ?_⟩
    have := (chk_ord hk hr.op hq (by omega) (.inl ⟨t, hqd, ht⟩)).1 h
    exact Rdy.ahead hc this hr (by omega)
  · subst h
    rw [hr.no]
    simp
  · refine ⟨fun hL => ?_, fun h' => by omega⟩
    have := (chk_ord hk hr.op hq (by omega) (.inl ⟨t, hqd, ht⟩)).2 h
    have := ahead_dep this hc hL
    rw [hr.no] at this
    cases this
omit [Nums] in
theorem Rdy.val {i : Nat} {o : Oper} (hk : chk ops = true) (hc : Closed ops L) (hr : Rdy ops L i o) {t : Nat} {v : AV} (ht : t ∈ looks ops o) (h : Val ops env0 rs (below i) t v) : Val ops env0 rs L t v := by
  have hw := fun j (hj : dstAt ops j = some t) => Rdy.writer hk hc hr hj ht
  rcases h with ⟨q, r, h1, h2, h3, h4, h5⟩ | ⟨h1, h2⟩
  · refine .inl ⟨q, r, (hw q h2).2 (by simpa [below] using h1), h2, h3, h4, fun j hj hj' => h5 j ?_ hj'⟩
    simp [below]
    exact (hw j hj').1 hj
  · refine .inr ⟨fun j hj hj' => h1 j ?_ hj', h2⟩
    simp [below]
    exact (hw j hj').1 hj
/-- what the slots hold that an operation looks at -/
theorem evs_rel {ρ : Ren} {env : T AV} {a : Act} : ∀ {l : List Operand} {vs : List AV}, (∀ t v, .tmp t ∈ l → env.get t = some v → ∃ x, a.tmps[t]? = some x ∧ VR ρ v x) → evs env l = some vs → VRs ρ vs (l.map a.eval)
  | [], vs, _, h => by simp only [evs, Option.some.injEq] at h; subst h; exact VRs.nil
  | o :: l, vs, hv, h => by
    unfold evs at h
    split at h <;> first | (cases h; done) | skip
    rename_i v hvo
    split at h <;> first | (cases h; done) | skip
    rename_i us hus
    simp only [Option.some.injEq] at h
    subst h
    refine VRs.cons ?_ (evs_rel (fun t v ht => hv t v (List.mem_cons_of_mem _ ht)) hus)
    cases o with
    | tmp t =>
      obtain ⟨x, hx, hr⟩ := hv t v List.mem_cons_self hvo
      have : a.eval (.tmp t) = x := by simp [Act.eval, hx]
      rw [this]
      exact hr
    | const c => exact ofV_sound ρ hvo
    | func f =>
      simp only [ev, Option.some.injEq] at hvo
      subst hvo
      unfold VR
      exact ⟨#[], #[], rfl, VRs.nil, VRs.nil⟩
    | global g =>
      simp only [ev, Option.some.injEq] at hvo
      subst hvo
      unfold VR
      rfl
theorem guard_rel {ρ : Ren} {env : T AV} {a : Act} {o : Oper} {g : Bool} (hv : ∀ t v, t ∈ o.looksAt ops → env.get t = some v → ∃ x, a.tmps[t]? = some x ∧ VR ρ v x) (h : guardA ops o env = some g) : Region.wanted o (yielded ops a.tmps) = g := by
  unfold guardA at h
  unfold Region.wanted
  split at h
  · rename_i hg
    rw [hg]
    simpa using h
  · rename_i j want hg
    rw [hg]
    dsimp only
    split at h
    · rename_i hj
      simp only [Option.some.injEq] at h
      subst h
      simp [yielded, hj]
    · rename_i q hj
      split at h
      · rename_i hd
        simp only [Option.some.injEq] at h
        subst h
        simp [yielded, hj, hd]
      · rename_i d hd
        have hmem : d ∈ o.looksAt ops := by
          unfold Oper.looksAt
          rw [hg]
          simp [hj, hd]
        split at h <;> first | (cases h; done) | skip
        · rename_i b hb
          simp only [Option.some.injEq] at h
          subst h
          obtain ⟨x, hx, hr⟩ := hv d _ hmem hb
          unfold VR at hr
          subst hr
          simp only [yielded, hj, Option.bind_some, hd, hx]
          simp
        · rename_i c p hb
          split at h <;> first | (cases h; done) | skip
          rename_i q hq
          simp only [Option.some.injEq] at h
          subst h
          obtain ⟨x, hx, hr⟩ := hv d _ hmem hb
          unfold VR at hr
          rw [askC_ok hq] at hr
          subst hr
          simp only [yielded, hj, Option.bind_some, hd, hx]
          simp
        · rename_i v hno hno2 hb
          simp only [Option.some.injEq] at h
          subst h
          obtain ⟨x, hx, hr⟩ := hv d _ hmem hb
          simp only [yielded, hj, Option.bind_some, hd, hx]
          cases x with
          | bool b =>
            cases v <;> simp [VR] at hr
            · subst hr
              exact absurd rfl (hno _)
            · exact absurd rfl (hno2 _ _)
          | _ => rfl
omit [Nums] in
theorem tmp_looks {o : Oper} {t : Nat} (h : .tmp t ∈ o.op.operands.toList) : t ∈ o.looksAt ops := by
  unfold Oper.looksAt
  refine List.mem_append_left _ ?_
  rw [List.mem_filterMap]
  exact ⟨_, h, rfl⟩
omit [Nums] in
theorem looks_of {o : Oper} {t : Nat} (h : t ∈ o.looksAt ops) : t ∈ looks ops o := List.mem_append_right _ h
omit [Nums] in
/-- what the slots hold behind one more operation -/
theorem val_step {i : Nat} {o : Oper} {r : Rk} (hk : chk ops = true) (hc : Closed ops L) (hr : Rdy ops L i o) (hri : rs[i]? = some r) (hL : ∀ j, L' j = true ↔ L j = true ∨ j = i) {t : Nat} {v : AV} (h : Val ops env0 rs L' t v) :
    (o.dst = some t ∧ v = r.res) ∨ (o.dst ≠ some t ∧ Val ops env0 rs L t v) := by
  have hd : dstAt ops i = o.dst := by simp [dstAt, hr.op]
  by_cases hdt : o.dst = some t
  · left
    refine ⟨hdt, ?_⟩
    have htl : t ∈ looks ops o := by unfold looks; rw [hdt]; simp
    rcases h with ⟨q, r', h1, h2, h3, h4, h5⟩ | ⟨h1, _⟩
    · have hiq := h5 i ((hL i).2 (.inr rfl)) (by rw [hd, hdt])
      rcases (hL q).1 h1 with h6 | h6
      · have := (Rdy.writer hk hc hr h2 htl).1 h6
        omega
      · subst h6
        rw [hri] at h3
        cases h3
        exact h4
    · exact absurd (by rw [hd, hdt]) (h1 i ((hL i).2 (.inr rfl)))
  · right
    refine ⟨hdt, ?_⟩
    rcases h with ⟨q, r', h1, h2, h3, h4, h5⟩ | ⟨h1, h2⟩
    · rcases (hL q).1 h1 with h6 | h6
      · exact .inl ⟨q, r', h6, h2, h3, h4, fun j hj hj' => h5 j ((hL j).2 (.inl hj)) hj'⟩
      · subst h6
        rw [hd] at h2
        exact absurd h2 hdt
    · exact .inr ⟨fun j hj hj' => h1 j ((hL j).2 (.inl hj)) hj', h2⟩
theorem put_vals {i : Nat} {o : Oper} {r : Rk} {ρ' : Ren} {x : Value} (hk : chk ops = true) (hc : Closed ops L) (hr : Rdy ops L i o) (hri : rs[i]? = some r) (hL : ∀ j, L' j = true ↔ L j = true ∨ j = i)
    (hd : ∀ d, o.dst = some d → d < nt) (hs : a.tmps.size = nt) (hv : ∀ t v, Val ops env0 rs L t v → ∃ x, a.tmps[t]? = some x ∧ VR ρ v x) (hm : ∀ n p, ρ n = some p → ρ' n = some p) (hx : VR ρ' r.res x) :
    ∀ t v, Val ops env0 rs L' t v → ∃ y, (a.put o.dst x).tmps[t]? = some y ∧ VR ρ' v y := by
  intro t v h
  rcases val_step hk hc hr hri hL h with ⟨h1, rfl⟩ | ⟨h1, h2⟩
  · have hlt := hd t h1
    refine ⟨x, ?_, hx⟩
    rw [h1]
    simp [Act.put, hs, hlt]
  · obtain ⟨y, hy, hyr⟩ := hv t v h2
    refine ⟨y, ?_, hyr.mono hm⟩
    cases hod : o.dst with
    | none => exact hy
    | some d =>
      have : d ≠ t := fun he => h1 (by rw [hod, he])
      simp [Act.put, this, hy]
omit [Nums] in
theorem put_size {o : Option Tmp} {x : Value} : (a.put o x).tmps.size = a.tmps.size := by
  cases o <;> simp [Act.put]
omit [Nums] in
theorem put_defers {o : Option Tmp} {x : Value} : (a.put o x).defers = a.defers := by
  cases o <;> rfl
omit [Nums] in
theorem closed_more {i : Nat} {o : Oper} (hc : Closed ops L) (hr : Rdy ops L i o) (hL : ∀ j, L' j = true ↔ L j = true ∨ j = i) : Closed ops L' := by
  intro k q hq hk e he hb
  rw [hL] at hk ⊢
  rcases hk with hk | rfl
  · exact .inl (hc k q hq hk e he hb)
  · rw [hr.op] at hq
    cases hq
    exact .inl (hr.pre e he hb)
/-- an operation that leaves memory as it is -/
theorem AI.still (hI : AI ds nt ops env0 h rs ρ0 w0 L lam ρ w a) {i : Nat} {o : Oper} {r : Rk} {x : Value} (hk : Ex.chk ops = true) (hr : Rdy ops L i o) (hri : rs[i]? = some r) (hL : ∀ j, L' j = true ↔ L j = true ∨ j = i) (hd : ∀ d, o.dst = some d → d < nt)
    (hnl : isL r = false) (hna : ∀ ao v, r ≠ .alloc ao v) (hx : VR ρ r.res x) : AI ds nt ops env0 h rs ρ0 w0 L' lam ρ w (a.put o.dst x) := by
  have hne : ∀ {q : Nat} {r' : Rk}, rs[q]? = some r' → r' ≠ r → q ≠ i := fun h1 h2 he => by
    subst he
    rw [hri] at h1
    cases h1
    exact h2 rfl
  refine ⟨closed_more hI.cl hr hL, fun j hj => ?_, hI.lam0, fun q u g hq => ?_, ?_, hI.nx, fun j hj hn => hI.nm j hj ?_, hI.mask, by rw [put_defers]; exact hI.dz, by rw [put_size]; exact hI.size, put_vals hk hI.cl hr hri hL hd hI.size hI.val (fun _ _ h => h) hx⟩
  · rcases (hL j).1 hj with h1 | rfl
    · exact hI.lt j h1
    · exact (Array.getElem?_eq_some_iff.1 hr.op).1
  · rw [← hI.loud q u g hq, hL]
    have : q ≠ i := hne hq (fun he => by subst he; cases hnl)
    simp [this]
  · rw [gF_congr (L := L) (C := consAt ops rs lam) (fun q ao v hq => ?_) (fun _ => rfl)]
    · exact hI.st
    · have : q ≠ i := hne hq (fun he => hna ao v he.symm)
      have := hL q
      cases h1 : L q <;> cases h2 : L' q <;> simp_all
  · cases h1 : L j with
    | false => rfl
    | true => rw [(hL j).2 (.inl h1)] at hn; cases hn
theorem AI.view (hI : AI ds nt ops env0 h rs ρ0 w0 L lam ρ w a) {i : Nat} {o : Oper} (hr : Rdy ops L i o) (hal : ∀ a ao, (a, ao) ∈ al → ∃ v, rs[a]? = some (.alloc ao v)) {r : Rk} (hri : rs[i]? = some r) (hna : ∀ ao v, r ≠ .alloc ao v)
    {see : Nat → Bool} (hsee : ∀ a, see a = true → ahead (bf ops) a i = true ∧ consAt ops rs lam a = false) {m : Nat} {x : AO} (hm : (overlay h.next see al (mainAt ops h rs lam)).get m = some x) :
    gF h.next rs L (consAt ops rs lam) (mainAt ops h rs lam) m = some x := by
  rcases overlay_spec hm with ⟨q, h1, h2, rfl⟩ | h1
  · obtain ⟨v, hq⟩ := hal _ _ h2
    obtain ⟨h3, h4⟩ := hsee q h1
    have hne : q ≠ i := fun he => by subst he; rw [hri] at hq; cases hq; exact hna _ _ rfl
    exact gF_alloc hq (Rdy.ahead hI.cl h3 hr hne) h4
  · refine gF_main h1 fun q ao v he hq hLq => ?_
    subst he
    exact hI.mask q (hI.lt q hLq) (by rw [h1]; rfl)
end
end
end Go.Proofs.YtfgomgodfcdijaaGreatDoor.Ex

/-
  The runner: a region that draws its order (the end). No condition.
-/
namespace Go.Proofs.YtfgomgodfcdijaaGreatDoor.Ex
open Go
noncomputable section
variable [Nums]
section
variable {P : Program} {call : FuncId → List AV → AH → Option (AV × AH)} {nt : Nat} {ops : Array Oper} {env0 : T AV} {h : AH} {rs : List Rk} {al : List (Nat × AO)}
variable {ds : List Deferred} {ρ0 ρ : Ren} {w0 w : World} {L L' : Nat → Bool} {lam : Nat} {a : Act}
omit [Nums] in
theorem more_at {i : Nat} (hL : ∀ j, L' j = true ↔ L j = true ∨ j = i) {q : Nat} (h : q ≠ i) : L' q = L q := by
  have := hL q
  cases h1 : L q <;> cases h2 : L' q <;> simp_all
/-- an operation that makes a block -/
theorem AI.alloc (hI : AI ds nt ops env0 h rs ρ0 w0 L lam ρ w a) {i : Nat} {o : Oper} {ao : AO} {v : AV} {x : Value} {obj : Obj} {s : Nat} (hk : Ex.chk ops = true) (hr : Rdy ops L i o) (hri : rs[i]? = some (.alloc ao v)) (hL : ∀ j, L' j = true ↔ L j = true ∨ j = i) (hd : ∀ d, o.dst = some d → d < nt)
    (hO : OR ρ ao s (some obj)) (hx : ∀ ρ' : Ren, ρ' (h.next + i) = some (w.heap.size, s) → VR ρ' v x) : AI ds nt ops env0 h rs ρ0 w0 L' lam (upd ρ (h.next + i) (w.heap.size, s)) (w.alloc obj) (a.put o.dst x) := by
  have hi : i < ops.size := (Array.getElem?_eq_some_iff.1 hr.op).1
  have hCi : consAt ops rs lam i = false := by
    cases hc : consAt ops rs lam i with
    | false => rfl
    | true =>
      obtain ⟨l, u, g, h1, h2, h3⟩ := consAt_iff.1 hc
      have := ahead_dep h3 hI.cl ((hI.loud l u g h2).2 h1)
      rw [hr.no] at this
      cases this
  have hnl : ∀ {q : Nat} {u : AV} {g : AH}, rs[q]? = some (.loud u g) → q ≠ i := fun hq he => by
    subst he
    rw [hri] at hq
    cases hq
  obtain ⟨hst, hm⟩ := Stp.kept (w' := w.alloc obj) (g' := gF h.next rs L' (consAt ops rs lam) (mainAt ops h rs lam)) hI.st (h.next + i) (hI.nm i hi hr.no) (by omega) (by have := hI.nx; omega) hO rfl rfl rfl rfl (fun m o' hm => by
    rcases gF_cases hm with ⟨q, u, rfl, h1, h2, h3⟩ | ⟨h1, h2⟩
    · by_cases hq : q = i
      · subst hq
        rw [hri] at h1
        cases h1
        exact .inl ⟨rfl, rfl⟩
      · exact .inr ⟨by omega, gF_alloc h1 (by rw [← more_at hL hq]; exact h2) h3⟩
    · by_cases hmi : m = h.next + i
      · have := h2 i ao v hmi hri ((hL i).2 (.inr rfl))
        rw [hCi] at this
        cases this
      · refine .inr ⟨hmi, gF_main h1 fun q ao' v' he hq hLq => h2 q ao' v' he hq ((hL q).2 (.inl hLq))⟩)
  have hup : upd ρ (h.next + i) (w.heap.size, s) (h.next + i) = some (w.heap.size, s) := by simp [upd]
  refine ⟨closed_more hI.cl hr hL, fun j hj => ?_, hI.lam0, fun q u g hq => ?_, hst, hI.nx, fun j hj hn => ?_, hI.mask, by rw [put_defers]; exact hI.dz, by rw [put_size]; exact hI.size,
    put_vals hk hI.cl hr hri hL hd hI.size hI.val hm (hx _ hup)⟩
  · rcases (hL j).1 hj with h1 | rfl
    · exact hI.lt j h1
    · exact hi
  · rw [← hI.loud q u g hq, more_at hL (hnl hq)]
  · have hji : j ≠ i := fun he => by
      subst he
      rw [(hL j).2 (.inr rfl)] at hn
      cases hn
    rw [more_at hL hji] at hn
    unfold upd
    rw [if_neg (by omega)]
    exact hI.nm j hj hn
omit [Nums] in
theorem isLoud_of {o : Oper} (h : kd o.op = .loud) : isLoud o = true := by unfold isLoud; rw [h]
/-- no loud operation stands between the last one that is done and the next one -/
theorem Reg.gap (hR : Reg P call nt ops env0 h rs al) (hI : AI ds nt ops env0 h rs ρ0 w0 L lam ρ w a) {i : Nat} {o : Oper} (hr : Rdy ops L i o) (hko : kd o.op = .loud) {l : Nat} {u : AV} {g : AH} (hl : rs[l]? = some (.loud u g)) (hli : l < i) : l < lam := by
  have hlt : l < rs.length := (List.getElem?_eq_some_iff.1 hl).1
  obtain ⟨q, hq⟩ : ∃ q, ops[l]? = some q := ⟨_, Array.getElem?_eq_getElem (by rw [← hR.len]; exact hlt)⟩
  have hql : isLoud q = true := by
    obtain ⟨env, h1, cons, al', _, _, hf⟩ := hR.fact l _ q hl hq
    rcases hf with ⟨_, h2⟩ | ⟨_, vs, _, h2⟩
    · cases h2
    · unfold KF at h2
      unfold isLoud
      split at h2
      · obtain ⟨_, _, h3⟩ := h2; cases h3
      · obtain ⟨_, h3⟩ := h2; cases h3
      · obtain ⟨_, _, _, h3⟩ := h2; cases h3
      · rename_i hk; rw [hk]
  have := (chk_ord hR.chk hr.op hq (by omega) (.inr ⟨isLoud_of hko, hql⟩)).1 hli
  exact (hI.loud l u g hl).1 (Rdy.ahead hI.cl this hr (by omega))
theorem Reg.main_eq (hR : Reg P call nt ops env0 h rs al) (hI : AI ds nt ops env0 h rs ρ0 w0 L lam ρ w a) {i : Nat} {o : Oper} (hr : Rdy ops L i o) (hko : kd o.op = .loud) (hle : lam ≤ i) :
    heapOf (h.skip ops.size) (rs.take i) = mainAt ops h rs lam := by
  have hs : rs.take i = rs.take lam ++ (rs.drop lam).take (i - lam) := by
    rw [← List.take_add, show lam + (i - lam) = i from by omega]
  rw [hs, heapOf_append, heapOf_none]
  · rfl
  · intro r hmem
    obtain ⟨k, hk⟩ := List.mem_iff_getElem?.1 hmem
    obtain ⟨h1, h2⟩ := take_get.1 hk
    rw [List.getElem?_drop] at h2
    cases r with
    | loud u g =>
      have := hR.gap hI hr hko h2 (by omega)
      omega
    | _ => rfl
/-- a loud operation -/
theorem AI.loudOp (hR : Reg P call nt ops env0 h rs al) (hI : AI ds nt ops env0 h rs ρ0 w0 L lam ρ w a) {i : Nat} {o : Oper} {v : AV} {H' V : AH} {x : Value} {ρ' : Ren} {w' : World} (hr : Rdy ops L i o) (hko : kd o.op = .loud) (hri : rs[i]? = some (.loud v H')) (hL : ∀ j, L' j = true ↔ L j = true ∨ j = i) (hd : ∀ d, o.dst = some d → d < nt)
    (hVn : V.next = (mainAt ops h rs lam).next) (hV : ∀ m o', V.get m = some o' → (∃ q, ahead (bf ops) q i = true ∧ consAt ops rs lam q = false ∧ m = h.next + q ∧ ∃ u, rs[q]? = some (.alloc o' u)) ∨ (mainAt ops h rs lam).get m = some o')
    (hVi : ∀ m o', V.get m = some o' → gF h.next rs L (consAt ops rs lam) (mainAt ops h rs lam) m = some o')
    (hst : Stp ρ V.get V.next w ρ' H'.get H'.next w') (hx : VR ρ' v x) : AI ds nt ops env0 h rs ρ0 w0 L' (i + 1) ρ' w' (a.put o.dst x) := by
  have hi : i < ops.size := (Array.getElem?_eq_some_iff.1 hr.op).1
  have hli : lam ≤ i := by
    rcases Nat.lt_or_ge i lam with h1 | h1
    · have := (hI.loud i v H' hri).2 h1
      rw [hr.no] at this
      cases this
    · exact h1
  have hmain' : mainAt ops h rs (i + 1) = H' := by
    unfold mainAt
    have hlt := (List.getElem?_eq_some_iff.1 hri).1
    have hri' : rs[i] = .loud v H' := (List.getElem?_eq_some_iff.1 hri).2
    rw [List.take_succ_eq_append_getElem hlt, heapOf_append, hri']
    rfl
  have hmono : ∀ q, consAt ops rs lam q = true → consAt ops rs (i + 1) q = true := fun q hq => by
    obtain ⟨l, u, g, h1, h2, h3⟩ := consAt_iff.1 hq
    exact consAt_iff.2 ⟨l, u, g, by omega, h2, h3⟩
  have hmono' : ∀ q, ahead (bf ops) q i = true → consAt ops rs (i + 1) q = true := fun q hq => consAt_iff.2 ⟨i, v, H', by omega, hri, hq⟩
  have hcons' : ∀ q, consAt ops rs (i + 1) q = true → consAt ops rs lam q = true ∨ ahead (bf ops) q i = true := fun q hq => by
    obtain ⟨l, u, g, h1, h2, h3⟩ := consAt_iff.1 hq
    rcases Nat.lt_or_ge l i with h4 | h4
    · exact .inl (consAt_iff.2 ⟨l, u, g, hR.gap hI hr hko h2 h4, h2, h3⟩)
    · have : l = i := by omega
      subst this
      exact .inr h3
  have hst' : Stp ρ (gF h.next rs L (consAt ops rs lam) (mainAt ops h rs lam)) (mainAt ops h rs lam).next w ρ' (gF h.next rs L' (consAt ops rs (i + 1)) H') H'.next w' := by
    rw [hVn] at hst
    refine Stp.frame hI.st.hr hVi hst _ fun m o' hm => ?_
    rcases gF_cases hm with ⟨q, u, rfl, h1, h2, h3⟩ | ⟨h1, h2⟩
    · left
      have hqi : q ≠ i := fun he => by subst he; rw [hri] at h1; cases h1
      have hq0 : consAt ops rs lam q = false := by
        cases hc : consAt ops rs lam q with
        | false => rfl
        | true => rw [hmono q hc] at h3; cases h3
      refine ⟨gF_alloc h1 (by rw [← more_at hL hqi]; exact h2) hq0, ?_⟩
      cases hg : V.get (h.next + q) with
      | none => rfl
      | some o2 =>
        rcases hV _ _ hg with ⟨q', h4, _, h5, _⟩ | h4
        · have : q' = q := by omega
          subst this
          rw [hmono' _ h4] at h3
          cases h3
        · have := hI.mask q (by rw [← hR.len]; exact (List.getElem?_eq_some_iff.1 h1).1) (by rw [h4]; rfl)
          rw [hq0] at this
          cases this
    · exact .inr h1
  have hgr := hst.gr
  rw [hVn] at hgr
  have hnx : h.next + ops.size ≤ H'.next := Nat.le_trans hI.nx hgr
  refine ⟨closed_more hI.cl hr hL, fun j hj => ?_, .inr ⟨i, v, H', rfl, hri⟩, fun q u g hq => ?_, by rw [hmain']; exact hI.st.trans hst', by rw [hmain']; exact hnx, fun j hj hn => ?_, fun j hj hm => ?_, by rw [put_defers]; exact hI.dz, by rw [put_size]; exact hI.size,
    put_vals hR.chk hI.cl hr hri hL hd hI.size hI.val (Stp.mono hI.st.hr hst') hx⟩
  · rcases (hL j).1 hj with h1 | rfl
    · exact hI.lt j h1
    · exact hi
  · rw [hL, hI.loud q u g hq]
    constructor
    · rintro (h1 | rfl) <;> omega
    · intro h1
      rcases Nat.lt_or_ge q i with h2 | h2
      · exact .inl (hR.gap hI hr hko hq h2)
      · exact .inr (by omega)
  · have hjL : L j = false := by
      cases h1 : L j with
      | false => rfl
      | true => rw [(hL j).2 (.inl h1)] at hn; cases hn
    rw [hst'.ext (h.next + j) (by have := hI.nx; omega)]
    exact hI.nm j hj hjL
  · rw [hmain'] at hm
    have := hst.dom (h.next + j) (by rw [hVn]; have := hI.nx; omega) hm
    obtain ⟨o2, ho2⟩ := Option.isSome_iff_exists.1 this
    rcases hV _ _ ho2 with ⟨q', h4, _, h5, _⟩ | h4
    · have : q' = j := by omega
      subst this
      exact hmono' _ h4
    · exact hmono _ (hI.mask j hj (by rw [h4]; rfl))
/-- one operation that may come next -/
theorem Reg.step (hR : Reg P call nt ops env0 h rs al) (hc : CallS P call) (hI : AI ds nt ops env0 h rs ρ0 w0 L lam ρ w a) {i : Nat} {o : Oper} (hr : Rdy ops L i o) (hL : ∀ j, L' j = true ↔ L j = true ∨ j = i) {Q : Exit → Act → World → Prop} {K : Act → World → Prop}
    (hK : ∀ lam' ρ' w' a', AI ds nt ops env0 h rs ρ0 w0 L' lam' ρ' w' a' → K a' w') : wpOp P ops Q i K a w := by
  have hi : i < ops.size := (Array.getElem?_eq_some_iff.1 hr.op).1
  obtain ⟨r, hri⟩ : ∃ r, rs[i]? = some r := ⟨_, List.getElem?_eq_getElem (by rw [hR.len]; exact hi)⟩
  obtain ⟨env, h1, cons, al', hInv, hd, hf⟩ := hR.fact i r o hri hr.op
  have hlen : (rs.take i).length = i := by rw [List.length_take, Nat.min_eq_left (by rw [hR.len]; omega)]
  have hpre : ∀ k, k < i → (rs.take i)[k]? = rs[k]? := fun k hk => by rw [List.getElem?_take, if_pos hk]
  have hvals : ∀ {env : T AV}, (∀ t v, env.get t = some v → Val ops env0 rs (below i) t v) → ∀ t v, t ∈ looks ops o → env.get t = some v → ∃ x, a.tmps[t]? = some x ∧ VR ρ v x := fun he t v ht hg => hI.val t v (Rdy.val hR.chk hI.cl hr ht (he t v hg))
  have henv : ∀ t v, env.get t = some v → Val ops env0 rs (below i) t v := fun t v hv => by
    have := hInv.env t v hv
    rw [hlen] at this
    exact this.ext hpre
  unfold wpOp
  rw [hr.op]
  dsimp only
  rcases hf with ⟨hg, rfl⟩ | ⟨hg, vs, hvs, hkf⟩
  · have hw := guard_rel (ρ := ρ) (a := a) (fun t v ht => hvals henv t v (looks_of ht)) hg
    rw [hw]
    simp only [Bool.false_eq_true, if_false]
    exact hK lam ρ w _ (AI.still hI hR.chk hr hri hL hd rfl (by intro _ _ h; cases h) (by unfold Rk.res und VR; exact ⟨#[], rfl, VRs.nil⟩))
  · have hw := guard_rel (ρ := ρ) (a := a) (fun t v ht => hvals henv t v (looks_of ht)) hg
    rw [hw]
    simp only [if_true]
    left
    have hv : VRs ρ vs (o.op.operands.toList.map a.eval) := evs_rel (fun t v ht => hvals henv t v (looks_of (tmp_looks ht))) hvs
    unfold KF at hkf
    split at hkf
    · obtain ⟨v, hp, rfl⟩ := hkf
      obtain ⟨x, hx, hrun⟩ := pure_sound hp hv
      unfold Oper.wp
      rw [hrun w]
      exact hK lam ρ w _ (AI.still hI hR.chk hr hri hL hd rfl (by intro _ _ h; cases h) hx)
    · rename_i hkd
      obtain ⟨v, rfl⟩ := hkf
      obtain ⟨env2, vs2, henv2, hvs2, hsame⟩ := hR.read i v o hri hr.op hkd
      have hv2 : VRs ρ vs2 (o.op.operands.toList.map a.eval) := evs_rel (fun t v ht => hvals henv2 t v (looks_of (tmp_looks ht))) hvs2
      have hmay : mayAt (bf ops) i lam 0 rs = true := by
        refine mayAt_ok fun k u g hk => ?_
        rw [Nat.zero_add]
        have hki : k ≠ i := fun he => by subst he; rw [hri] at hk; cases hk
        refine ⟨fun hlt => ?_, fun hge => ?_⟩
        · cases ha : ahead (bf ops) i k with
          | false => rfl
          | true =>
            have := ahead_dep ha hI.cl ((hI.loud k u g hk).2 hlt)
            rw [hr.no] at this
            cases this
        · cases ha : ahead (bf ops) k i with
          | false => rfl
          | true =>
            have := (hI.loud k u g hk).1 (Rdy.ahead hI.cl ha hr hki)
            omega
      obtain ⟨c, hcb, hread⟩ := sameAll_spec hsame lam hI.lam0 hmay
      have hcc : ∀ q, c.testBit q = consAt ops rs lam q := fun q => by
        have := hcb q
        rw [← consB_P] at this
        unfold consAt
        cases h1 : c.testBit q <;> cases h2 : consB (bf ops) q 0 (rs.take lam) <;> simp_all
      obtain ⟨x, hx, hrun⟩ := read_sound (nx := (mainAt ops h rs lam).next) (w := w) (HR.sub hI.st.hr fun m o' hm => by
        refine AI.view hI (al := al) hr (fun q ao hq => (hR.al q ao).1 hq) hri (by intro _ _ h; cases h) (fun q hq => ?_) hm
        rw [Bool.and_eq_true] at hq
        refine ⟨hq.1, ?_⟩
        have := hq.2
        rw [hcc] at this
        simpa using this) hread hv2
      unfold Oper.wp
      rw [hrun]
      exact hK lam ρ w _ (AI.still hI hR.chk hr hri hL hd rfl (by intro _ _ h; cases h) hx)
    · obtain ⟨ao, k, ha, rfl⟩ := hkf
      obtain ⟨obj, s, hO, hrun⟩ := alloc_sound ha hv
      obtain ⟨x, hrx, hx⟩ := hrun w
      unfold Oper.wp
      rw [hrx]
      exact hK lam _ _ _ (AI.alloc hI hR.chk hr hri hL hd hO fun ρ' hp => hx ρ' _ hp)
    · rename_i hkd
      obtain ⟨v, H', rfl, hop⟩ := hkf
      have hli : lam ≤ i := by
        rcases Nat.lt_or_ge i lam with h1 | h1
        · have := (hI.loud i v H' hri).2 h1
          rw [hr.no] at this
          cases this
        · exact h1
      have hmain : h1 = mainAt ops h rs lam := by rw [hInv.heap, hR.main_eq hI hr hkd hli]
      have hcons : ∀ q, cons.testBit q = consAt ops rs lam q := fun q => by
        have h2 : cons.testBit q = true ↔ consAt ops rs lam q = true := by
          rw [hInv.cons, consAt_iff]
          constructor
          · rintro ⟨l, u, g, h3, h4⟩
            obtain ⟨h5, h6⟩ := take_get.1 h3
            exact ⟨l, u, g, hR.gap hI hr hkd h6 h5, h6, h4⟩
          · rintro ⟨l, u, g, h3, h4, h5⟩
            exact ⟨l, u, g, take_get.2 ⟨by omega, h4⟩, h5⟩
        cases h3 : cons.testBit q <;> cases h4 : consAt ops rs lam q <;> simp_all
      have hal' : ∀ q ao, (q, ao) ∈ al' → ∃ u, rs[q]? = some (.alloc ao u) := fun q ao hq => by
        obtain ⟨u, hu⟩ := (hInv.al q ao).1 hq
        exact ⟨u, (take_get.1 hu).2⟩
      rw [hmain] at hop
      have hview : ∀ m o', (overlay h.next (fun q => ahead (bf ops) q i && !(cons.testBit q)) al' (mainAt ops h rs lam)).get m = some o' → gF h.next rs L (consAt ops rs lam) (mainAt ops h rs lam) m = some o' := fun m o' hm => by
        refine AI.view hI (al := al') hr hal' hri (by intro _ _ h; cases h) (fun q hq => ?_) hm
        rw [Bool.and_eq_true] at hq
        refine ⟨hq.1, ?_⟩
        have := hq.2
        rw [hcons] at this
        simpa using this
      refine loudOp_wp hc hkd hop (HR.sub (by rw [overlay_next]; exact hI.st.hr) hview) hv fun ρ' x w' hst hx => ?_
      refine hK (i + 1) ρ' w' _ (AI.loudOp hR hI hr hkd hri hL hd overlay_next (fun m o' hm => ?_) hview hst hx)
      rcases overlay_spec hm with ⟨q, h2, h3, rfl⟩ | h2
      · left
        rw [Bool.and_eq_true] at h2
        obtain ⟨u, hu⟩ := hal' _ _ h3
        refine ⟨q, h2.1, ?_, rfl, u, hu⟩
        have := h2.2
        rw [hcons] at this
        simpa using this
      · exact .inr h2
end
end
end Go.Proofs.YtfgomgodfcdijaaGreatDoor.Ex
