import Derived.Test.YtcbljokbechppaaGreatDoorBkFilE
/-
  Tasks that fill from a shelf, by phases: plain. No condition.
-/
namespace Go.Proofs.YtcbljokbechppaaGreatDoor.Fil
open See
inductive Ph where
  | p30
  | p31
  | p34
  | p35
  | p36
  | page
  | p37 (s : Nat)
  | p38 (s : Nat)
  | p39 (s : Nat)
  | p46 (s : Nat)
  | p47 (s : Nat)
  | p48 (s : Nat)
  | p49 (s : Nat)
  | p40 (s : Nat)
  | p41 (s : Nat)
  | p42 (s : Nat)
  | fin (s : Nat)
def kwF (s : Nat) : Nat := packN (5 - own s) 5 false true
def nextF (k s : Nat) : Nat := if s + 1 < k then s + 2 else 0
/-- a task's cells -/
def recP (k j : Nat) : Ph → List Int
  | .p30 => taskL j 30 0 0 0 0 0 0 0 0 0
  | .p31 => taskL j 31 0 0 0 0 0 0 0 0 0
  | .p34 => taskL j 34 0 0 0 0 0 0 0 0 0
  | .p35 => taskL j 35 0 0 0 0 0 0 0 0 0
  | .p36 => taskL j 36 0 0 0 0 0 0 0 0 0
  | .page => taskL j 43 0 1 0 0 0 0 0 0 0
  | .p37 s => taskL j 37 0 0 s 0 0 0 0 (s + 1) 0
  | .p38 s => taskL j 38 0 0 s 0 0 1 0 (s + 1) 0
  | .p39 s => taskL j 39 0 0 s 0 0 1 (kwF s) (s + 1) 0
  | .p46 s => taskL j 46 0 0 s 0 0 1 (kwF s) (s + 1) 0
  | .p47 s => taskL j 47 0 0 s 0 0 1 (kwF s) (nextF k s) 0
  | .p48 s => taskL j 48 0 0 s 0 0 1 (kwF s) (nextF k s) 0
  | .p49 s => taskL j 49 0 0 s 0 0 1 (kwF s) (nextF k s) 0
  | .p40 s => taskL j 40 0 0 s 0 0 1 (kwF s) (nextF k s) 0
  | .p41 s => taskL j 41 0 0 s 0 0 1 (kwF s) (nextF k s) (lastI s)
  | .p42 s => taskL j 42 0 0 s 0 0 1 (kwF s) (nextF k s) (lastI s)
  | .fin s => taskL j 42 1 0 s 0 0 1 (kwF s) (nextF k s) (lastI s)
def putN (f : Nat → Nat) (j x : Nat) : Nat → Nat := fun i => if i = j then x else f i
/-- a step -/
def stepF (k : Nat) (m : Mf) (j : Nat) : Ph → Ph × Mf
  | .p30 => (.p31, m)
  | .p31 => (.p34, m)
  | .p34 => if m.lk = 0 then (.p35, { m with lk := 1 }) else (.p34, m)
  | .p35 => if m.tk < k then (.p37 m.tk, m) else (.p36, m)
  | .p36 => (.page, { m with lk := 0 })
  | .page => (.page, m)
  | .p37 s => (.p38 s, m)
  | .p38 s => (.p39 s, m)
  | .p39 s => (.p46 s, { m with cut := s + 1 })
  | .p46 s => (.p47 s, m)
  | .p47 s => (.p48 s, { m with tk := s + 1 })
  | .p48 s => (.p49 s, { m with hd := m.hd - 1 })
  | .p49 s => (.p40 s, { m with lk := 0 })
  | .p40 s => (.p41 s, m)
  | .p41 s => (.p42 s, m)
  | .p42 s => (.fin s, { m with head := putN m.head j (headW s (lastI s)), turn := putN m.turn j 1 })
  | .fin s => (.fin s, m)
/-- nothing more to do -/
def Ph.idle : Ph → Bool
  | .page => true
  | .fin _ => true
  | _ => false
/-- has the lock -/
def Ph.holds : Ph → Bool
  | .p35 => true
  | .p36 => true
  | .p37 _ => true
  | .p38 _ => true
  | .p39 _ => true
  | .p46 _ => true
  | .p47 _ => true
  | .p48 _ => true
  | .p49 _ => true
  | _ => false
/-- what is so while somebody has it: cut, held -/
def Ph.hold (k : Nat) (m : Mf) : Ph → Prop
  | .p35 => m.cut = m.tk ∧ m.hd = k - m.tk
  | .p36 => m.cut = m.tk ∧ m.hd = k - m.tk
  | .p37 _ => m.cut = m.tk ∧ m.hd = k - m.tk
  | .p38 _ => m.cut = m.tk ∧ m.hd = k - m.tk
  | .p39 _ => m.cut = m.tk ∧ m.hd = k - m.tk
  | .p46 _ => m.cut = m.tk + 1 ∧ m.hd = k - m.tk
  | .p47 _ => m.cut = m.tk + 1 ∧ m.hd = k - m.tk
  | .p48 _ => m.cut = m.tk ∧ m.hd = k - m.tk + 1
  | .p49 _ => m.cut = m.tk ∧ m.hd = k - m.tk
  | _ => True
/-- what is so of a task alone -/
def Ph.ok (k : Nat) (m : Mf) : Ph → Prop
  | .p36 => m.tk = k
  | .page => m.tk = k
  | .p37 s => s = m.tk ∧ s < k
  | .p38 s => s = m.tk ∧ s < k
  | .p39 s => s = m.tk ∧ s < k
  | .p46 s => s = m.tk ∧ s < k
  | .p47 s => s = m.tk ∧ s < k
  | .p48 s => s + 1 = m.tk
  | .p49 s => s + 1 = m.tk
  | .p40 s => s < m.tk
  | .p41 s => s < m.tk
  | .p42 s => s < m.tk
  | .fin s => s < m.tk
  | _ => True
/-- the slab that it has taken off the shelf -/
def Ph.took : Ph → Option Nat
  | .p48 s => some s
  | .p49 s => some s
  | .p40 s => some s
  | .p41 s => some s
  | .p42 s => some s
  | .fin s => some s
  | _ => none
def Ph.headN : Ph → Nat
  | .fin s => headW s (lastI s)
  | _ => 0
def Ph.turnN : Ph → Nat
  | .fin _ => 1
  | _ => 0
structure InvF (n k : Nat) (m : Mf) (ps : List Ph) : Prop where
  len : ps.length = n
  tk : m.tk ≤ k
  lk : m.lk = 0 ∨ m.lk = 1
  free : m.lk = 0 → m.cut = m.tk ∧ m.hd = k - m.tk
  held : m.lk = 1 → ∃ (j : Nat) (p : Ph), ps[j]? = some p ∧ p.holds = true
  hold : ∀ (j : Nat) (p : Ph), ps[j]? = some p → p.holds = true → m.lk = 1 ∧ p.hold k m
  one : ∀ (i j : Nat) (p q : Ph), ps[i]? = some p → ps[j]? = some q → p.holds = true → q.holds = true → i = j
  ok : ∀ (j : Nat) (p : Ph), ps[j]? = some p → p.ok k m
  apart : ∀ (i j : Nat) (p q : Ph) (s : Nat), ps[i]? = some p → ps[j]? = some q → p.took = some s → q.took = some s → i = j
  count : ps.countP (fun p => p.took.isSome) = m.tk
  head : ∀ (j : Nat) (p : Ph), ps[j]? = some p → m.head j = p.headN ∧ m.turn j = p.turnN
section
variable {n k : Nat} {m : Mf} {ps : List Ph} {j : Nat} {p : Ph}
theorem set_at {p' : Ph} {i : Nat} {q : Ph} (hj : j < ps.length) : (ps.set j p')[i]? = some q → (i = j ∧ q = p') ∨ (i ≠ j ∧ ps[i]? = some q) := by
  intro h
  rw [List.getElem?_set] at h
  by_cases hij : j = i
  · subst hij
    rw [if_pos rfl, if_pos hj] at h
    cases h
    exact .inl ⟨rfl, rfl⟩
  · rw [if_neg hij] at h
    exact .inr ⟨fun h => hij h.symm, h⟩
theorem countP_set' {f : Ph → Bool} {p' : Ph} : ∀ {ps : List Ph} {j : Nat}, ps[j]? = some p → (ps.set j p').countP f + (if f p then 1 else 0) = ps.countP f + (if f p' then 1 else 0)
  | [], _, h => by simp at h
  | q :: ps, 0, h => by
    simp only [List.getElem?_cons_zero, Option.some.injEq] at h
    subst h
    simp only [List.set_cons_zero, List.countP_cons]
    omega
  | q :: ps, j + 1, h => by
    have := countP_set' (f := f) (p' := p') (ps := ps) (j := j) (by simpa using h)
    simp only [List.set_cons_succ, List.countP_cons]
    omega
theorem took_lt {q : Ph} {s : Nat} (ho : q.ok k m) (ht : q.took = some s) : s < m.tk := by
  cases q <;> simp [Ph.took] at ht <;> subst ht <;> simp only [Ph.ok] at ho <;> omega
theorem InvF.upd (h : InvF n k m ps) (hj : ps[j]? = some p) {p' : Ph} {m' : Mf} (htk : m'.tk ≤ k) (hlk : m'.lk = 0 ∨ m'.lk = 1) (hfree : m'.lk = 0 → m'.cut = m'.tk ∧ m'.hd = k - m'.tk)
    (hother : p.holds = false → ∀ q : Ph, q.holds = true → q.hold k m → m.lk = 1 → m'.lk = 1 ∧ q.hold k m') (hnew : p'.holds = true → (m'.lk = 1 ∧ p'.hold k m') ∧ (p.holds = true ∨ m.lk = 0))
    (hheld : m'.lk = 1 → p'.holds = true ∨ (p.holds = false ∧ m.lk = 1)) (hok' : p'.ok k m') (hokq : ∀ q : Ph, (p.holds = true → q.holds = false) → q.ok k m → q.ok k m')
    (htook : p'.took = p.took ∨ ∃ s, p.took = none ∧ p'.took = some s ∧ m.tk ≤ s) (hcount : m'.tk + (if p.took.isSome then 1 else 0) = m.tk + (if p'.took.isSome then 1 else 0))
    (hhead : m'.head j = p'.headN ∧ m'.turn j = p'.turnN) (hheadq : ∀ i, i ≠ j → m'.head i = m.head i ∧ m'.turn i = m.turn i) : InvF n k m' (ps.set j p') := by
  have hjl := (List.getElem?_eq_some_iff.1 hj).1
  have key : ∀ (i : Nat) (q : Ph), i ≠ j → ps[i]? = some q → p.holds = true → q.holds = false := fun i q hij hi hp => by
    cases hq : q.holds with
    | false => rfl
    | true => exact absurd (h.one i j q p hi hj hq hp) hij
  have hold' : ∀ (i : Nat) (q : Ph), i ≠ j → ps[i]? = some q → q.holds = true → m'.lk = 1 ∧ q.hold k m' := fun i q hij hi hq => by
    cases hp : p.holds with
    | true => rw [key i q hij hi hp] at hq; cases hq
    | false =>
      obtain ⟨h1, h2⟩ := h.hold i q hi hq
      exact hother hp q hq h2 h1
  refine ⟨by rw [List.length_set]; exact h.len, htk, hlk, hfree, fun h1 => ?_, fun i q hi hq => ?_, fun i i' q q' hi hi' hq hq' => ?_, fun i q hi => ?_, fun i i' q q' s hi hi' hq hq' => ?_, ?_, fun i q hi => ?_⟩
  · rcases hheld h1 with h2 | ⟨h2, h3⟩
    · exact ⟨j, p', List.getElem?_set_self hjl, h2⟩
    · obtain ⟨i, q, hi, hq⟩ := h.held h3
      have hij : j ≠ i := fun e => by
        subst e
        rw [hj] at hi
        cases hi
        rw [h2] at hq
        cases hq
      exact ⟨i, q, by rw [List.getElem?_set, if_neg hij]; exact hi, hq⟩
  · rcases set_at hjl hi with ⟨rfl, rfl⟩ | ⟨hij, hi⟩
    · exact (hnew hq).1
    · exact hold' i q hij hi hq
  · have no : ∀ (i : Nat) (q : Ph), i ≠ j → ps[i]? = some q → q.holds = true → p'.holds = true → False := fun i q hij hi hq hp' => by
      rcases (hnew hp').2 with hp | h0
      · rw [key i q hij hi hp] at hq
        cases hq
      · have := (h.hold i q hi hq).1
        omega
    rcases set_at hjl hi with ⟨e1, e2⟩ | ⟨hij, hi1⟩
    · rcases set_at hjl hi' with ⟨e3, e4⟩ | ⟨hij', hi1'⟩
      · rw [e1, e3]
      · rw [e2] at hq
        exact (no i' q' hij' hi1' hq' hq).elim
    · rcases set_at hjl hi' with ⟨e3, e4⟩ | ⟨hij', hi1'⟩
      · rw [e4] at hq'
        exact (no i q hij hi1 hq hq').elim
      · exact h.one i i' q q' hi1 hi1' hq hq'
  · rcases set_at hjl hi with ⟨rfl, rfl⟩ | ⟨hij, hi⟩
    · exact hok'
    · exact hokq q (key i q hij hi) (h.ok i q hi)
  · have no : ∀ (i : Nat) (q : Ph), i ≠ j → ps[i]? = some q → q.took = some s → p'.took = some s → False := fun i q hij hi hq hp' => by
      rcases htook with h1 | ⟨s', -, h2, h3⟩
      · rw [h1] at hp'
        exact hij (h.apart i j q p s hi hj hq hp')
      · rw [h2] at hp'
        cases hp'
        have := took_lt (h.ok i q hi) hq
        omega
    rcases set_at hjl hi with ⟨e1, e2⟩ | ⟨hij, hi1⟩
    · rcases set_at hjl hi' with ⟨e3, e4⟩ | ⟨hij', hi1'⟩
      · rw [e1, e3]
      · rw [e2] at hq
        exact (no i' q' hij' hi1' hq' hq).elim
    · rcases set_at hjl hi' with ⟨e3, e4⟩ | ⟨hij', hi1'⟩
      · rw [e4] at hq'
        exact (no i q hij hi1 hq hq').elim
      · exact h.apart i i' q q' s hi1 hi1' hq hq'
  · have h1 := countP_set' (f := fun p => p.took.isSome) (p' := p') hj
    have h2 := h.count
    omega
  · rcases set_at hjl hi with ⟨rfl, rfl⟩ | ⟨hij, hi⟩
    · exact hhead
    · rw [(hheadq i hij).1, (hheadq i hij).2]
      exact h.head i q hi
/-- .. nothing changes but the task -/
theorem InvF.same (h : InvF n k m ps) (hj : ps[j]? = some p) {p' : Ph} (h1 : p'.holds = p.holds) (h2 : p.hold k m → p'.hold k m) (h3 : p'.ok k m) (h4 : p'.took = p.took) (h5 : p'.headN = p.headN) (h6 : p'.turnN = p.turnN) : InvF n k m (ps.set j p') := by
  refine h.upd hj h.tk h.lk h.free (fun _ q _ h8 h9 => ⟨h9, h8⟩) (fun hp => ?_) (fun hl => ?_) h3 (fun q _ hq => hq) (.inl h4) (by rw [h4]) (by rw [h5, h6]; exact h.head j p hj) (fun i _ => ⟨rfl, rfl⟩)
  · rw [h1] at hp
    obtain ⟨a, b⟩ := h.hold j p hj hp
    exact ⟨⟨a, h2 b⟩, .inl hp⟩
  · cases hp : p.holds with
    | true => left; rw [h1]; exact hp
    | false => right; exact ⟨rfl, hl⟩
/-- A STEP -/
theorem InvF.step (h : InvF n k m ps) (hj : ps[j]? = some p) : InvF n k (stepF k m j p).2 (ps.set j (stepF k m j p).1) := by
  have ho := h.ok j p hj
  have hd := h.hold j p hj
  have hh := h.head j p hj
  have htk := h.tk
  cases p with
  | p30 => exact h.same hj rfl (fun h => h) trivial rfl rfl rfl
  | p31 => exact h.same hj rfl (fun h => h) trivial rfl rfl rfl
  | p34 =>
    unfold stepF
    by_cases h0 : m.lk = 0
    · rw [if_pos h0]
      refine h.upd hj htk (.inr rfl) (fun h => by cases h) (fun _ q _ _ h9 => by omega) (fun _ => ⟨⟨rfl, h.free h0⟩, .inr h0⟩) (fun _ => .inl rfl) trivial (fun q _ hq => ?_) (.inl rfl) rfl hh (fun i _ => ⟨rfl, rfl⟩)
      cases q <;> exact hq
    · rw [if_neg h0]
      exact h.same hj rfl (fun h => h) trivial rfl rfl rfl
  | p35 =>
    simp only [stepF]
    split
    · rename_i hlt
      exact h.same hj rfl (fun h => h) ⟨rfl, hlt⟩ rfl rfl rfl
    · exact h.same hj rfl (fun h => h) (show m.tk = k by omega) rfl rfl rfl
  | p36 =>
    obtain ⟨h1, h2⟩ := hd rfl
    refine h.upd hj htk (.inl rfl) (fun _ => h2) (fun hp => by cases hp) (fun hp => by cases hp) (fun hl => by cases hl) ho (fun q _ hq => ?_) (.inl rfl) rfl hh (fun i _ => ⟨rfl, rfl⟩)
    cases q <;> exact hq
  | page => exact h.same hj rfl (fun h => h) ho rfl rfl rfl
  | p37 s => exact h.same hj rfl (fun h => h) ho rfl rfl rfl
  | p38 s => exact h.same hj rfl (fun h => h) ho rfl rfl rfl
  | p39 s =>
    obtain ⟨h1, h2⟩ := hd rfl
    obtain ⟨h3, h4⟩ := ho
    obtain ⟨h5, h6⟩ := h2
    refine h.upd hj htk (.inr h1) (fun h => ?_) (fun hp => by cases hp) (fun _ => ⟨⟨h1, ?_⟩, .inl rfl⟩) (fun _ => .inl rfl) ⟨h3, h4⟩ (fun q _ hq => ?_) (.inl rfl) rfl hh (fun i _ => ⟨rfl, rfl⟩)
    · have h : m.lk = 0 := h
      omega
    · exact ⟨by show s + 1 = m.tk + 1; omega, h6⟩
    · cases q <;> exact hq
  | p46 s => exact h.same hj rfl (fun h => h) ho rfl rfl rfl
  | p47 s =>
    obtain ⟨h1, h2⟩ := hd rfl
    obtain ⟨h3, h4⟩ := ho
    obtain ⟨h5, h6⟩ := h2
    refine h.upd hj h4 (.inr h1) (fun h => ?_) (fun hp => by cases hp) (fun _ => ⟨⟨h1, ?_⟩, .inl rfl⟩) (fun _ => .inl rfl) rfl (fun q hqh hq => ?_) (.inr ⟨s, rfl, rfl, by omega⟩) (by show s + 1 + 0 = m.tk + 1; omega) hh (fun i _ => ⟨rfl, rfl⟩)
    · have h : m.lk = 0 := h
      omega
    · exact ⟨by show m.cut = s + 1; omega, by show m.hd = k - (s + 1) + 1; omega⟩
    · have hqh := hqh rfl
      show q.ok k { m with tk := s + 1 }
      cases q <;> simp only [Ph.ok, Ph.holds] at hq hqh ⊢ <;> first | trivial | (cases hqh; done) | omega
  | p48 s =>
    obtain ⟨h1, h2⟩ := hd rfl
    have h3 : s + 1 = m.tk := ho
    obtain ⟨h5, h6⟩ := h2
    refine h.upd hj htk (.inr h1) (fun h => ?_) (fun hp => by cases hp) (fun _ => ⟨⟨h1, ?_⟩, .inl rfl⟩) (fun _ => .inl rfl) h3 (fun q _ hq => ?_) (.inl rfl) rfl hh (fun i _ => ⟨rfl, rfl⟩)
    · have h : m.lk = 0 := h
      omega
    · exact ⟨h5, by show m.hd - 1 = k - m.tk; omega⟩
    · cases q <;> exact hq
  | p49 s =>
    obtain ⟨h1, h2⟩ := hd rfl
    have h3 : s + 1 = m.tk := ho
    refine h.upd hj htk (.inl rfl) (fun _ => h2) (fun hp => by cases hp) (fun hp => by cases hp) (fun hl => by cases hl) (show s < m.tk by omega) (fun q _ hq => ?_) (.inl rfl) rfl hh (fun i _ => ⟨rfl, rfl⟩)
    cases q <;> exact hq
  | p40 s => exact h.same hj rfl (fun h => h) ho rfl rfl rfl
  | p41 s => exact h.same hj rfl (fun h => h) ho rfl rfl rfl
  | p42 s =>
    refine h.upd hj htk h.lk h.free (fun _ q hq h8 h9 => ⟨h9, ?_⟩) (fun hp => by cases hp) (fun hl => .inr ⟨rfl, hl⟩) ho (fun q _ hq => ?_) (.inl rfl) rfl ⟨by simp [stepF, putN, Ph.headN], by simp [stepF, putN, Ph.turnN]⟩ (fun i hi => ⟨by simp [stepF, putN, hi], by simp [stepF, putN, hi]⟩)
    · cases q <;> exact h8
    · cases q <;> exact hq
  | fin s => exact h.same hj rfl (fun h => h) ho rfl rfl rfl
/-- at first -/
theorem inv0 (n k : Nat) : InvF n k (m0 k) (List.replicate n .p30) := by
  have h0 : ∀ (j : Nat) (p : Ph), (List.replicate n Ph.p30)[j]? = some p → p = .p30 := fun j p h => by
    rw [List.getElem?_replicate] at h
    split at h
    · cases h; rfl
    · cases h
  refine ⟨List.length_replicate, Nat.zero_le _, .inl rfl, fun _ => ⟨rfl, rfl⟩, fun h => (by cases h), fun j p hj hp => ?_, fun i j p q hi hj hp => ?_, fun j p hj => ?_, fun i j p q s hi hj hp => ?_, ?_, fun j p hj => ?_⟩
  · rw [h0 j p hj] at hp; cases hp
  · rw [h0 i p hi] at hp; cases hp
  · rw [h0 j p hj]; trivial
  · rw [h0 i p hi] at hp; cases hp
  · rw [List.countP_replicate]; rfl
  · rw [h0 j p hj]; exact ⟨rfl, rfl⟩
end
end Go.Proofs.YtcbljokbechppaaGreatDoor.Fil
