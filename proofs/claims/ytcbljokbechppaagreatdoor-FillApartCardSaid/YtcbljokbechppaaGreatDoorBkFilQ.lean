import Derived.Test.YtcbljokbechppaaGreatDoorBkFilP
/-
  Tasks that fill from a shelf: 500 steps, plain: all are done. No condition.
-/
namespace Go.Proofs.YtcbljokbechppaaGreatDoor.Fil
open See
structure StF where
  m : Mf
  ps : List Ph
  cnt : Nat
section
variable (n k : Nat) (whose : List Int)
/-- whose step it is -/
def whoF (i : Nat) : Nat := if i < 100 ∧ i < whose.length then (whose.getD i 0 % (n : Int)).toNat else i % n
def nxtF (i : Nat) (s : StF) : StF := match s.ps[whoF n whose i]? with
  | some p => ⟨(stepF k s.m (whoF n whose i) p).2, s.ps.set (whoF n whose i) (stepF k s.m (whoF n whose i) p).1, if p.idle then s.cnt else s.cnt + 1⟩
  | none => s
def runF : Nat → StF
  | 0 => ⟨m0 k, List.replicate n .p30, cnt0 k⟩
  | i + 1 => nxtF n k whose i (runF i)
end
section
variable {n k : Nat} {whose : List Int}
theorem whoF_lt (hn : 0 < n) (i : Nat) : whoF n whose i < n := by
  unfold whoF
  split
  · have h1 := Int.emod_nonneg (whose.getD i 0) (show (n : Int) ≠ 0 by omega)
    have h2 := Int.emod_lt_of_pos (whose.getD i 0) (show (0 : Int) < n by omega)
    generalize whose.getD i 0 % (n : Int) = r at h1 h2
    omega
  · exact Nat.mod_lt _ hn
theorem whoF_hi {i : Nat} (h : 100 ≤ i) : whoF n whose i = i % n := by
  unfold whoF
  rw [if_neg (by omega)]
theorem runF_succ (i : Nat) : runF n k whose (i + 1) = nxtF n k whose i (runF n k whose i) := rfl
theorem nxtF_some {i : Nat} {s : StF} {p : Ph} (h : s.ps[whoF n whose i]? = some p) : nxtF n k whose i s = ⟨(stepF k s.m (whoF n whose i) p).2, s.ps.set (whoF n whose i) (stepF k s.m (whoF n whose i) p).1, if p.idle then s.cnt else s.cnt + 1⟩ := by
  unfold nxtF
  rw [h]
theorem who_some {i : Nat} {s : StF} (h : InvF n k s.m s.ps) (hn0 : 0 < n) : ∃ p, s.ps[whoF n whose i]? = some p := by
  have := whoF_lt (whose := whose) hn0 i
  have := h.len
  exact ⟨_, List.getElem?_eq_getElem (by omega)⟩
theorem inv_run (hn0 : 0 < n) : ∀ i, InvF n k (runF n k whose i).m (runF n k whose i).ps
  | 0 => inv0 n k
  | i + 1 => by
    have h := inv_run hn0 i
    obtain ⟨p, hp⟩ := who_some (whose := whose) (i := i) h hn0
    rw [runF_succ, nxtF_some hp]
    exact h.step hp
theorem cnt_run (i : Nat) : (runF n k whose i).cnt ≤ cnt0 k + i := by
  induction i with
  | zero => exact Nat.le_refl _
  | succ i ih =>
    rw [runF_succ]
    unfold nxtF
    split
    · dsimp only
      split <;> omega
    · omega
/-! how far it is -/
def Ph.pre : Ph → Nat
  | .p30 => 2
  | .p31 => 1
  | _ => 0
def Ph.sec : Ph → Nat
  | .p30 => 9
  | .p31 => 9
  | .p34 => 9
  | .p35 => 8
  | .p36 => 1
  | .p37 _ => 7
  | .p38 _ => 6
  | .p39 _ => 5
  | .p46 _ => 4
  | .p47 _ => 3
  | .p48 _ => 2
  | .p49 _ => 1
  | _ => 0
def Ph.post : Ph → Nat
  | .p40 _ => 3
  | .p41 _ => 2
  | .p42 _ => 1
  | _ => 0
theorem pre_step (m : Mf) (j : Nat) (p : Ph) : (stepF k m j p).1.pre ≤ p.pre - 1 := by
  cases p with
  | p34 => by_cases h0 : m.lk = 0 <;> simp [h0, stepF, Ph.pre]
  | p35 => by_cases h0 : m.tk < k <;> simp [h0, stepF, Ph.pre]
  | _ => simp [stepF, Ph.pre]
theorem sec_step (m : Mf) (j : Nat) (p : Ph) : (stepF k m j p).1.sec ≤ p.sec := by
  cases p with
  | p34 => by_cases h0 : m.lk = 0 <;> simp [h0, stepF, Ph.sec]
  | p35 => by_cases h0 : m.tk < k <;> simp [h0, stepF, Ph.sec]
  | _ => simp [stepF, Ph.sec]
theorem post_step (m : Mf) (j : Nat) (p : Ph) (h : p.sec = 0) : (stepF k m j p).1.sec = 0 ∧ (stepF k m j p).1.post ≤ p.post - 1 := by
  cases p <;> simp [stepF, Ph.sec, Ph.post] at h ⊢
theorem holds_step (m : Mf) (j : Nat) (p : Ph) (h : p.holds = true) : (stepF k m j p).1.sec < p.sec := by
  cases p with
  | p35 => by_cases h0 : m.tk < k <;> simp [h0, stepF, Ph.sec]
  | _ => simp [stepF, Ph.sec, Ph.holds] at h ⊢
/-- own steps -/
def ownS (b n j : Nat) : Nat → Nat
  | 0 => 0
  | m + 1 => ownS b n j m + if (b + m) % n = j then 1 else 0
theorem prog {φ : Ph → Nat} {G : Ph → Prop} {c b : Nat} (hG : ∀ m j p, G p → G (stepF k m j p).1 ∧ φ (stepF k m j p).1 ≤ φ p - 1) (hb : 100 ≤ b) (hn0 : 0 < n) (h0 : ∀ (j : Nat) (p : Ph), (runF n k whose b).ps[j]? = some p → G p ∧ φ p ≤ c) (m : Nat) :
    ∀ (j : Nat) (p : Ph), (runF n k whose (b + m)).ps[j]? = some p → G p ∧ φ p ≤ c - ownS b n j m := by
  induction m with
  | zero => exact h0
  | succ m ih =>
    intro j p hj
    have h := inv_run (k := k) (whose := whose) hn0 (b + m)
    obtain ⟨q, hq⟩ := who_some (whose := whose) (i := b + m) h hn0
    rw [← Nat.add_assoc, runF_succ, nxtF_some hq] at hj
    have hql := (List.getElem?_eq_some_iff.1 hq).1
    have hw := whoF_hi (n := n) (whose := whose) (show 100 ≤ b + m by omega)
    unfold ownS
    rcases set_at hql hj with ⟨e1, e2⟩ | ⟨e1, e2⟩
    · obtain ⟨g1, g2⟩ := ih _ q hq
      obtain ⟨g3, g4⟩ := hG (runF n k whose (b + m)).m (whoF n whose (b + m)) q g1
      rw [← e2] at g3 g4
      refine ⟨g3, ?_⟩
      rw [← e1] at g2
      rw [if_pos (by rw [e1, hw])]
      omega
    · obtain ⟨g1, g2⟩ := ih j p e2
      refine ⟨g1, ?_⟩
      rw [if_neg (fun he => e1 (by rw [hw, he]))]
      omega
/-- all together -/
def secS (ps : List Ph) : Nat := (ps.map Ph.sec).sum
theorem secS_set {p p' : Ph} : ∀ {ps : List Ph} {j : Nat}, ps[j]? = some p → secS (ps.set j p') + p.sec = secS ps + p'.sec
  | [], _, h => by simp at h
  | q :: ps, 0, h => by
    simp only [List.getElem?_cons_zero, Option.some.injEq] at h
    subst h
    simp only [secS, List.set_cons_zero, List.map_cons, List.sum_cons]
    omega
  | q :: ps, j + 1, h => by
    have := secS_set (p' := p') (ps := ps) (j := j) (by simpa using h)
    simp only [secS, List.set_cons_succ, List.map_cons, List.sum_cons] at this ⊢
    omega
theorem secS_pos : ∀ {ps : List Ph}, 0 < secS ps → ∃ (j : Nat) (p : Ph), ps[j]? = some p ∧ 0 < p.sec
  | [], h => by simp [secS] at h
  | q :: ps, h => by
    by_cases hq : 0 < q.sec
    · exact ⟨0, q, rfl, hq⟩
    · have h2 : 0 < secS ps := by
        simp only [secS, List.map_cons, List.sum_cons] at h ⊢
        omega
      obtain ⟨j, p, h3, h4⟩ := secS_pos h2
      exact ⟨j + 1, p, by simpa using h3, h4⟩
theorem secS_zero : ∀ {ps : List Ph}, secS ps = 0 → ∀ (j : Nat) (p : Ph), ps[j]? = some p → p.sec = 0
  | [], _, _, _, hj => by simp at hj
  | q :: ps, h, 0, p, hj => by
    simp only [List.getElem?_cons_zero, Option.some.injEq] at hj
    subst hj
    simp only [secS, List.map_cons, List.sum_cons] at h
    omega
  | q :: ps, h, j + 1, p, hj => by
    refine secS_zero (ps := ps) ?_ j p (by simpa using hj)
    simp only [secS, List.map_cons, List.sum_cons] at h ⊢
    omega
theorem secS_le : ∀ (ps : List Ph), secS ps ≤ 9 * ps.length
  | [] => by simp [secS]
  | q :: ps => by
    have := secS_le ps
    have hq : q.sec ≤ 9 := by cases q <;> simp [Ph.sec]
    simp only [secS, List.map_cons, List.sum_cons, List.length_cons] at this ⊢
    omega
/-- who can go on -/
def Ready (s : StF) (a : Nat) : Prop := ∃ p, s.ps[a]? = some p ∧ (p.holds = true ∨ (s.m.lk = 0 ∧ p = .p34))
theorem sec_mono (hn0 : 0 < n) (i : Nat) : secS (runF n k whose (i + 1)).ps ≤ secS (runF n k whose i).ps := by
  have h := inv_run (k := k) (whose := whose) hn0 i
  obtain ⟨q, hq⟩ := who_some (whose := whose) (i := i) h hn0
  rw [runF_succ, nxtF_some hq]
  have h1 := secS_set (p' := (stepF k (runF n k whose i).m (whoF n whose i) q).1) hq
  have h2 := sec_step (k := k) (runF n k whose i).m (whoF n whose i) q
  dsimp only
  omega
theorem sec_mono' (hn0 : 0 < n) (i d : Nat) : secS (runF n k whose (i + d)).ps ≤ secS (runF n k whose i).ps := by
  induction d with
  | zero => exact Nat.le_refl _
  | succ d ih =>
    have := sec_mono (k := k) (whose := whose) hn0 (i + d)
    rw [Nat.add_assoc] at this
    omega
theorem ready_step (hn0 : 0 < n) {i a : Nat} (hr : Ready (runF n k whose i) a) : (whoF n whose i = a → secS (runF n k whose (i + 1)).ps < secS (runF n k whose i).ps) ∧ (secS (runF n k whose (i + 1)).ps < secS (runF n k whose i).ps ∨ Ready (runF n k whose (i + 1)) a) := by
  have h := inv_run (k := k) (whose := whose) hn0 i
  obtain ⟨q, hq⟩ := who_some (whose := whose) (i := i) h hn0
  obtain ⟨p, hp, hr⟩ := hr
  rw [runF_succ, nxtF_some hq]
  have h1 := secS_set (p' := (stepF k (runF n k whose i).m (whoF n whose i) q).1) hq
  have dec : (q.holds = true ∨ ((runF n k whose i).m.lk = 0 ∧ q = .p34)) → secS ((runF n k whose i).ps.set (whoF n whose i) (stepF k (runF n k whose i).m (whoF n whose i) q).1) < secS (runF n k whose i).ps := by
    rintro (h2 | ⟨h2, rfl⟩)
    · have := holds_step (k := k) (runF n k whose i).m (whoF n whose i) q h2
      omega
    · simp only [stepF, if_pos h2, Ph.sec] at h1 ⊢
      omega
  dsimp only
  have hself : whoF n whose i = a → secS ((runF n k whose i).ps.set (whoF n whose i) (stepF k (runF n k whose i).m (whoF n whose i) q).1) < secS (runF n k whose i).ps := fun e => by
    rw [e, hp] at hq
    cases hq
    exact dec hr
  refine ⟨hself, ?_⟩
  by_cases he : whoF n whose i = a
  · exact .inl (hself he)
  · by_cases hd : q.holds = true ∨ ((runF n k whose i).m.lk = 0 ∧ q = .p34)
    · exact .inl (dec hd)
    · right
      refine ⟨p, by rw [List.getElem?_set, if_neg he]; exact hp, ?_⟩
      rcases hr with h2 | ⟨h2, h3⟩
      · exact .inl h2
      · refine .inr ⟨?_, h3⟩
        cases q <;> simp [stepF, Ph.holds, h2] at hd ⊢
theorem ready_some (hn0 : 0 < n) {i : Nat} (hpre : ∀ (j : Nat) (p : Ph), (runF n k whose i).ps[j]? = some p → p.pre = 0) (hpos : 0 < secS (runF n k whose i).ps) : ∃ a, a < n ∧ Ready (runF n k whose i) a := by
  have h := inv_run (k := k) (whose := whose) hn0 i
  have lt : ∀ (j : Nat) (p : Ph), (runF n k whose i).ps[j]? = some p → j < n := fun j p hj => by rw [← h.len]; exact (List.getElem?_eq_some_iff.1 hj).1
  obtain ⟨j, p, hj, hs⟩ := secS_pos hpos
  rcases h.lk with h0 | h1
  · refine ⟨j, lt j p hj, p, hj, ?_⟩
    have hp := hpre j p hj
    by_cases hh : p.holds = true
    · exact .inl hh
    · refine .inr ⟨h0, ?_⟩
      cases p <;> simp [Ph.pre, Ph.sec, Ph.holds] at hp hs hh ⊢
  · obtain ⟨a, q, ha, hq⟩ := h.held h1
    exact ⟨a, lt a q ha, q, ha, .inl hq⟩
theorem round_dec (hn0 : 0 < n) {i : Nat} (hi : 100 ≤ i) (hpre : ∀ (j : Nat) (p : Ph), (runF n k whose i).ps[j]? = some p → p.pre = 0) : secS (runF n k whose (i + n)).ps ≤ secS (runF n k whose i).ps - 1 := by
  by_cases hpos : 0 < secS (runF n k whose i).ps
  · obtain ⟨a, ha, hr⟩ := ready_some hn0 hpre hpos
    have hQ : ∀ d, secS (runF n k whose (i + d)).ps < secS (runF n k whose i).ps ∨ Ready (runF n k whose (i + d)) a := fun d => by
      induction d with
      | zero => exact .inr hr
      | succ d ih =>
        rcases ih with h1 | h1
        · have := sec_mono (k := k) (whose := whose) hn0 (i + d)
          rw [Nat.add_assoc] at this
          exact .inl (by omega)
        · have h2 := sec_mono' (k := k) (whose := whose) hn0 i d
          rcases (ready_step hn0 h1).2 with h3 | h3
          · rw [Nat.add_assoc] at h3
            exact .inl (by omega)
          · exact .inr h3
    obtain ⟨d, hd, hda⟩ : ∃ d, d < n ∧ (i + d) % n = a := by
      refine ⟨(a + (n - i % n)) % n, Nat.mod_lt _ hn0, ?_⟩
      have h1 := Nat.mod_lt i hn0
      rw [Nat.add_mod, Nat.mod_mod, ← Nat.add_mod]
      have h2 := Nat.div_add_mod i n
      have h3 : i + (a + (n - i % n)) = a + (n + n * (i / n)) := by omega
      rw [h3, show n + n * (i / n) = n * (i / n + 1) by rw [Nat.mul_add, Nat.mul_one]; omega, Nat.add_mul_mod_self_left]
      exact Nat.mod_eq_of_lt ha
    have h4 : secS (runF n k whose (i + d + 1)).ps < secS (runF n k whose i).ps := by
      rcases hQ d with h1 | h1
      · have := sec_mono (k := k) (whose := whose) hn0 (i + d)
        omega
      · have h2 := sec_mono' (k := k) (whose := whose) hn0 i d
        have h3 := (ready_step hn0 h1).1 (by rw [whoF_hi (by omega)]; exact hda)
        omega
    have h5 := sec_mono' (k := k) (whose := whose) hn0 (i + d + 1) (n - d - 1)
    rw [show i + d + 1 + (n - d - 1) = i + n by omega] at h5
    omega
  · have := sec_mono' (k := k) (whose := whose) hn0 i n
    omega
theorem own_2 : ∀ n, n < 7 → ∀ j, j < n → 2 ≤ ownS 100 n j (2 * n) := by decide +kernel
theorem own_3 : ∀ n, n < 7 → ∀ j, j < n → 3 ≤ ownS (100 + 56 * n) n j (400 - 56 * n) := by decide +kernel
theorem pre_zero (hn0 : 0 < n) (hn6 : n ≤ 6) {i : Nat} (hi : 100 + 2 * n ≤ i) : ∀ (j : Nat) (p : Ph), (runF n k whose i).ps[j]? = some p → p.pre = 0 := by
  have h1 : ∀ (j : Nat) (p : Ph), (runF n k whose (100 + 2 * n)).ps[j]? = some p → p.pre = 0 := fun j p hj => by
    have h := inv_run (k := k) (whose := whose) hn0 (100 + 2 * n)
    have hjl : j < n := by rw [← h.len]; exact (List.getElem?_eq_some_iff.1 hj).1
    have := (prog (φ := Ph.pre) (G := fun _ => True) (c := 2) (fun m j p _ => ⟨trivial, pre_step m j p⟩) (Nat.le_refl 100) hn0 (fun j p _ => ⟨trivial, by cases p <;> simp [Ph.pre]⟩) (2 * n) j p hj).2
    have := own_2 n (by omega) j hjl
    omega
  intro j p hj
  obtain ⟨d, rfl⟩ : ∃ d, i = (100 + 2 * n) + d := ⟨i - (100 + 2 * n), by omega⟩
  have := (prog (φ := Ph.pre) (G := fun _ => True) (c := 0) (fun m j p _ => ⟨trivial, pre_step m j p⟩) (show 100 ≤ 100 + 2 * n by omega) hn0 (fun j p hj => ⟨trivial, by rw [h1 j p hj]; omega⟩) d j p hj).2
  omega
theorem sec_rounds (hn0 : 0 < n) (hn6 : n ≤ 6) (r : Nat) : secS (runF n k whose (100 + 2 * n + r * n)).ps ≤ 54 - r := by
  induction r with
  | zero =>
    have h1 := secS_le (runF n k whose (100 + 2 * n + 0 * n)).ps
    have h2 := (inv_run (k := k) (whose := whose) hn0 (100 + 2 * n + 0 * n)).len
    omega
  | succ r ih =>
    have := round_dec (k := k) (whose := whose) hn0 (i := 100 + 2 * n + r * n) (by omega) (pre_zero hn0 hn6 (by omega))
    rw [show 100 + 2 * n + (r + 1) * n = 100 + 2 * n + r * n + n by rw [Nat.add_mul, Nat.one_mul]; omega]
    omega
/-- ALL ARE DONE -/
theorem run_idle (hn0 : 0 < n) (hn6 : n ≤ 6) : ∀ (j : Nat) (p : Ph), (runF n k whose 500).ps[j]? = some p → p.idle = true := by
  have h0 := sec_rounds (k := k) (whose := whose) hn0 hn6 54
  rw [show 100 + 2 * n + 54 * n = 100 + 56 * n by omega] at h0
  have h1 := secS_zero (ps := (runF n k whose (100 + 56 * n)).ps) (by omega)
  intro j p hj
  have h := inv_run (k := k) (whose := whose) hn0 500
  have hjl : j < n := by rw [← h.len]; exact (List.getElem?_eq_some_iff.1 hj).1
  have e : 500 = (100 + 56 * n) + (400 - 56 * n) := by omega
  rw [e] at hj
  have h2 := prog (φ := Ph.post) (G := fun p => p.sec = 0) (c := 3) (fun m j p hp => post_step m j p hp) (show 100 ≤ 100 + 56 * n by omega) hn0 (fun j p hj => ⟨h1 j p hj, by cases p <;> simp [Ph.post]⟩) (400 - 56 * n) j p hj
  have h3 := own_3 n (by omega) j hjl
  obtain ⟨h4, h5⟩ := h2
  have h6 : p.post = 0 := by omega
  cases p <;> simp [Ph.sec, Ph.post, Ph.idle] at h4 h6 ⊢
def Ph.isFin : Ph → Bool
  | .fin _ => true
  | _ => false
/-- .. and as many are given something as there are, or as ask -/
theorem run_end (hn0 : 0 < n) (hn6 : n ≤ 6) : (runF n k whose 500).m.tk = min n k ∧ (runF n k whose 500).m.lk = 0 ∧ (runF n k whose 500).ps.countP Ph.isFin = min n k := by
  have h := inv_run (k := k) (whose := whose) hn0 500
  have hi := run_idle (k := k) (whose := whose) hn0 hn6
  have hc : (runF n k whose 500).ps.countP Ph.isFin = (runF n k whose 500).m.tk := by
    rw [← h.count]
    apply List.countP_congr
    intro p hp
    obtain ⟨j, hj⟩ := List.getElem?_of_mem hp
    have := hi j p hj
    cases p <;> simp [Ph.idle, Ph.isFin, Ph.took] at this ⊢
  have htk : (runF n k whose 500).m.tk = min n k := by
    have h1 := List.countP_le_length (p := Ph.isFin) (l := (runF n k whose 500).ps)
    rw [hc, h.len] at h1
    have h2 := h.tk
    by_cases hp : ∃ j : Nat, (runF n k whose 500).ps[j]? = some .page
    · obtain ⟨j, hj⟩ := hp
      have : (runF n k whose 500).m.tk = k := h.ok j _ hj
      omega
    · have h3 : (runF n k whose 500).ps.countP Ph.isFin = (runF n k whose 500).ps.length := by
        rw [List.countP_eq_length]
        intro p hp2
        obtain ⟨j, hj⟩ := List.getElem?_of_mem hp2
        have := hi j p hj
        cases p <;> simp [Ph.idle, Ph.isFin] at this ⊢
        exact hp ⟨j, hj⟩
      rw [hc, h.len] at h3
      omega
  refine ⟨htk, ?_, by rw [hc, htk]⟩
  rcases h.lk with h0 | h1
  · exact h0
  · obtain ⟨j, p, hj, hp⟩ := h.held h1
    have := hi j p hj
    cases p <;> simp [Ph.idle, Ph.holds] at this hp
end
end Go.Proofs.YtcbljokbechppaaGreatDoor.Fil
