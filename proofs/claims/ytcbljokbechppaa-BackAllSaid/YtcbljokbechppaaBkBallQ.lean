import Derived.Test.YtcbljokbechppaaBkBallP
/-
  Tasks that give objects back to a frozen slab: 260 steps, plain: all are done. No condition.
-/
namespace Go.Proofs.Ytcbljokbechppaa.Ball
open See Fast Back
structure StB where
  g : List Nat
  ts : List Tk
  cnt : Nat
section
variable (k key n : Nat) (whose : List Int)
/-- whose step it is -/
def whoN (i : Nat) : Nat := if i < 60 ∧ i < whose.length then (whose.getD i 0 % (n : Int)).toNat else i % n
/-- a step -/
def nxtB (i : Nat) (s : StB) : StB := match s.ts[whoN n whose i]? with
  | some t => ⟨(stepB k key s.g (objOf k (whoN n whose i)) t).2, s.ts.set (whoN n whose i) (stepB k key s.g (objOf k (whoN n whose i)) t).1, if t.en = 0 then s.cnt + 1 else s.cnt⟩
  | none => s
/-- the words at first -/
def gB : List Nat := slG k 0 (key1 key) (packN k k true true) false
def runB : Nat → StB
  | 0 => ⟨gB k key, List.replicate n {}, 1⟩
  | i + 1 => nxtB k key n whose i (runB i)
/-- how many own steps are there still, at most -/
def phi (g : List Nat) (t : Tk) : Nat := if t.en = 1 then 0 else dist g t + 4 * (inuse (at_ g 13) + n - 1 - k)
end
section
variable {k key n : Nat} {whose : List Int}
theorem whoN_lt (hn : 0 < n) (i : Nat) : whoN n whose i < n := by
  unfold whoN
  split
  · have h1 := Int.emod_nonneg (whose.getD i 0) (show (n : Int) ≠ 0 by omega)
    have h2 := Int.emod_lt_of_pos (whose.getD i 0) (show (0 : Int) < n by omega)
    generalize whose.getD i 0 % (n : Int) = r at h1 h2
    omega
  · exact Nat.mod_lt _ hn
theorem gB_at {i : Nat} (hi : i < 16) (hk : 1 ≤ k) : at_ (gB k key) i = if i = 13 then packN k k true true else 0 := by
  unfold gB
  rw [slG_at _ hk, if_neg (by simp), if_neg (by simp)]
  split
  · rfl
  · rw [if_neg (by simp), lkI_low (by omega)]
theorem slab0 (hk : 1 ≤ k) (hk2 : k ≤ 16) : SlabF k key (gB k key) [] := by
  refine ⟨slG_len, w64_slG (by omega) hk2 (packN_lt hk2 hk2), fun i hi h12 h13 => ?_, ?_, ?_, List.nodup_nil, fun x hx => (by cases hx), trivial⟩
  · rw [gB_at hi hk, if_neg h13]
  · rw [gB_at (by omega) hk]; rfl
  · rw [gB_at (by omega) hk]; rfl
theorem inv0 (hk : 1 ≤ k) (hk2 : k ≤ 16) : Inv k key n (gB k key) (List.replicate n {}) [] := by
  have h0 : ∀ (j : Nat) (t : Tk), (List.replicate n ({} : Tk))[j]? = some t → t = {} := fun j t h => by
    rw [List.getElem?_replicate] at h
    split at h
    · cases h; rfl
    · cases h
  refine ⟨List.length_replicate, slab0 hk hk2, fun x => ⟨fun h => (by cases h), ?_⟩, fun j t h => .inl (by rw [h0 j t h]), fun j t h _ => ?_⟩
  · rintro ⟨j, t, h, h1, -⟩
    rw [h0 j t h] at h1
    cases h1
  · rw [h0 j t h]
    exact ⟨⟨Nat.le_refl _, by show 50 ≤ 53; omega⟩, fun h => absurd h (by show ¬ 51 ≤ 50; omega), fun h => absurd h (by show ¬ 52 ≤ 50; omega), fun h => absurd h (by show ¬ 50 = 53; omega)⟩
theorem Inv.len_le {g : List Nat} {ts : List Tk} {L : List Int} (h : Inv k key n g ts L) (hn : n ≤ k) : L.length ≤ n := by
  have hM : ∀ x ∈ L.map (fun x => (k : Int) - 1 - x), 0 ≤ x ∧ x < ((n + 1 : Nat) : Int) := by
    intro x hx
    obtain ⟨y, hy, rfl⟩ := List.mem_map.1 hx
    obtain ⟨j', t', h1, h2, rfl⟩ := (h.mem _).1 hy
    have l2 := (List.getElem?_eq_some_iff.1 h1).1
    have := h.len
    unfold objOf
    omega
  have hnd : (L.map (fun x => (k : Int) - 1 - x)).Nodup := by
    refine List.Pairwise.map _ (fun a b hab => ?_) h.slab.nd
    omega
  have hni : (n : Int) ∉ L.map (fun x => (k : Int) - 1 - x) := fun hm => by
    obtain ⟨y, hy, hyj⟩ := List.mem_map.1 hm
    obtain ⟨j', t', h1, h2, rfl⟩ := (h.mem _).1 hy
    have l2 := (List.getElem?_eq_some_iff.1 h1).1
    have := h.len
    unfold objOf at hyj
    omega
  have := few_lt hnd hM (i := (n : Int)) (by omega) (by omega) hni
  rw [List.length_map] at this
  omega
theorem Inv.left {g : List Nat} {ts : List Tk} {L : List Int} (h : Inv k key n g ts L) (hk2 : k ≤ 16) : inuse (at_ g 13) = k - L.length := by
  rw [h.slab.cnt]
  exact inuse_pack (by omega) hk2
theorem Inv.phi_le {g : List Nat} {ts : List Tk} {L : List Int} (h : Inv k key n g ts L) (hn : n ≤ k) (hn6 : n ≤ 6) (hk2 : k ≤ 16) {j : Nat} {t : Tk} (hj : ts[j]? = some t) : phi k n g t ≤ 28 := by
  unfold phi
  split
  · omega
  · rename_i h1
    have h0 : t.en = 0 := (h.en j t hj).resolve_right h1
    have hL := (h.live j t hj h0).pc
    have := h.left hk2
    have := h.len_le hn
    have : dist g t ≤ 8 := by unfold dist; split <;> omega
    omega
/-- A STEP: nobody comes to be farther from the end; who does it comes nearer -/
theorem phi_step {g : List Nat} {ts : List Tk} {L : List Int} (h : Inv k key n g ts L) (hn : n ≤ k) (hk2 : k ≤ 16) {w : Nat} {t : Tk} (hw : ts[w]? = some t) {j : Nat} {u u' : Tk} (hj : ts[j]? = some u)
    (hj' : (ts.set w (stepB k key g (objOf k w) t).1)[j]? = some u') :
    phi k n (stepB k key g (objOf k w) t).2 u' + (if j = w then 1 else 0) ≤ phi k n g u ∨ phi k n (stepB k key g (objOf k w) t).2 u' = 0 := by
  have hwl := (List.getElem?_eq_some_iff.1 hw).1
  obtain ⟨L', hI, hc⟩ := h.step hn hk2 hw
  have hl := h.left hk2
  have hl' := hI.left hk2
  have hle := h.len_le hn
  have hle' := hI.len_le hn
  rcases hc with ⟨h1, hs, rfl⟩ | ⟨h0, h0', rfl, hd, hd2⟩ | ⟨h0, h1', hL, hd⟩
  · -- nothing
    rw [hs] at hj' ⊢
    rcases set_at hwl hj' with ⟨rfl, rfl⟩ | ⟨hne, h4⟩
    · right
      unfold phi
      rw [if_pos h1]
    · rw [hj] at h4
      cases h4
      left
      rw [if_neg hne]
      exact Nat.le_refl _
  · rcases set_at hwl hj' with ⟨rfl, rfl⟩ | ⟨hne, h4⟩
    · rw [hw] at hj
      cases hj
      left
      unfold phi
      rw [if_neg (show ¬ _ = 1 by omega), if_pos rfl, if_neg (show ¬ t.en = 1 by omega), hl, hl']
      omega
    · rw [hj] at h4
      cases h4
      left
      unfold phi
      rw [if_neg hne]
      split
      · omega
      · rw [hl, hl', hd2]
        omega
  · rcases set_at hwl hj' with ⟨rfl, rfl⟩ | ⟨hne, h4⟩
    · right
      unfold phi
      rw [if_pos h1']
    · rw [hj] at h4
      cases h4
      by_cases hu : u.en = 1
      · right
        unfold phi
        rw [if_pos hu]
      · left
        have hu0 : u.en = 0 := (h.en j u hj).resolve_right hu
        have hlt := hI.lt hn hj' hu0
        have := hd u
        unfold phi
        rw [if_neg hu, if_neg hu, if_neg hne, hl, hl']
        omega
theorem nxtB_some {i : Nat} {s : StB} {t : Tk} (h : s.ts[whoN n whose i]? = some t) : nxtB k key n whose i s = ⟨(stepB k key s.g (objOf k (whoN n whose i)) t).2, s.ts.set (whoN n whose i) (stepB k key s.g (objOf k (whoN n whose i)) t).1, if t.en = 0 then s.cnt + 1 else s.cnt⟩ := by
  unfold nxtB
  rw [h]
theorem who_some {i : Nat} {s : StB} {L : List Int} (h : Inv k key n s.g s.ts L) (hn0 : 0 < n) : ∃ t, s.ts[whoN n whose i]? = some t := by
  have := whoN_lt (whose := whose) hn0 i
  have := h.len
  exact ⟨_, List.getElem?_eq_getElem (by omega)⟩
theorem inv_run (hn0 : 0 < n) (hn : n ≤ k) (hk2 : k ≤ 16) : ∀ i, ∃ L, Inv k key n (runB k key n whose i).g (runB k key n whose i).ts L
  | 0 => ⟨[], inv0 (by omega) hk2⟩
  | i + 1 => by
    obtain ⟨L, h⟩ := inv_run hn0 hn hk2 i
    obtain ⟨t, ht⟩ := who_some (whose := whose) (i := i) h hn0
    obtain ⟨L', h', -⟩ := h.step hn hk2 ht
    unfold runB
    rw [nxtB_some ht]
    exact ⟨L', h'⟩
theorem runB_succ (i : Nat) : runB k key n whose (i + 1) = nxtB k key n whose i (runB k key n whose i) := rfl
theorem cnt_run (i : Nat) : (runB k key n whose i).cnt ≤ 1 + i := by
  induction i with
  | zero => exact Nat.le_refl _
  | succ i ih =>
    unfold runB nxtB
    split
    · dsimp only
      split <;> omega
    · omega
/-- own steps, from the b-th on -/
def own (b n j : Nat) : Nat → Nat
  | 0 => 0
  | m + 1 => own b n j m + if (b + m) % n = j then 1 else 0
theorem own_200 : ∀ n, n < 7 → ∀ j, j < n → 28 ≤ own 60 n j 200 := by decide +kernel
theorem phi_run {b : Nat} (hb : 60 ≤ b) (hn0 : 0 < n) (hn : n ≤ k) (hn6 : n ≤ 6) (hk2 : k ≤ 16) {j : Nat} (m : Nat) : ∀ u, (runB k key n whose (b + m)).ts[j]? = some u → phi k n (runB k key n whose (b + m)).g u ≤ 28 - own b n j m := by
  induction m with
  | zero =>
    intro u hu
    obtain ⟨L, h⟩ := inv_run (key := key) (whose := whose) hn0 hn hk2 (b + 0)
    exact h.phi_le hn hn6 hk2 hu
  | succ m ih =>
    intro u' hu'
    obtain ⟨L, h⟩ := inv_run (key := key) (whose := whose) hn0 hn hk2 (b + m)
    obtain ⟨t, ht⟩ := who_some (whose := whose) (i := b + m) h hn0
    rw [← Nat.add_assoc, runB_succ, nxtB_some ht] at hu' ⊢
    dsimp only at hu' ⊢
    have hjl : j < n := by
      have := (List.getElem?_eq_some_iff.1 hu').1
      rw [List.length_set, h.len] at this
      exact this
    have hj : (runB k key n whose (b + m)).ts[j]? = some ((runB k key n whose (b + m)).ts[j]'(by rw [h.len]; exact hjl)) := List.getElem?_eq_getElem _
    have ih := ih _ hj
    have hw : whoN n whose (b + m) = (b + m) % n := by
      unfold whoN
      rw [if_neg (by omega)]
    have hs := phi_step h hn hk2 ht hj hu'
    rw [hw] at hs ⊢
    unfold own
    rcases hs with hs | hs
    · by_cases hjw : j = (b + m) % n
      · rw [if_pos hjw] at hs
        rw [if_pos hjw.symm]
        omega
      · rw [if_neg hjw] at hs
        rw [if_neg (fun h => hjw h.symm)]
        omega
    · omega
theorem len_ge : ∀ (n : Nat) (M : List Int), (∀ j : Nat, j < n → (j : Int) ∈ M) → n ≤ M.length
  | 0, _, _ => Nat.zero_le _
  | n + 1, M, h => by
    have h1 := len_ge n (M.erase (n : Int)) fun j hj => (List.mem_erase_of_ne (by omega)).2 (h j (by omega))
    have hm := h n (by omega)
    rw [List.length_erase_of_mem hm] at h1
    have := List.length_pos_of_mem hm
    omega
/-- ALL ARE DONE -/
theorem run_end (hn0 : 0 < n) (hn : n ≤ k) (hn6 : n ≤ 6) (hk2 : k ≤ 16) : ∃ L, Inv k key n (runB k key n whose 260).g (runB k key n whose 260).ts L ∧ (∀ (j : Nat) t, (runB k key n whose 260).ts[j]? = some t → t.en = 1) ∧ L.length = n ∧ ∀ x ∈ L, (k : Int) - n ≤ x := by
  obtain ⟨L, h⟩ := inv_run (key := key) (whose := whose) hn0 hn hk2 260
  have hdone : ∀ (j : Nat) t, (runB k key n whose 260).ts[j]? = some t → t.en = 1 := fun j t ht => by
    have hjl : j < n := by
      have := (List.getElem?_eq_some_iff.1 ht).1
      rw [h.len] at this
      exact this
    have h1 := phi_run (b := 60) (key := key) (whose := whose) (Nat.le_refl _) hn0 hn hn6 hk2 200 t ht
    have h2 := own_200 n (by omega) j hjl
    have h3 : phi k n (runB k key n whose (60 + 200)).g t = 0 := by omega
    rcases h.en j t ht with h0 | h0
    · exfalso
      have hp := (h.live j t ht h0).pc
      unfold phi at h3
      rw [if_neg (by omega)] at h3
      unfold dist at h3
      omega
    · exact h0
  refine ⟨L, h, hdone, ?_, fun x hx => ?_⟩
  · have h1 := h.len_le hn
    have h2 := len_ge n (L.map fun x => (k : Int) - 1 - x) fun j hj => by
      have hjl : j < (runB k key n whose 260).ts.length := by rw [h.len]; exact hj
      have hm := (h.mem (objOf k j : Int)).2 ⟨j, _, List.getElem?_eq_getElem hjl, hdone j _ (List.getElem?_eq_getElem hjl), rfl⟩
      refine List.mem_map.2 ⟨_, hm, ?_⟩
      unfold objOf
      omega
    rw [List.length_map] at h2
    omega
  · obtain ⟨j, t, h1, h2, rfl⟩ := (h.mem x).1 hx
    have l2 := (List.getElem?_eq_some_iff.1 h1).1
    rw [h.len] at l2
    unfold objOf
    omega
end
end Go.Proofs.Ytcbljokbechppaa.Ball
