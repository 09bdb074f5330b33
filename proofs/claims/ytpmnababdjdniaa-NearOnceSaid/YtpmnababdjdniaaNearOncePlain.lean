/-
  wainscotlaw07.NearOnce, the plain law: what Put, Take and Drain do to all pages that are near.
-/
import Derived.Test.YtpmnababdjdniaaNearWorks
namespace Go.Proofs.Ytpmnababdjdniaa.nearOnce
open Go.RowKit

/-- one number a page: is it among these? -/
def mark (S : List Int) (p : Nat) : Int := if (p : Int) ∈ S then 1 else 0
theorem mark_bd (S : List Int) (p : Nat) : mark S p = 0 ∨ mark S p = 1 := by unfold mark; split <;> simp
def total (S : List Int) : Nat → Int
  | 0 => 0
  | n + 1 => total S n + mark S n
theorem total_bd (S : List Int) : ∀ n : Nat, 0 ≤ total S n ∧ total S n ≤ n
  | 0 => by simp [total]
  | n + 1 => by
    have := total_bd S n
    have := mark_bd S n
    simp only [total]
    omega
theorem total_nil : ∀ n, total [] n = 0
  | 0 => rfl
  | n + 1 => by simp [total, total_nil n, mark]
theorem total_cons {S : List Int} {q : Nat} (h : (q : Int) ∉ S) : ∀ n, total ((q : Int) :: S) n = total S n + (if q < n then 1 else 0)
  | 0 => by simp [total]
  | n + 1 => by
    simp only [total]
    rw [total_cons h n]
    by_cases hq : q = n
    · subst hq
      rw [if_neg (by omega), if_pos (by omega)]
      have h1 : mark ((q : Int) :: S) q = 1 := by simp [mark]
      have h2 : mark S q = 0 := by simp [mark, h]
      omega
    · have h1 : mark ((q : Int) :: S) n = mark S n := by
        unfold mark
        have : (n : Int) ∈ (q : Int) :: S ↔ (n : Int) ∈ S := by
          rw [List.mem_cons]
          constructor
          · rintro (h | h)
            · omega
            · exact h
          · exact .inr
        by_cases hs : (n : Int) ∈ S
        · rw [if_pos hs, if_pos (this.2 hs)]
        · rw [if_neg hs, if_neg (fun h => hs (this.1 h))]
      rw [h1]
      by_cases hlt : q < n
      · rw [if_pos hlt, if_pos (by omega)]; omega
      · rw [if_neg hlt, if_neg (by omega)]; omega
theorem total_all : ∀ {S : List Int}, S.Nodup → (∀ p ∈ S, 0 ≤ p ∧ p < 1024) → total S 1024 = S.length
  | [], _, _ => total_nil _
  | p :: S, hn, hb => by
    rw [List.nodup_cons] at hn
    obtain ⟨q, rfl⟩ := Int.eq_ofNat_of_zero_le (hb p List.mem_cons_self).1
    have := hb q List.mem_cons_self
    rw [total_cons hn.1, total_all hn.2 fun x hx => hb x (List.mem_cons_of_mem _ hx), if_pos (by omega), List.length_cons]
    omega
theorem mark_congr {S S' : List Int} (h : ∀ x, x ∈ S ↔ x ∈ S') (p : Nat) : mark S p = mark S' p := by
  unfold mark
  by_cases hs : (p : Int) ∈ S
  · rw [if_pos hs, if_pos ((h _).1 hs)]
  · rw [if_neg hs, if_neg (fun h' => hs ((h _).2 h'))]
theorem mark_perm {S S' : List Int} (h : S.Perm S') : mark S = mark S' := funext fun p => mark_congr (fun x => h.mem_iff) p

/-- all that is near is so once, is a page, and no list is longer than the cap -/
def Good (lim : Int) (X : List (List Int)) : Prop := X.flatten.Nodup ∧ (∀ p ∈ X.flatten, 0 ≤ p ∧ p < 1024) ∧ ∀ xs ∈ X, (xs.length : Int) ≤ lim

theorem set_flatten {X : List (List Int)} : ∀ {i : Nat} {xs ys : List Int}, X[i]? = some xs → ((X.set i ys).flatten ++ xs).Perm (X.flatten ++ ys) := by
  induction X with
  | nil => intro i xs ys h; simp at h
  | cons x X ih =>
    intro i xs ys h
    cases i with
    | zero =>
      simp at h
      subst h
      simp only [List.set_cons_zero, List.flatten_cons]
      have h1 : (ys ++ X.flatten ++ x).Perm (x ++ (ys ++ X.flatten)) := List.perm_append_comm
      have h2 : (x ++ (ys ++ X.flatten)).Perm (x ++ (X.flatten ++ ys)) := List.perm_append_comm.append_left x
      rw [List.append_assoc x]
      exact h1.trans h2
    | succ i =>
      simp only [List.set_cons_succ, List.flatten_cons, List.append_assoc]
      exact (ih (by simpa using h)).append_left x
/-- what is near behind a call, and what the call answered, is what was near with 'new' -/
def Turn (X X' : List (List Int)) (new gone : List Int) (lim : Int) : Prop :=
  X'.length = X.length ∧ (X'.flatten ++ gone).Perm (X.flatten ++ new) ∧ ∀ xs ∈ X', (xs.length : Int) ≤ lim
theorem turn_set {X : List (List Int)} {lim : Int} (h : ∀ xs ∈ X, (xs.length : Int) ≤ lim) {i : Nat} {xs ys new gone : List Int} (hx : X[i]? = some xs) (hp : (ys ++ gone).Perm (xs ++ new)) (hl : (ys.length : Int) ≤ lim) :
    Turn X (X.set i ys) new gone lim := by
  refine ⟨by simp, ?_, fun z hz => ?_⟩
  · have h1 := (set_flatten (ys := ys) hx).append_right gone
    rw [List.append_assoc, List.append_assoc] at h1
    have h2 : ((X.set i ys).flatten ++ (gone ++ xs)).Perm ((X.set i ys).flatten ++ (xs ++ gone)) := List.perm_append_comm.append_left _
    have h3 : (X.flatten ++ (ys ++ gone)).Perm (X.flatten ++ (new ++ xs)) := (hp.trans List.perm_append_comm).append_left _
    have h4 := h2.trans (h1.trans h3)
    rw [← List.append_assoc, ← List.append_assoc] at h4
    exact (List.perm_append_right_iff _).1 h4
  · rcases List.mem_or_eq_of_mem_set hz with hz | rfl
    · exact h z hz
    · exact hl
theorem xHas_mem (X : List (List Int)) (p : Int) : xHas X p = decide (p ∈ X.flatten) := by
  rw [Bool.eq_iff_iff]
  simp [xHas]
theorem xAt_nat {X : List (List Int)} {c : Int} (h0 : 0 ≤ c) (h1 : c < X.length) : ∃ xs, X[c.toNat]? = some xs ∧ xAt X c = some xs := by
  refine ⟨X[c.toNat]'(by omega), List.getElem?_eq_getElem (by omega), ?_⟩
  unfold xAt
  rw [if_pos h0, List.getElem?_eq_getElem (by omega)]
theorem put_no {X : List (List Int)} {lim c p : Int} (h0 : 0 ≤ c) (h1 : c < X.length) (p0 : 0 ≤ p) (p1 : p < 1024) (hp : p ∈ X.flatten) : nPut X lim c p = (([], 60), X) := by
  obtain ⟨xs, -, hx⟩ := xAt_nat h0 h1
  unfold nPut
  rw [hx]
  have := xHas_mem X p
  simp only
  rw [if_neg (by omega), if_pos (by rw [this]; simpa using hp)]
theorem put_yes' {X : List (List Int)} {lim c p : Int} (l0 : 0 ≤ lim) (g : Good lim X) (h0 : 0 ≤ c) (h1 : c < X.length) (p0 : 0 ≤ p) (p1 : p < 1024) (hp : p ∉ X.flatten) :
    ∃ out X', nPut X lim c p = ((out, 0), X') ∧ Turn X X' [p] out lim := by
  obtain ⟨xs, hx1, hx⟩ := xAt_nat h0 h1
  have hl := g.2.2 xs (List.mem_of_getElem? hx1)
  refine ⟨(xs ++ [p]).take (nrK lim (xs.length + 1)), X.set c.toNat ((xs ++ [p]).drop (nrK lim (xs.length + 1))), ?_, turn_set g.2.2 hx1 ?_ ?_⟩
  · unfold nPut
    rw [hx]
    have := xHas_mem X p
    simp only
    rw [if_neg (by omega), if_neg (by rw [this]; simpa using hp)]
  · have := List.perm_append_comm (l₁ := (xs ++ [p]).drop (nrK lim (xs.length + 1))) (l₂ := (xs ++ [p]).take (nrK lim (xs.length + 1)))
    rw [List.take_append_drop] at this
    exact this
  · rw [List.length_drop, List.length_append]
    simp only [List.length_cons, List.length_nil]
    unfold nrK
    split <;> omega
theorem take_no {X : List (List Int)} {c : Int} (h0 : 0 ≤ c) (h1 : c < X.length) {lim : Int} (g : Good lim X) : (nTake X c = ((0, false), X)) ∨ ∃ p X', nTake X c = ((p, true), X') ∧ Turn X X' [] [p] lim := by
  obtain ⟨xs, hx1, hx⟩ := xAt_nat h0 h1
  have hl := g.2.2 xs (List.mem_of_getElem? hx1)
  rcases List.eq_nil_or_concat xs with rfl | ⟨ys, p, rfl⟩
  · left
    simp [nTake, hx]
  · right
    rw [List.concat_eq_append] at hx1 hx hl
    refine ⟨p, X.set c.toNat ys, by simp [nTake, hx], turn_set g.2.2 hx1 (by simp) ?_⟩
    simp at hl
    omega
theorem drain_yes {X : List (List Int)} {c : Int} (h0 : 0 ≤ c) (h1 : c < X.length) {lim : Int} (l0 : 0 ≤ lim) (g : Good lim X) : ∃ out X', nDrain X c = (out, X') ∧ Turn X X' [] out lim := by
  obtain ⟨xs, hx1, hx⟩ := xAt_nat h0 h1
  exact ⟨xs, X.set c.toNat [], by simp [nDrain, hx], turn_set g.2.2 hx1 (by simp) (by simpa using l0)⟩
/-- behind the switch: what is marked is what is near and what is gone -/
def Met (lim : Int) (X : List (List Int)) (gone : List Int) : Prop := (X.flatten ++ gone).Nodup ∧ (∀ p ∈ X.flatten ++ gone, 0 ≤ p ∧ p < 1024) ∧ ∀ xs ∈ X, (xs.length : Int) ≤ lim
section
variable {lim : Int} {X X' : List (List Int)} {new gone : List Int}
theorem Good.met (g : Good lim X) : Met lim X [] := by
  unfold Met
  rw [List.append_nil]
  exact g
theorem Met.good (h : Met lim X []) : Good lim X := by
  unfold Met at h
  rw [List.append_nil] at h
  exact h
theorem Turn.met (t : Turn X X' new gone lim) (g : Good lim X) (hn : ∀ p ∈ new, p ∉ X.flatten ∧ 0 ≤ p ∧ p < 1024) (hd : new.Nodup) : Met lim X' gone := by
  refine ⟨?_, fun p hp => ?_, t.2.2⟩
  · rw [t.2.1.nodup_iff, List.nodup_append]
    exact ⟨g.1, hd, fun a ha b hb he => (hn b hb).1 (he ▸ ha)⟩
  · rw [t.2.1.mem_iff, List.mem_append] at hp
    rcases hp with hp | hp
    · exact g.2.1 p hp
    · exact (hn p hp).2
theorem Turn.mark (t : Turn X X' new gone lim) : mark (X'.flatten ++ gone) = mark (X.flatten ++ new) := mark_perm t.2.1
end
/-- one of those that are gone is struck -/
theorem Met.strike {lim : Int} {X : List (List Int)} {p : Int} {gs : List Int} (h : Met lim X (p :: gs)) :
    0 ≤ p ∧ p < 1024 ∧ nearOnce.mark (X.flatten ++ p :: gs) p.toNat = 1 ∧ Met lim X gs ∧ ∀ j : Nat, (if j = p.toNat then 0 else nearOnce.mark (X.flatten ++ p :: gs) j) = nearOnce.mark (X.flatten ++ gs) j := by
  obtain ⟨h1, h2, h3⟩ := h
  have hp := h2 p (by simp)
  have hpm : (X.flatten ++ p :: gs).Perm (p :: (X.flatten ++ gs)) := List.perm_middle
  rw [hpm.nodup_iff, List.nodup_cons] at h1
  refine ⟨hp.1, hp.2, ?_, ⟨h1.2, fun q hq => h2 q ?_, h3⟩, fun j => ?_⟩
  · unfold nearOnce.mark
    rw [if_pos]
    rw [Int.toNat_of_nonneg hp.1]
    simp
  · rw [hpm.mem_iff]
    exact List.mem_cons_of_mem _ hq
  · split
    · rename_i he
      subst he
      unfold nearOnce.mark
      rw [if_neg]
      rw [Int.toNat_of_nonneg hp.1]
      exact h1.1
    · rename_i he
      rw [mark_perm hpm]
      unfold nearOnce.mark
      have : (j : Int) ∈ p :: (X.flatten ++ gs) ↔ (j : Int) ∈ X.flatten ++ gs := by
        rw [List.mem_cons]
        constructor
        · rintro (h | h)
          · omega
          · exact h
        · exact .inr
      by_cases hs : (j : Int) ∈ X.flatten ++ gs
      · rw [if_pos hs, if_pos (this.2 hs)]
      · rw [if_neg hs, if_neg (fun h => hs (this.1 h))]
/-- a page that is put is marked -/
theorem mark_put {S : List Int} {p : Int} (p0 : 0 ≤ p) (j : Nat) : (if j = p.toNat then 1 else mark S j) = mark (S ++ [p]) j := by
  unfold mark
  split
  · rename_i he
    subst he
    rw [if_pos]
    rw [Int.toNat_of_nonneg p0]
    simp
  · rename_i he
    have : (j : Int) ∈ S ++ [p] ↔ (j : Int) ∈ S := by
      rw [List.mem_append, List.mem_singleton]
      constructor
      · rintro (h | h)
        · exact h
        · omega
      · exact .inl
    by_cases hs : (j : Int) ∈ S
    · rw [if_pos hs, if_pos (this.2 hs)]
    · rw [if_neg hs, if_neg (fun h => hs (this.1 h))]
theorem mark_yes {S : List Int} {p : Int} (p0 : 0 ≤ p) (h : p ∈ S) : mark S p.toNat = 1 := by
  unfold mark
  rw [Int.toNat_of_nonneg p0, if_pos h]
theorem mark_no {S : List Int} {p : Int} (p0 : 0 ≤ p) (h : p ∉ S) : mark S p.toNat = 0 := by
  unfold mark
  rw [Int.toNat_of_nonneg p0, if_neg h]
theorem flatten_take {X : List (List Int)} {k : Nat} {xs : List Int} (h : X[k]? = some xs) : ((X.take (k + 1)).flatten.length : Int) = (X.take k).flatten.length + xs.length := by
  rw [List.take_add_one, h]
  simp
theorem flatten_le {X : List (List Int)} (k : Nat) : (X.take k).flatten.length ≤ X.flatten.length := by
  have := congrArg List.length (congrArg List.flatten (List.take_append_drop k X))
  rw [List.flatten_append, List.length_append] at this
  omega
theorem good_len {lim : Int} {X : List (List Int)} (g : Good lim X) : X.flatten.length ≤ 1024 := by
  have h1 := total_all g.1 g.2.1
  have h2 := (total_bd X.flatten 1024).2
  omega
theorem met_len {lim : Int} {X : List (List Int)} {gone : List Int} (h : Met lim X gone) : gone.length ≤ 1024 := by
  have h1 := total_all h.1 h.2.1
  have h2 := (total_bd (X.flatten ++ gone) 1024).2
  rw [List.length_append] at h1
  omega
theorem nList_at {X : List (List Int)} {z : Nat} {xs : List Int} (h : X[z]? = some xs) : nList X z = xs := by
  simp [nList, xAt, h]
end Go.Proofs.Ytpmnababdjdniaa.nearOnce
