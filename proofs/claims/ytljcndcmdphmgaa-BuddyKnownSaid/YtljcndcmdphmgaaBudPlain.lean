/-
  Buddies, in plain Lean: what a split and a join do to a table of blocks.
-/
import Derived.Test.YtljcndcmdphmgaaFramePlain2
namespace Go.Proofs.Ytljcndcmdphmgaa
open Go.RowKit

/-- a free block of an order -/
def fb (o : Nat) : Pg := (0, (o : Int), 0)
theorem fb_size (o : Nat) : pgSize (fb o) = 2 ^ o := by simp [pgSize, fb]
theorem fb_head {o : Nat} (h : o ≤ 10) : pgHead (fb o) = true := by
  refine decide_eq_true ⟨?_, ?_, .inl ⟨rfl, rfl⟩⟩ <;> simp [fb] <;> omega
/-- the places of the blocks that are out -/
def outPl : Nat → List Pg → List Nat
  | _, [] => []
  | i, p :: bs => (if p.1 = 2 then [i] else []) ++ outPl (i + pgSize p) bs
theorem outPl_append : ∀ (a b : List Pg) (i : Nat), outPl i (a ++ b) = outPl i a ++ outPl (i + (lay a).length) b
  | [], b, i => by simp [outPl, lay]
  | p :: a, b, i => by
    have := lay_cons_len p a
    simp only [List.cons_append, outPl, outPl_append a b]
    rw [show i + pgSize p + (lay a).length = i + (lay (p :: a)).length from by omega, List.append_assoc]
/-- the pages of free blocks -/
def freeSum : List Pg → Int
  | [] => 0
  | p :: bs => (if p.1 = 0 then (pgSize p : Int) else 0) + freeSum bs
theorem freeSum_append : ∀ (a b : List Pg), freeSum (a ++ b) = freeSum a + freeSum b
  | [], b => by simp [freeSum]
  | p :: a, b => by simp only [List.cons_append, freeSum, freeSum_append a b]; omega
theorem freeSum_places : ∀ (bs : List Pg) (i : Nat), pgFreeIn (places i bs) = freeSum bs
  | [], i => rfl
  | p :: bs, i => by
    have := freeSum_places bs (i + pgSize p)
    simp only [pgFreeIn] at this
    simp [pgFreeIn, places, freeSum, this]
theorem pgFree_tab {L bs : List Pg} (h : Tab L bs) (h1 : 1 ≤ L.length) (h2 : L.length ≤ 1024) : pgFree L = freeSum bs := by
  unfold pgFree
  rw [if_pos (pgCheck_of_tab h h1 h2), tab_from h, freeSum_places]
/-- the rests of a split -/
def rests (order : Nat) : Nat → List Pg
  | 0 => []
  | k + 1 => rests order k ++ [fb (order + k)]
theorem lay_one (x : Pg) : lay [x] = x :: List.replicate (pgSize x - 1) pgIn := by simp [lay]
theorem lay_one_len (x : Pg) : (lay [x]).length = pgSize x := by
  have := lay_cons_len x []
  simpa [lay] using this
theorem rests_len (order : Nat) : ∀ k, (lay (rests order k)).length + 2 ^ order = 2 ^ (order + k)
  | 0 => by simp [rests, lay]
  | k + 1 => by
    have := rests_len order k
    rw [rests, lay_append, List.length_append, lay_one_len, fb_size]
    rw [show order + (k + 1) = (order + k) + 1 from by omega, Nat.pow_succ]
    omega
theorem rests_free (order : Nat) : ∀ k, freeSum (rests order k) + 2 ^ order = 2 ^ (order + k)
  | 0 => by simp [rests, freeSum]
  | k + 1 => by
    have := rests_free order k
    rw [rests, freeSum_append]
    have e : freeSum [fb (order + k)] = 2 ^ (order + k) := by simp [freeSum, fb_size]; simp [fb]
    rw [e, show order + (k + 1) = (order + k) + 1 from by omega, Int.pow_succ]
    omega
theorem rests_out (order : Nat) : ∀ (k i : Nat), outPl i (rests order k) = []
  | 0, i => rfl
  | k + 1, i => by
    rw [rests, outPl_append, rests_out order k]
    simp [outPl, fb]
/-- what Alloc makes of a table before the last store: a is the block's place, its order is order + k -/
def bSplit (a order : Nat) : Nat → List Pg → List Pg
  | 0, L => L
  | k + 1, L => bSplit a order k (pgPut L (a + 2 ^ (order + k)) (fb (order + k)))
theorem pgPut_take {L : List Pg} {p a : Nat} {x : Pg} (h : p ≤ L.length) (ha : a ≤ p) : (pgPut L p x).take a = L.take a := by
  unfold pgPut
  rw [List.take_append_of_le_length (by rw [List.length_take]; omega), List.take_take, Nat.min_eq_left ha]
theorem pgPut_drop {L : List Pg} {p : Nat} {x : Pg} (h : p ≤ L.length) : (pgPut L p x).drop p = lay [x] ++ L.drop (p + pgSize x) := by
  unfold pgPut
  rw [List.drop_left' (by rw [List.length_take]; omega), lay_one]
theorem pgPut_eq (L : List Pg) (p : Nat) (x : Pg) : pgPut L p x = L.take p ++ (lay [x] ++ L.drop (p + pgSize x)) := by rw [lay_one]; rfl
theorem split_eq (a order : Nat) (x : Pg) (hx : pgSize x = 2 ^ order) : ∀ (k : Nat) (L : List Pg), a + 2 ^ (order + k) ≤ L.length →
    pgPut (bSplit a order k L) a x = L.take a ++ (lay [x] ++ (lay (rests order k) ++ L.drop (a + 2 ^ (order + k)))) ∧ (bSplit a order k L).length = L.length
  | 0, L, h => by
    refine ⟨?_, rfl⟩
    rw [bSplit, pgPut_eq, hx]
    simp [rests, lay, hx]
  | k + 1, L, h => by
    have hp : 2 ^ (order + (k + 1)) = 2 ^ (order + k) + 2 ^ (order + k) := by rw [show order + (k + 1) = (order + k) + 1 from by omega, Nat.pow_succ]; omega
    have hq := Nat.two_pow_pos (order + k)
    have hl : (pgPut L (a + 2 ^ (order + k)) (fb (order + k))).length = L.length := pgPut_len (by rw [fb_size]; omega)
    obtain ⟨h1, h2⟩ := split_eq a order x hx k (pgPut L (a + 2 ^ (order + k)) (fb (order + k))) (by rw [hl]; omega)
    refine ⟨?_, by rw [bSplit, h2, hl]⟩
    rw [bSplit, h1, pgPut_take (by omega) (by omega), pgPut_drop (by omega), fb_size, rests, lay_append]
    rw [show a + 2 ^ (order + k) + 2 ^ (order + k) = a + 2 ^ (order + (k + 1)) from by omega]
    simp
theorem rests_row (a order : Nat) : ∀ (k : Nat), order + k ≤ 10 → a % 2 ^ (order + k) = 0 → Row (a + 2 ^ order) (rests order k)
  | 0, _, _ => trivial
  | k + 1, h, ha => by
    have hd : 2 ^ (order + k) ∣ 2 ^ (order + (k + 1)) := Nat.pow_dvd_pow 2 (by omega)
    have ha' := mod_of_dvd hd ha
    rw [rests, row_append]
    refine ⟨rests_row a order k (by omega) ha', fb_head (by omega), ?_, trivial⟩
    have := rests_len order k
    rw [fb_size, show a + 2 ^ order + (lay (rests order k)).length = a + 2 ^ (order + k) from by omega]
    rw [Nat.add_mod_right]
    exact ha'
/-- ALLOC -/
theorem alloc_tab {L b1 b2 : List Pg} {order k : Nat} {c : Int} (h : Tab L (b1 ++ fb (order + k) :: b2)) (hk : order + k ≤ 10) (hc : 0 ≤ c ∧ c ≤ 8) :
    Tab (pgPut (bSplit (lay b1).length order k L) (lay b1).length (2, (order : Int), c)) (b1 ++ ((2, (order : Int), c) :: (rests order k ++ b2))) ∧
    (lay b1).length % 2 ^ (order + k) = 0 ∧ (lay b1).length + 2 ^ (order + k) ≤ L.length := by
  obtain ⟨rfl, hr⟩ := h
  have hr' := (row_append b1 _ 0).1 hr
  rw [Nat.zero_add] at hr'
  obtain ⟨h1, h2, h3, h4⟩ := hr'
  rw [fb_size] at h3 h4
  have hx : pgSize ((2 : Int), (order : Int), c) = 2 ^ order := by simp [pgSize]
  have hlen : (lay (b1 ++ fb (order + k) :: b2)).length = (lay b1).length + (2 ^ (order + k) + (lay b2).length) := by
    rw [lay_append, List.length_append, lay_cons_len, fb_size]
  have hd : (lay (b1 ++ fb (order + k) :: b2)).drop ((lay b1).length + 2 ^ (order + k)) = lay b2 := by
    rw [show b1 ++ fb (order + k) :: b2 = (b1 ++ [fb (order + k)]) ++ b2 from by simp, lay_append, List.drop_left']
    rw [lay_append, List.length_append, lay_one_len, fb_size]
  have ht : (lay (b1 ++ fb (order + k) :: b2)).take (lay b1).length = lay b1 := by rw [lay_append, List.take_left' rfl]
  have hl := rests_len order k
  refine ⟨⟨?_, ?_⟩, h3, by omega⟩
  · rw [(split_eq _ order _ hx k _ (by omega)).1, hd, ht]
    rw [show b1 ++ ((2, (order : Int), c) :: (rests order k ++ b2)) = b1 ++ ([(2, (order : Int), c)] ++ (rests order k ++ b2)) from rfl, lay_append, lay_append, lay_append]
  · rw [row_append]
    refine ⟨h1, ?_, ?_, ?_⟩
    · exact decide_eq_true ⟨by simp only; omega, by simp only; omega, .inr ⟨rfl, hc.1, hc.2⟩⟩
    · rw [Nat.zero_add, hx]
      exact mod_of_dvd (Nat.pow_dvd_pow 2 (by omega)) h3
    · rw [Nat.zero_add, hx, row_append]
      refine ⟨rests_row _ order k hk h3, ?_⟩
      rw [show (lay b1).length + 2 ^ order + (lay (rests order k)).length = (lay b1).length + 2 ^ (order + k) from by omega]
      exact h4
/-- a block of a table -/
theorem tab_block {L bs : List Pg} (h : Tab L bs) {a : Nat} {p : Pg} (hp : L[a]? = some p) (hk : p.1 ≠ 1) : ∃ b1 b2, bs = b1 ++ p :: b2 ∧ (lay b1).length = a := by
  have hlen := tab_len h
  have ha := (List.getElem?_eq_some_iff.1 hp).1
  obtain ⟨b1, x, b2, rfl, h1, h2⟩ := row_find bs 0 a (by omega) (by omega)
  rw [Nat.zero_add] at h1 h2
  refine ⟨b1, b2, ?_, ?_⟩
  all_goals
    have e : L = lay b1 ++ (lay [x] ++ lay b2) := by rw [h.1, ← lay_append, ← lay_append]; rfl
    have h3 : L[a]? = (lay [x])[a - (lay b1).length]? := by
      rw [e, List.getElem?_append_right h1, List.getElem?_append_left (by rw [lay_one_len]; omega)]
    rw [h3, lay_one] at hp
    by_cases h4 : a - (lay b1).length = 0
    · rw [h4] at hp
      simp at hp
      first | (subst hp; rfl) | omega
    · obtain ⟨j, hj⟩ : ∃ j, a - (lay b1).length = j + 1 := ⟨a - (lay b1).length - 1, by omega⟩
      rw [hj, List.getElem?_cons_succ, List.getElem?_replicate] at hp
      split at hp
      · exact absurd (by rw [← Option.some.inj hp]; rfl) hk
      · cases hp
theorem head_kind {p : Pg} (h : pgHead p = true) : p.1 = 0 ∨ p.1 = 2 := by
  have := of_decide_eq_true h
  omega
theorem tab_at {L b1 b2 : List Pg} {p : Pg} (h : Tab L (b1 ++ p :: b2)) : L[(lay b1).length]? = some p := by
  rw [h.1, lay_append]
  simp [lay]
end Go.Proofs.Ytljcndcmdphmgaa
