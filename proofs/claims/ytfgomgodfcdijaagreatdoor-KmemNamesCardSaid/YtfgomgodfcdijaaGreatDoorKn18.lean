/-
  Texts of this claim, joined. No condition.
-/
import Derived.Test.YtfgomgodfcdijaaGreatDoorKn17
import Derived.Test.YtfgomgodfcdijaaGreatDoorKn12
import Derived.OpenShut
import Derived.Test.YtfgomgodfcdijaaGreatDoorKn11
/-
  Tables of pages, in plain Lean: blocks found by a page, a row of blocks replaced by one block, and what Head, Set and Free answer.
-/
namespace Go.Proofs.YtfgomgodfcdijaaGreatDoor
open Go.RowKit

theorem lay_append : ∀ (a b : List Pg), lay (a ++ b) = lay a ++ lay b
  | [], b => rfl
  | p :: a, b => by simp [lay, lay_append a b]
theorem row_append : ∀ (a b : List Pg) (i : Nat), Row i (a ++ b) ↔ Row i a ∧ Row (i + (lay a).length) b
  | [], b, i => by simp [Row, lay]
  | p :: a, b, i => by
    have := lay_cons_len p a
    simp only [List.cons_append, Row, row_append a b]
    rw [show i + pgSize p + (lay a).length = i + (lay (p :: a)).length from by omega]
    constructor
    · rintro ⟨h1, h2, h3, h4⟩; exact ⟨⟨h1, h2, h3⟩, h4⟩
    · rintro ⟨⟨h1, h2, h3⟩, h4⟩; exact ⟨h1, h2, h3, h4⟩
theorem places_append : ∀ (a b : List Pg) (i : Nat), places i (a ++ b) = places i a ++ places (i + (lay a).length) b
  | [], b, i => by simp [places, lay]
  | p :: a, b, i => by
    have := lay_cons_len p a
    simp only [List.cons_append, places, places_append a b]
    rw [show i + pgSize p + (lay a).length = i + (lay (p :: a)).length from by omega]
theorem places_bound : ∀ (bs : List Pg) (i : Nat), ∀ y ∈ places i bs, (i : Int) ≤ y.1 ∧ y.1 + pgSize y.2 ≤ i + (lay bs).length ∧ y.2 ∈ bs
  | [], i, y, h => by simp [places] at h
  | p :: bs, i, y, h => by
    have hl := lay_cons_len p bs
    rw [places, List.mem_cons] at h
    rcases h with rfl | h
    · exact ⟨by simp, by simp only; omega, by simp⟩
    · have := places_bound bs (i + pgSize p) y h
      refine ⟨by omega, by omega, List.mem_cons_of_mem _ this.2.2⟩
/-- the block of a page -/
theorem row_find : ∀ (bs : List Pg) (i p : Nat), i ≤ p → p < i + (lay bs).length → ∃ b1 x b2, bs = b1 ++ x :: b2 ∧ i + (lay b1).length ≤ p ∧ p < i + (lay b1).length + pgSize x
  | [], i, p, h1, h2 => by simp [lay] at h2; omega
  | x :: bs, i, p, h1, h2 => by
    have hl := lay_cons_len x bs
    by_cases h : p < i + pgSize x
    · exact ⟨[], x, bs, rfl, by simpa [lay] using h1, by simpa [lay] using h⟩
    · obtain ⟨b1, y, b2, rfl, h3, h4⟩ := row_find bs (i + pgSize x) p (by omega) (by omega)
      have := lay_cons_len x b1
      exact ⟨x :: b1, y, b2, rfl, by omega, by omega⟩
theorem pow_dvd_of_le {a b : Nat} (h : a ≤ b) : 2 ^ a ∣ 2 ^ b := Nat.pow_dvd_pow 2 h
theorem pgSize_dvd {p q : Pg} (h : pgSize p ≤ pgSize q) : pgSize p ∣ pgSize q := by
  unfold pgSize at *
  exact pow_dvd_of_le ((Nat.pow_le_pow_iff_right (by omega)).1 h)
theorem dvd_lt_eq {n a b : Nat} (ha : a % n = 0) (hb : b % n = 0) (h1 : a ≤ b) (h2 : b < a + n) : b = a := by
  obtain ⟨k, rfl⟩ := Nat.dvd_of_mod_eq_zero ha
  obtain ⟨l, rfl⟩ := Nat.dvd_of_mod_eq_zero hb
  rcases Nat.lt_or_ge k l with h | h
  · have : n * (k + 1) ≤ n * l := Nat.mul_le_mul_left _ h
    rw [Nat.mul_succ] at this
    omega
  · have : n * l ≤ n * k := Nat.mul_le_mul_left _ h
    omega
theorem mod_of_dvd {n m a : Nat} (h : n ∣ m) (ha : a % m = 0) : a % n = 0 := Nat.mod_eq_zero_of_dvd (Nat.dvd_trans h (Nat.dvd_of_mod_eq_zero ha))
theorem row_cut (x : Pg) (a : Nat) (ha : a % pgSize x = 0) : ∀ (c : List Pg) (i : Nat), a ≤ i → i < a + pgSize x → Row i c → (i = a → ∀ y ∈ c.head?, pgSize y ≤ pgSize x) → a + pgSize x ≤ i + (lay c).length →
    ∃ c1 c2, c = c1 ++ c2 ∧ i + (lay c1).length = a + pgSize x
  | [], i, h1, h2, _, _, h => by simp [lay] at h; omega
  | y :: c, i, h1, h2, hr, h0, h => by
    have hl := lay_cons_len y c
    obtain ⟨hy1, hy2, hy3⟩ := hr
    have hpos := pgSize_pos y
    have hs : pgSize y ≤ pgSize x := by
      rcases Nat.lt_or_ge (pgSize x) (pgSize y) with hgt | hle
      · have hd := pgSize_dvd (Nat.le_of_lt hgt)
        have := dvd_lt_eq ha (mod_of_dvd hd hy2) h1 h2
        exact h0 this y rfl
      · exact hle
    have hd := pgSize_dvd hs
    have hi : i + pgSize y ≤ a + pgSize x := by
      have h3 : (a + pgSize x) % pgSize y = 0 := Nat.mod_eq_zero_of_dvd (Nat.dvd_add (Nat.dvd_trans hd (Nat.dvd_of_mod_eq_zero ha)) hd)
      rcases Nat.lt_or_ge (a + pgSize x) (i + pgSize y) with hgt | hle
      · have := dvd_lt_eq hy2 h3 (by omega) hgt
        omega
      · exact hle
    rcases Nat.lt_or_ge (i + pgSize y) (a + pgSize x) with hlt | hge
    · obtain ⟨c1, c2, rfl, h5⟩ := row_cut x a ha c (i + pgSize y) (by omega) hlt hy3 (fun e => by omega) (by omega)
      have := lay_cons_len y c1
      exact ⟨y :: c1, c2, rfl, by omega⟩
    · exact ⟨[y], c, rfl, by have := lay_cons_len y []; simp [lay] at this ⊢; omega⟩
/-- the head of a page's block -/
theorem pgHd_at {L b1 b2 : List Pg} {x : Pg} (h : Tab L (b1 ++ x :: b2)) {page : Int} (h1 : ((lay b1).length : Int) ≤ page) (h2 : page < (lay b1).length + pgSize x) : pgHd L page = (lay b1).length ∧ L[(lay b1).length]? = some x := by
  constructor
  · unfold pgHd
    rw [tab_from h, places_append]
    simp only [Nat.zero_add, places]
    have hn : pgHdIn page (places 0 b1) = none := by
      unfold pgHdIn
      rw [List.find?_eq_none]
      intro y hy
      have := places_bound b1 0 y hy
      simp
      omega
    have := pgHdIn_hit (x := (((lay b1).length : Int), x)) (places ((lay b1).length + pgSize x) b2) hn h2
    rw [List.append_assoc, List.singleton_append] at this
    rw [this]
  · obtain ⟨rfl, _⟩ := h
    rw [lay_append]
    simp [lay]
theorem tab_len {L bs : List Pg} (h : Tab L bs) : L.length = (lay bs).length := by rw [h.1]
theorem pgCheck_tab {L : List Pg} (h : pgCheck L = 0) : ∃ bs, Tab L bs := (tab_iff L).2 (pgCheck_zero h).2.2
theorem pgCheck_of_tab {L bs : List Pg} (h : Tab L bs) (h1 : 1 ≤ L.length) (h2 : L.length ≤ 1024) : pgCheck L = 0 := pgCheck_yes h1 h2 ((tab_iff L).1 ⟨bs, h⟩)
theorem pgCheck_cases (L : List Pg) : pgCheck L = 0 ∨ pgCheck L = 50 := by unfold pgCheck; split <;> simp
/-- a table with a block laid at a place -/
def pgPut (L : List Pg) (p : Nat) (x : Pg) : List Pg := L.take p ++ (x :: List.replicate (pgSize x - 1) pgIn ++ L.drop (p + pgSize x))
theorem pgPut_len {L : List Pg} {p : Nat} {x : Pg} (h : p + pgSize x ≤ L.length) : (pgPut L p x).length = L.length := by
  have := pgSize_pos x
  simp [pgPut]
  omega
/-- what Set tells -/
def pgSetE (L : List Pg) (page : Int) (x : Pg) : Int :=
  if pgCheck L ≠ 0 then 50 else if pgHead x = false then 2 else if page < 0 ∨ page % pgSize x ≠ 0 ∨ (L.length : Int) < page + pgSize x then 9
  else if x.2.1 < (L.getD (pgHd L page).toNat pgIn).2.1 then 50 else 0
theorem pgSize_mono {x y : Pg} (h : x.2.1 ≤ y.2.1) : pgSize x ≤ pgSize y := Nat.pow_le_pow_right (by omega) (by omega)
/-- where Set tells no error a row of blocks is replaced by one -/
theorem pgSet_ok {L : List Pg} {page : Int} {x : Pg} (h : pgSetE L page x = 0) : ∃ (p : Nat) (b1 c1 c2 : List Pg), page = p ∧ p + pgSize x ≤ L.length ∧ pgCheck L = 0 ∧ pgHead x = true ∧ p % pgSize x = 0 ∧
    Tab L (b1 ++ (c1 ++ c2)) ∧ (lay b1).length = p ∧ (lay c1).length = pgSize x ∧ Tab (pgPut L p x) (b1 ++ (x :: c2)) := by
  unfold pgSetE at h
  split at h
  · cases h
  · rename_i hck
    have hck : pgCheck L = 0 := Decidable.not_not.1 hck
    split at h
    · cases h
    · rename_i hh
      have hh : pgHead x = true := by simpa using hh
      split at h
      · cases h
      · rename_i hr
        split at h
        · cases h
        · rename_i ho
          obtain ⟨p, rfl⟩ : ∃ p : Nat, page = p := ⟨page.toNat, by omega⟩
          have hr1 : p % pgSize x = 0 := by
            have : ((p % pgSize x : Nat) : Int) = 0 := by
              rw [Int.natCast_emod]
              exact Decidable.not_not.1 fun h0 => hr (.inr (.inl h0))
            omega
          have hr2 : p + pgSize x ≤ L.length := by omega
          have hpos := pgSize_pos x
          obtain ⟨bs, hT⟩ := pgCheck_tab hck
          have hlen := tab_len hT
          obtain ⟨b1, y, b2, rfl, h3, h4⟩ := row_find bs 0 p (by omega) (by omega)
          rw [Nat.zero_add] at h3 h4
          obtain ⟨e1, e2⟩ := pgHd_at hT (page := (p : Int)) (by omega) (by omega)
          have hyx : pgSize y ≤ pgSize x := by
            apply pgSize_mono
            rw [e1] at ho
            rw [Int.toNat_natCast, List.getD_eq_getElem?_getD, e2] at ho
            simp at ho
            omega
          have hrow := (row_append b1 (y :: b2) 0).1 hT.2
          rw [Nat.zero_add] at hrow
          have hbp : (lay b1).length = p := by
            have := hrow.2.2.1
            exact (dvd_lt_eq this (mod_of_dvd (pgSize_dvd hyx) hr1) h3 h4).symm
          have hll : (lay (b1 ++ y :: b2)).length = (lay b1).length + (lay (y :: b2)).length := by rw [lay_append, List.length_append]
          obtain ⟨c1, c2, hc, h5⟩ := row_cut x p hr1 (y :: b2) p (Nat.le_refl _) (by omega) (by rw [← hbp]; exact hrow.2) (fun _ z hz => by simp at hz; subst hz; exact hyx) (by omega)
          rw [hc] at hT hrow
          have hc1 : (lay c1).length = pgSize x := by omega
          refine ⟨p, b1, c1, c2, rfl, hr2, hck, hh, hr1, hT, hbp, hc1, ?_, ?_⟩
          · have e : L = lay b1 ++ (lay c1 ++ lay c2) := by rw [hT.1, lay_append, lay_append]
            have ed : L.drop (p + pgSize x) = lay c2 := by rw [e, ← List.append_assoc, List.drop_left' (by rw [List.length_append]; omega)]
            have et : L.take p = lay b1 := by rw [e, List.take_left' hbp]
            rw [pgPut, ed, et, lay_append]
            simp [lay]
          · rw [row_append]
            refine ⟨hrow.1, hh, by rw [Nat.zero_add, hbp]; exact hr1, ?_⟩
            have := ((row_append c1 c2 _).1 hrow.2).2
            rw [hc1] at this
            rw [Nat.zero_add]
            exact this
theorem pgPut_get {L : List Pg} {p : Nat} {x : Pg} (h : p + pgSize x ≤ L.length) (i : Nat) : (pgPut L p x)[i]? = if i = p then some x else if p < i ∧ i < p + pgSize x then some pgIn else L[i]? := by
  have hpos := pgSize_pos x
  unfold pgPut
  have ht : (L.take p).length = p := by rw [List.length_take]; omega
  by_cases h1 : i < p
  · rw [List.getElem?_append_left (by omega), List.getElem?_take, if_pos h1, if_neg (by omega), if_neg (by omega)]
  · rw [List.getElem?_append_right (by omega), ht]
    by_cases h2 : i = p
    · subst h2; simp
    · rw [if_neg h2]
      obtain ⟨j, hj⟩ : ∃ j, i - p = j + 1 := ⟨i - p - 1, by omega⟩
      rw [hj, List.cons_append, List.getElem?_cons_succ]
      by_cases h3 : i < p + pgSize x
      · rw [if_pos ⟨by omega, h3⟩, List.getElem?_append_left (by simp; omega), List.getElem?_replicate, if_pos (by omega)]
      · rw [if_neg (by omega), List.getElem?_append_right (by simp; omega), List.getElem?_drop]
        congr 1
        simp
        omega
theorem pgPut_again {L : List Pg} {p : Nat} {x : Pg} (h : p + pgSize x ≤ L.length) : pgPut (pgPut L p x) p x = pgPut L p x := by
  apply List.ext_getElem?
  intro i
  rw [pgPut_get (by rw [pgPut_len h]; exact h), pgPut_get h]
  split
  · rfl
  · split <;> rfl
/-- .. set again it is the same -/
theorem pgSet_again {L : List Pg} {page : Int} {x : Pg} (h : pgSetE L page x = 0) : pgSetE (pgPut L page.toNat x) page x = 0 ∧ pgCheck (pgPut L page.toNat x) = 0 ∧ (pgPut L page.toNat x).length = L.length ∧
    pgPut (pgPut L page.toNat x) page.toNat x = pgPut L page.toNat x ∧ (∀ q : Int, page ≤ q → q < page + pgSize x → pgHd (pgPut L page.toNat x) q = page) ∧ page = page.toNat ∧ page.toNat + pgSize x ≤ L.length ∧ pgHead x = true ∧ pgCheck L = 0 := by
  obtain ⟨p, b1, c1, c2, rfl, hl, hck, hh, hm, hT, hb, hc, hT'⟩ := pgSet_ok h
  rw [Int.toNat_natCast]
  have hlen := pgPut_len hl
  have hpos := pgSize_pos x
  have hcz := pgCheck_zero hck
  have hck' := pgCheck_of_tab hT' (by omega) (by omega)
  have hhd : ∀ q : Int, (p : Int) ≤ q → q < p + pgSize x → pgHd (pgPut L p x) q = p ∧ (pgPut L p x)[p]? = some x := by
    intro q h1 h2
    have := pgHd_at hT' (page := q) (by omega) (by omega)
    rw [hb] at this
    exact this
  refine ⟨?_, hck', hlen, pgPut_again hl, fun q h1 h2 => (hhd q h1 h2).1, rfl, hl, hh, hck⟩
  unfold pgSetE
  rw [if_neg (by rw [hck']; simp), if_neg (by rw [hh]; simp), if_neg, if_neg]
  · obtain ⟨e1, e2⟩ := hhd p (by omega) (by omega)
    rw [e1, Int.toNat_natCast, List.getD_eq_getElem?_getD, e2]
    simp
  · rw [hlen]
    have : ((p : Int) % (pgSize x : Int)) = 0 := by rw [← Int.natCast_emod, hm]; rfl
    omega
end Go.Proofs.YtfgomgodfcdijaaGreatDoor

/-
  Contracts: frame.Check, frame.Head, frame.Free, of any table; slices.Clone of pages.
-/
namespace Go.Proofs.YtfgomgodfcdijaaGreatDoor
open Go.RowKit
/-- a slice reads as pages -/
def PgS (w : World) (v : Value) (L : List Pg) : Prop := ∃ A c, v = .slice A L.length c ∧ L.length ≤ c ∧ c ≤ maxLen ∧ (0 < L.length → ∃ g o, A = some ⟨g, o, none⟩ ∧ PgAt w g o L)
section
variable {W w : World} {m bs : List (Nat × Obj)} {v : Value} {L : List Pg}
theorem PgS.own (h : PgS W v L) (hO : Own W m w) : PgS w v L := by
  obtain ⟨A, c, rfl, h1, h2, h3⟩ := h
  exact ⟨A, c, rfl, h1, h2, fun hp => by obtain ⟨g, o, rfl, hA⟩ := h3 hp; exact ⟨g, o, rfl, hA.own hO⟩⟩
theorem PgS.below (h : PgS w v L) {w' : World} (hb : Below w.heap.size w w') : PgS w' v L := h.own (m := []) ⟨hb, by simp, by simp⟩
theorem own_of_below (h : Own W m w) {w' : World} (hb : Below w.heap.size w w') : Own W m w' := h.then_below hb
theorem pgCheck_short {L : List Pg} (h : L.length = 0 ∨ 1024 < L.length) : pgCheck L = 50 := by
  unfold pgCheck
  rw [if_neg]
  omega
set_option maxHeartbeats 1000000 in
theorem check_spec (h : Own W m w) (hs : PgS w v L) :
    Calls Tryz.prog 149 #[v] w fun e w' => e = .returned (.int .i64 (pgCheck L)) ∧ Own W m w' := by
  obtain ⟨A, c, rfl, h1, h2, h3⟩ := hs
  unfold maxLen at h2
  by_cases hz : L.length = 0 ∨ 1024 < L.length
  · have HC := Lib.hid (pgCheck_short hz)
    have h0 := h.alloc (.cells #[.int .i64 50] 23)
    obtain ⟨N, hN⟩ : ∃ N, L.length = N := ⟨_, rfl⟩
    rw [hN] at hz h1 ⊢
    clear h3 hN
    rcases hz with rfl | hz
    · go_enter Tryz.func149, Tryz.ntmps149
      go_wp2_with fail
      exact bodyPost_ret (v := .int .i64 50) (by simp [results, Tryz.f149, go_sem]) rfl ⟨by rw [HC.out], h0⟩
    · have hn0 : ((N : Int) == 0) = false := by rw [beq_eq_false_iff_ne]; omega
      have hn2 : decide (1024 < (N : Int)) = true := decide_eq_true (by omega)
      go_enter Tryz.func149, Tryz.ntmps149
      go_wp2_with fail
      exact bodyPost_ret (v := .int .i64 50) (by simp [results, Tryz.f149, go_sem]) rfl ⟨by rw [HC.out], h0⟩
  · obtain ⟨g, o, rfl, hA⟩ := h3 (by omega)
    exact (callsIn_wide.1 (check_loop g o c L.length L rfl (by omega) (by omega) h1 (by omega) w hA)).mono fun _ _ ⟨he, hb⟩ => ⟨he, h.then_below hb⟩
theorem head_spec (h : Own W m w) (hs : PgS w v L) (hc : pgCheck L = 0) (page : Int) :
    Calls Tryz.prog 150 #[v, .int .i64 page] w fun e w' => e = .returned (.int .i64 (pgHd L page)) ∧ Own W m w' := by
  obtain ⟨A, c, rfl, h1, h2, h3⟩ := hs
  unfold maxLen at h2
  obtain ⟨z1, z2, z3⟩ := pgCheck_zero hc
  obtain ⟨g, o, rfl, hA⟩ := h3 (by omega)
  exact (callsIn_wide.1 (head_in g o c L.length L rfl (by omega) h1 (by omega) page z3 w hA)).mono fun _ _ ⟨he, hb⟩ => ⟨he, h.then_below hb⟩
set_option maxHeartbeats 1000000 in
theorem free_spec (h : Own W m w) (hs : PgS w v L) :
    Calls Tryz.prog 154 #[v] w fun e w' => e = .returned (.int .i64 (pgFree L)) ∧ Own W m w' := by
  by_cases hc : pgCheck L = 0
  · obtain ⟨A, c, rfl, h1, h2, h3⟩ := hs
    unfold maxLen at h2
    obtain ⟨z1, z2, z3⟩ := pgCheck_zero hc
    obtain ⟨g, o, rfl, hA⟩ := h3 (by omega)
    exact (callsIn_wide.1 (free_in g o c L.length L rfl (by omega) (by omega) h1 (by omega) z3 hc w hA)).mono fun _ _ ⟨he, hb⟩ => ⟨he, h.then_below hb⟩
  · have h0 := h.alloc (.cells #[.int .i64 0] 3)
    have hs0 := hs.below ((Below.refl _ w).alloc (Nat.le_refl _) (.cells #[.int .i64 0] 3))
    have hf : pgFree L = 0 := by unfold pgFree; rw [if_neg hc]
    have hc : pgCheck L = 50 := (pgCheck_cases L).resolve_left hc
    have HC := Lib.hid hc
    have HF := Lib.hid hf
    have hb := h.new (.cells #[.int .i64 0] 3)
    clear hc hf
    go_enter Tryz.func154, Tryz.ntmps154
    go_wp2_with (go_at_call 149; refine (check_spec hb hs0).mono ?_; rintro e w' ⟨rfl, h1⟩; rw [HC.out]; have q0 := h1.cell List.mem_cons_self 0; have f0 := h1.frozen List.mem_cons_self 0; simp at q0)
    have q1 := (h1.set 0 (.int .i64 0)).cell List.mem_cons_self 0
    simp at q1
    exact bodyPost_ret (v := .int .i64 0) (by simp [results, Tryz.f154, go_sem, q1]) rfl ⟨by rw [HF.out], (h1.set 0 _).skip⟩
/-- what Head answers -/
def pgHeadE (L : List Pg) (page : Int) : Int × Int := if pgCheck L ≠ 0 then (0, 50) else if page < 0 ∨ (L.length : Int) ≤ page then (0, 9) else (pgHd L page, 0)
set_option maxHeartbeats 1000000 in
theorem Head_spec (h : Own W m w) (hs : PgS w v L) (page : Int) :
    Calls Tryz.prog 86 #[v, .int .i64 page] w fun e w' => e = .returned (.tuple #[.int .i64 (pgHeadE L page).1, .int .i64 (pgHeadE L page).2]) ∧ Own W m w' := by
  have hs' := hs
  obtain ⟨A, c, rfl, h1, h2, h3⟩ := hs'
  unfold maxLen at h2
  obtain ⟨N, hN⟩ : ∃ N, L.length = N := ⟨_, rfl⟩
  have HN := Lib.hid hN
  rw [hN] at hs h1 ⊢
  clear h3 hN
  by_cases hc : pgCheck L = 0
  · have HC := Lib.hid hc
    clear hc
    by_cases hp : page < 0 ∨ (N : Int) ≤ page
    · have hr : pgHeadE L page = (0, 9) := by unfold pgHeadE; rw [if_neg (by rw [HC.out]; simp), if_pos (by rw [HN.out]; exact hp)]
      rw [hr]
      clear hr
      rcases hp with hp | hp
      all_goals
        have hp0 : page < 0 ∨ 0 ≤ page := by omega
        rcases hp0 with hp0 | hp0
        all_goals
          go_enter Tryz.func86, Tryz.ntmps86
          go_wp2_with (go_at_call 149; refine (check_spec h hs).mono ?_; rintro e w' ⟨rfl, h1⟩; rw [HC.out])
          go_ret2
          exact ⟨rfl, h1⟩
    · have hr : pgHeadE L page = (pgHd L page, 0) := by unfold pgHeadE; rw [if_neg (by rw [HC.out]; simp), if_neg (by rw [HN.out]; exact hp)]
      rw [hr]
      have hp1 : 0 ≤ page := by omega
      have hp2 : page < N := by omega
      clear hr hp
      go_enter Tryz.func86, Tryz.ntmps86
      go_wp2_with (first | (go_at_call 149; refine (check_spec (Own.self w) hs).mono ?_; rintro e w1 ⟨rfl, h0⟩; rw [HC.out]; have hs1 := hs.own h0; have h1 := h.of_self h0) | (go_at_call 150; refine (head_spec h1 hs1 HC.out page).mono ?_; rintro e w' ⟨rfl, h2⟩))
      go_ret2
      exact ⟨rfl, h2⟩
  · have hr : pgHeadE L page = (0, 50) := by unfold pgHeadE; rw [if_pos hc]
    rw [hr]
    have hc : pgCheck L = 50 := (pgCheck_cases L).resolve_left hc
    have HC := Lib.hid hc
    clear hc hr
    go_enter Tryz.func86, Tryz.ntmps86
    go_wp2_with (go_at_call 149; refine (check_spec h hs).mono ?_; rintro e w' ⟨rfl, h1⟩; rw [HC.out])
    go_ret2
    exact ⟨rfl, h1⟩
end
end Go.Proofs.YtfgomgodfcdijaaGreatDoor

/-
  What a memory tells of frame.Head: of any table. No condition.
-/
namespace Go.Proofs.YtfgomgodfcdijaaGreatDoor.Ex
open Go
noncomputable section
/-- pages, out of cells -/
def pgsAt (cs : T AV) : Nat → Nat → Option (List Pg)
  | _, 0 => some []
  | i, n + 1 => match cs.get i with
    | some (.int .i64 a) => match cs.get (Nat.add i 1) with
      | some (.int .i64 b) => match cs.get (Nat.add i 2) with
        | some (.int .i64 c) => match pgsAt cs (Nat.add i 3) n with
          | some l => some ((a, b, c) :: l)
          | none => none
        | _ => none
      | _ => none
    | _ => none
def spHead : Sp := fun f args h => match Nat.beq f 86 with
  | false => none
  | true => match args with
    | [.sl t off len 3 _, .int .i64 p] => match h.get t with
      | some (.cells cs _ _) => match pgsAt cs off len with
        | some L => some (.tup [.int .i64 (pgHeadE L p).1, .int .i64 (pgHeadE L p).2], h)
        | none => none
      | _ => none
    | _ => none
theorem fn_head : FnOk Tryz.prog 86 := ⟨Tryz.f86, _, Tryz.func86, by kernel_rfl, rfl⟩
theorem pgsAt_get {cs : T AV} : ∀ {n i : Nat} {L : List Pg}, pgsAt cs i n = some L → L.length = n ∧ ∀ j p, L[j]? = some p → cs.get (i + j * 3) = some (.int .i64 p.1) ∧ cs.get (i + j * 3 + 1) = some (.int .i64 p.2.1) ∧ cs.get (i + j * 3 + 2) = some (.int .i64 p.2.2)
  | 0, i, L, h => by
    simp only [pgsAt, Option.some.injEq] at h
    subst h
    exact ⟨rfl, fun j p hp => by simp at hp⟩
  | n + 1, i, L, h => by
    unfold pgsAt at h
    split at h <;> first | (cases h; done) | skip
    rename_i a ha
    split at h <;> first | (cases h; done) | skip
    rename_i b hb
    split at h <;> first | (cases h; done) | skip
    rename_i c hc
    split at h <;> first | (cases h; done) | skip
    rename_i l hl
    simp only [Option.some.injEq] at h
    subst h
    obtain ⟨h1, h2⟩ := pgsAt_get hl
    refine ⟨by simp [h1], fun j p hp => ?_⟩
    cases j with
    | zero =>
      simp only [List.getElem?_cons_zero, Option.some.injEq] at hp
      subst hp
      exact ⟨by simpa using ha, by simpa using hb, by simpa using hc⟩
    | succ j =>
      obtain ⟨q1, q2, q3⟩ := h2 j p (by simpa using hp)
      have e : Nat.add i 3 + j * 3 = i + (j + 1) * 3 := by show i + 3 + j * 3 = _; omega
      rw [e] at q1 q2 q3
      exact ⟨q1, q2, q3⟩
section
variable [Nums]
theorem spHead_sound : CallS Tryz.prog spHead := fun f args h v h' he => by
  unfold spHead at he
  split at he <;> first | (cases he; done) | skip
  rename_i hf
  have hf := Nat.eq_of_beq_eq_true hf
  subst hf
  split at he <;> first | (cases he; done) | skip
  rename_i t off len r p
  split at he <;> first | (cases he; done) | skip
  rename_i cs k e hg
  split at he <;> first | (cases he; done) | skip
  rename_i L hL
  simp only [Option.some.injEq, Prod.mk.injEq] at he
  obtain ⟨rfl, rfl⟩ := he
  refine ⟨fn_head, fun ρ w args' hH ha => ?_⟩
  obtain ⟨y, ys, hy, hp, hys⟩ := ha.uncons
  obtain ⟨y2, hy2, hp2⟩ := hys.one
  unfold VR at hp hp2
  obtain ⟨b, s, c, hb, rfl, hlc, hcm, -⟩ := hp
  subst hp2
  have hargs : args' = #[.slice (some ⟨b, off, none⟩) len c, .int .i64 p] := by
    apply Array.ext'
    rw [hy, hy2]
  subst hargs
  obtain ⟨b', s', hb', hO⟩ := hH.obj _ _ hg
  rw [hb] at hb'
  cases hb'
  obtain ⟨cur, hcur, -, -, hcells⟩ := hO
  obtain ⟨hlen, hat⟩ := pgsAt_get hL
  have hv : ∀ (i : Nat) (n : Int), cs.get i = some (.int .i64 n) → w.cell? ⟨b, i, none⟩ = some (.int .i64 n) := fun i n hi => by
    obtain ⟨_, y, k2, k3⟩ := hcells i _ hi
    unfold VR at k3
    subst k3
    simp [World.cell?, hcur, k2]
  have hs : PgS w (.slice (some ⟨b, off, none⟩) len c) L := by
    refine ⟨_, c, by rw [hlen], by omega, hcm, fun _ => ⟨b, off, rfl, heap_lt hcur, fun j q hq => ?_⟩⟩
    obtain ⟨k1, k2, k3⟩ := hat j q hq
    exact ⟨hv _ _ k1, hv _ _ k2, hv _ _ k3⟩
  refine (Head_spec (Own.self w) hs p).mono ?_
  rintro e w' ⟨rfl, h'⟩
  exact ⟨ρ, _, rfl, by unfold VR; exact ⟨_, rfl, VRs.cons (by unfold VR; rfl) (VRs.cons (by unfold VR; rfl) VRs.nil)⟩, Stp.left hH h'.below⟩
end
end
end Go.Proofs.YtfgomgodfcdijaaGreatDoor.Ex

/-
  From what a law's walk gives to the law's row: the call returns true, and of what was there before nothing has turned. No condition.
-/
namespace Go.Proofs.YtfgomgodfcdijaaGreatDoor
open Go.ChangeShapes Go.WideShapes Go.ChangeAt Go.RowKit

theorem Tryz.own : ownKnob Tryz.prog.godebug = none := by kernel_rfl
theorem Tryz.laidOut : laidOutB Tryz.prog = true := by kernel_rfl

section
variable {H : Type} {enc : TypeId × Value → H} {P : Program}
/-- arguments read behind the call as they did -/
theorem trodAll_below (hl : laidOutB P = true) {W W' : World} (hb : Below W.heap.size W W') {sp : Nat → Bool} :
    ∀ (ts : List TypeId) (vs : List Value) (ds : List (DataW H)) (ps : List MemPlace), (∀ t ∈ ts, P.readableRec t = true ∧ t < P.types.size) →
    DataW.TrodAll enc P W 0 (fun _ => true) true ts vs ds ps → (∀ x ∈ ps, x.block < W.heap.size) → (∀ x ∈ ps, sp x.block = true) →
    DataW.TrodAll enc P W' 0 sp true ts vs ds ps
  | [], vs, ds, ps, _, h, _, _ => by
    obtain ⟨rfl, rfl, rfl⟩ := trodAll_nil h
    exact trodAll_mk0
  | t :: ts, vs, ds, ps, hr, h, hlt, hs => by
    obtain ⟨v, vs', d, ds', p, q, rfl, rfl, rfl, h1, h2⟩ := trodAll_cons h
    obtain ⟨hr1, hr2⟩ := hr t List.mem_cons_self
    exact trodAll_cons_mk (WideElems.Trod_stays hl hr1 hr2 h1 (fun x hx => hb.same (hlt x (List.mem_append_left _ hx))) (fun x hx => hs x (List.mem_append_left _ hx)))
      (trodAll_below hl hb ts vs' ds' q (fun t' ht' => hr t' (List.mem_cons_of_mem _ ht')) h2 (fun x hx => hlt x (List.mem_append_right _ hx)) (fun x hx => hs x (List.mem_append_right _ hx)))

theorem law_post {f : Func} {s : ChangeSpec} {T : TypeId} {apart fresh handsOn again : Bool} {W W' : World} {args : Array Value} {ds gs : List (DataW H)} {before : List MemPlace} (hl : laidOutB P = true)
    (hT : P.underlying T = some .bool) (hres : f.resultTypes = #[T]) (hvars : s.vars = []) (hr : ∀ t ∈ f.params.toList, P.readableRec t = true ∧ t < P.types.size)
    (hW : DataW.Whole enc P f.params.toList s.vars apart W args.toList ds gs before)
    (hfn : s.fn H ds = { results := [.lit (.bool true)], args := ds }) (hb : Below W.heap.size W W') :
    s.post enc P f apart fresh handsOn again W args (.bool true) W' := by
  have hW' := hW
  obtain ⟨p, q, hA, hV, rfl, hz, hn⟩ := hW
  rw [hvars] at hV
  obtain ⟨rfl, rfl⟩ := trodVars_none hV
  simp only [List.append_nil] at hW'
  have hlt : ∀ x ∈ p, x.block < W.heap.size := fun x hx => hW'.lt x hx
  have hA' : ∀ sp : Nat → Bool, (∀ x ∈ p, sp x.block = true) → DataW.TrodAll enc P W' 0 sp true f.params.toList args.toList ds p :=
    fun sp hs => trodAll_below hl hb _ _ _ _ hr hA hlt hs
  have hR : ∀ (b : Nat) (sp : Nat → Bool) (hd : Bool), DataW.TrodAll enc P W' b sp hd f.resultTypes.toList ((Value.bool true).resultList f.resultTypes.size) [.lit (.bool true)] [] := fun b sp hd => by
    rw [hres]; exact trodAll_mk1 (shut_bool hT _)
  have hold : ∀ x ∈ p, (fun b => decide (b < W.heap.size)) x.block = true := fun x hx => by simpa using hlt x hx
  have hds : s.fn H (ds ++ []) = { results := [.lit (.bool true)], args := ds } := by rw [List.append_nil]; exact hfn
  refine ⟨ds, [], p, [], p, [], hW', ?_, ?_, ?_, World.keptBut_mono (fun x hx => ⟨hx, .inr (.inl hx)⟩) (hb.frame (· ∈ p)), fun _ => ?_⟩
  · rw [hds]; exact hR _ _ _
  · rw [hds]; exact hA' _ hold
  · rw [hvars, hds]; rfl
  · refine ⟨ok_one hres rfl (okWide_bool_mk hT _), _, [], [] ++ p, ⟨[] ++ p, [], trodAll_append (hA' _ (fun _ _ => rfl)) (hR 0 (fun _ => true) true), by rw [hvars]; rfl, by simp, ?_, ?_⟩, ?_⟩
    · intro b off hp
      have hin : MemPlace.cell b off ∈ p := by simpa using hp
      rw [hb.frozen (hlt _ hin)]
      exact hz b off (by simpa using hin)
    · intro ha
      simpa using hn ha
    · intro x hx _
      simpa using hx
end
end Go.Proofs.YtfgomgodfcdijaaGreatDoor

/-
  From a run in the kernel to the form that a law's last text wants. No condition.
-/
namespace Go.Proofs.YtfgomgodfcdijaaGreatDoor.Ex
open Go
theorem mixed : Tryz.prog.follows .mixedOrders = true := by kernel_rfl
theorem yes_own {n : Nat} {f : FuncId} (h : yes Tryz.prog n f = true) (w : World) : Calls Tryz.prog f #[] w fun e w' => e = .returned (.bool true) ∧ Own w [] w' :=
  (yes_calls mixed h w).mono fun _ _ h => ⟨h.1, ⟨h.2, by simp, by simp⟩⟩
/-- .. amid other blocks -/
theorem yes_in {n : Nat} {f : FuncId} (h : yes Tryz.prog n f = true) {W w : World} {m : List (Nat × Obj)} (hO : Own W m w) : Calls Tryz.prog f #[] w fun e w' => e = .returned (.bool true) ∧ Own W m w' :=
  (yes_calls mixed h w).mono fun _ _ h => ⟨h.1, hO.then_below h.2⟩
/-- .. where calls are known, and tables -/
theorem yes_over {gs : List (Nat × List Int)} {σ : Nat → Int} {ov : Ov} (hov : OvOk Tryz.prog gs σ ov) {n : Nat} {f : FuncId} (h : tree Tryz.prog gs ov n f [] .leaf [] = true) (w : World) (hg : Tabs gs w) : Calls Tryz.prog f #[] w fun e w' => e = .returned (.bool true) ∧ Own w [] w' :=
  (leaf_calls mixed hov h w hg).mono fun _ _ h => ⟨h.1, ⟨h.2, by simp, by simp⟩⟩
/-- a law with arguments -/
theorem law_over {gs : List (Nat × List Int)} {σ : Nat → Int} {ov : Ov} (hov : OvOk Tryz.prog gs σ ov) {n : Nat} {f : FuncId} {args : List AV} (ha : AV.shuts args = true) (d : DT) (hp : d.plain = true) (h : tree Tryz.prog gs ov n f args d [] = true) (hb : ¬ BadP σ d) (w : World) (hg : Tabs gs w) :
    Calls Tryz.prog f (valsOf σ args).toArray w fun e w' => e = .returned (.bool true) ∧ Own w [] w' :=
  (tree_calls mixed hov ha d hp h hb w hg).mono fun _ _ h => ⟨h.1, ⟨h.2, by simp, by simp⟩⟩
end Go.Proofs.YtfgomgodfcdijaaGreatDoor.Ex
