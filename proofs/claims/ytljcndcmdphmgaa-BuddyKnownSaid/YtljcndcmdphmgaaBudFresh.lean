/-
  New pages, in plain Lean: the greatest free blocks from the first page on; a table without a block that is out and without two free buddies is that.
-/
import Derived.Test.YtljcndcmdphmgaaBudPlain2
namespace Go.Proofs.Ytljcndcmdphmgaa
open Go.RowKit

def fits (i n o : Nat) : Prop := i % 2 ^ o = 0 ∧ i + 2 ^ o ≤ n
instance (i n o : Nat) : Decidable (fits i n o) := by unfold fits; infer_instance
/-- the greatest order of a block that fits -/
def gOrd (i n : Nat) : Nat → Nat
  | 0 => 0
  | o + 1 => if fits i n (o + 1) then o + 1 else gOrd i n o
theorem gOrd_le (i n : Nat) : ∀ m, gOrd i n m ≤ m
  | 0 => by simp [gOrd]
  | m + 1 => by
    unfold gOrd
    have := gOrd_le i n m
    split <;> omega
theorem fits_down {i n o p : Nat} (h : fits i n o) (hp : p ≤ o) : fits i n p := by
  refine ⟨mod_of_dvd (Nat.pow_dvd_pow 2 hp) h.1, ?_⟩
  have := Nat.pow_le_pow_right (show 0 < 2 from by omega) hp
  have := h.2
  omega
theorem gOrd_fits {i n : Nat} (h : i < n) : ∀ m, fits i n (gOrd i n m)
  | 0 => by simp [gOrd, fits, Nat.mod_one]; omega
  | m + 1 => by
    unfold gOrd
    split
    · assumption
    · exact gOrd_fits h m
theorem gOrd_max (i n : Nat) : ∀ m o, o ≤ m → fits i n o → o ≤ gOrd i n m
  | 0, o, h, _ => by omega
  | m + 1, o, h, hf => by
    unfold gOrd
    split
    · exact h
    · rename_i hn
      by_cases ho : o = m + 1
      · subst ho; exact absurd hf hn
      · exact gOrd_max i n m o (by omega) hf
def gBlocks (n : Nat) : Nat → Nat → List Pg
  | 0, _ => []
  | f + 1, i => if i < n then fb (gOrd i n 10) :: gBlocks n f (i + 2 ^ gOrd i n 10) else []
theorem gBlocks_row (n : Nat) : ∀ f i, Row i (gBlocks n f i)
  | 0, i => trivial
  | f + 1, i => by
    unfold gBlocks
    split
    · rename_i h
      refine ⟨fb_head (gOrd_le i n 10), ?_, ?_⟩
      · rw [fb_size]; exact (gOrd_fits h 10).1
      · rw [fb_size]; exact gBlocks_row n f _
    · trivial
theorem gBlocks_len (n : Nat) : ∀ f i, i ≤ n → n ≤ i + f → (lay (gBlocks n f i)).length = n - i
  | 0, i, h1, h2 => by simp [gBlocks, lay]; omega
  | f + 1, i, h1, h2 => by
    unfold gBlocks
    split
    · rename_i h
      have hf := (gOrd_fits h 10).2
      have := Nat.two_pow_pos (gOrd i n 10)
      rw [lay_cons_len, fb_size, gBlocks_len n f _ hf (by omega)]
      omega
    · simp [lay]; omega
theorem gBlocks_free (n : Nat) : ∀ f i, ∀ p ∈ gBlocks n f i, ∃ o, p = fb o
  | 0, i, p, h => by simp [gBlocks] at h
  | f + 1, i, p, h => by
    unfold gBlocks at h
    split at h
    · rcases List.mem_cons.1 h with rfl | h
      · exact ⟨_, rfl⟩
      · exact gBlocks_free n f _ p h
    · simp at h
theorem gBlocks_fuel (n : Nat) : ∀ f g i, n ≤ i + f → n ≤ i + g → gBlocks n f i = gBlocks n g i
  | 0, 0, i, _, _ => rfl
  | 0, g + 1, i, h, _ => by unfold gBlocks; rw [if_neg (by omega)]
  | f + 1, 0, i, _, h => by unfold gBlocks; rw [if_neg (by omega)]
  | f + 1, g + 1, i, h1, h2 => by
    have := Nat.two_pow_pos (gOrd i n 10)
    unfold gBlocks
    rw [gBlocks_fuel n f g _ (by omega) (by omega)]
def freshB (n : Nat) : List Pg := gBlocks n n 0
def freshL (n : Nat) : List Pg := lay (freshB n)
theorem fresh_tab (n : Nat) : Tab (freshL n) (freshB n) := ⟨rfl, gBlocks_row n n 0⟩
theorem fresh_len (n : Nat) : (freshL n).length = n := by unfold freshL freshB; rw [gBlocks_len n n 0 (by omega) (by omega)]; omega
theorem free_sum_len : ∀ (bs : List Pg), (∀ p ∈ bs, p.1 = 0) → freeSum bs = (lay bs).length
  | [], _ => rfl
  | p :: bs, h => by
    have := free_sum_len bs fun q hq => h q (List.mem_cons_of_mem _ hq)
    have h0 := h p List.mem_cons_self
    rw [lay_cons_len, freeSum, if_pos h0, this]
    omega
theorem outPl_free : ∀ (bs : List Pg) (i : Nat), (∀ p ∈ bs, p.1 = 0) → outPl i bs = []
  | [], i, _ => rfl
  | p :: bs, i, h => by
    have h0 := h p List.mem_cons_self
    rw [outPl, outPl_free bs _ fun q hq => h q (List.mem_cons_of_mem _ hq), h0]
    rfl
theorem fresh_kind (n : Nat) : ∀ p ∈ freshB n, p.1 = 0 := fun p hp => by
  obtain ⟨o, rfl⟩ := gBlocks_free n n 0 p hp
  rfl
theorem fresh_sum (n : Nat) : freeSum (freshB n) = n := by
  rw [free_sum_len _ (fresh_kind n)]
  have := fresh_len n
  unfold freshL at this
  omega
theorem fresh_out (n : Nat) : outPl 0 (freshB n) = [] := outPl_free _ _ (fresh_kind n)
theorem gBlocks_get (n : Nat) : ∀ (f i o : Nat) (b1 b2 : List Pg), gBlocks n f i = b1 ++ fb o :: b2 → o = gOrd (i + (lay b1).length) n 10
  | 0, i, o, b1, b2, h => by simp [gBlocks] at h
  | f + 1, i, o, b1, b2, h => by
    unfold gBlocks at h
    split at h
    · cases b1 with
      | nil =>
        simp only [List.nil_append, List.cons.injEq] at h
        rw [show (lay []).length = 0 from rfl, Nat.add_zero]
        exact (fb_inj h.1).symm
      | cons p b1 =>
        simp only [List.cons_append, List.cons.injEq] at h
        obtain ⟨rfl, h⟩ := h
        have := gBlocks_get n f _ o b1 b2 h
        rw [lay_cons_len, fb_size, ← Nat.add_assoc]
        exact this
    · simp at h
theorem fresh_nobud (n : Nat) : NoBud (freshL n) := by
  intro a o ho ha h1 h2
  obtain ⟨b1, b2, hb, hl⟩ := tab_block (fresh_tab n) h1 (fb_kind o)
  have := gBlocks_get n n 0 o b1 b2 hb
  rw [Nat.zero_add, hl] at this
  have hlt := (List.getElem?_eq_some_iff.1 h2).1
  obtain ⟨d1, d2, hd, hl2⟩ := tab_block (fresh_tab n) h2 (fb_kind o)
  have hlen := fresh_len n
  have e : (freshL n).length = (lay d1).length + (2 ^ o + (lay d2).length) := by
    unfold freshL
    rw [hd, lay_append, List.length_append, lay_cons_len, fb_size]
  have hp : 2 ^ (o + 1) = 2 * 2 ^ o := by rw [Nat.pow_succ]; omega
  have := gOrd_max a n 10 (o + 1) (by omega) ⟨by rw [hp]; exact ha, by rw [hp]; omega⟩
  omega
/-- a block that is free, and could be greater: there are two buddies -/
theorem no_lone {L bs : List Pg} (h : Tab L bs) (hf : ∀ p ∈ bs, p.1 = 0) (hN : NoBud L) : ∀ (o j : Nat), o < 10 → L[j]? = some (fb o) → j % (2 * 2 ^ o) = 0 → j + 2 * 2 ^ o ≤ L.length → False := by
  intro o
  induction o using Nat.strongRecOn with
  | _ o ih =>
    intro j ho hj hm hle
    have hlen := tab_len h
    have hp := Nat.two_pow_pos o
    obtain ⟨b1, b2, rfl, hb⟩ := tab_block h hj (fb_kind o)
    have hrow := (row_append b1 _ 0).1 h.2
    rw [Nat.zero_add, hb] at hrow
    obtain ⟨-, -, -, hr⟩ := hrow
    rw [fb_size] at hr
    have hll : (lay (b1 ++ fb o :: b2)).length = (lay b1).length + (2 ^ o + (lay b2).length) := by rw [lay_append, List.length_append, lay_cons_len, fb_size]
    cases b2 with
    | nil => simp [lay] at hll; omega
    | cons y b2 =>
      obtain ⟨hy1, hy2, -⟩ := hr
      have hy0 : y.1 = 0 := hf y (by simp)
      have hyo := pgHead_order hy1
      obtain ⟨p, hp'⟩ : ∃ p : Nat, y = fb p := by
        have := of_decide_eq_true hy1
        refine ⟨y.2.1.toNat, ?_⟩
        obtain ⟨y0, y1, y2⟩ := y
        simp only [fb] at *
        simp only [Prod.mk.injEq]
        omega
      subst hp'
      have hg : L[j + 2 ^ o]? = some (fb p) := by
        have h' : Tab L ((b1 ++ [fb o]) ++ fb p :: b2) := by simpa using h
        have := tab_at h'
        rwa [lay_append, List.length_append, lay_one_len, fb_size, hb] at this
      rw [fb_size] at hy2
      have hpo : p ≤ o := by
        rcases Nat.lt_or_ge o p with hlt | hge
        · exfalso
          have h1 : 2 * 2 ^ o ∣ 2 ^ p := by
            rw [show 2 * 2 ^ o = 2 ^ (o + 1) from by rw [Nat.pow_succ]; omega]
            exact Nat.pow_dvd_pow 2 hlt
          have h2 := Nat.dvd_trans h1 (Nat.dvd_of_mod_eq_zero hy2)
          have h3 := (Nat.dvd_add_right (Nat.dvd_of_mod_eq_zero hm)).1 h2
          have := Nat.le_of_dvd hp h3
          omega
        · exact hge
      by_cases he : p = o
      · subst he
        exact hN j p ho hm hj hg
      · have hlt : p < o := by omega
        have hd : 2 * 2 ^ p ∣ 2 ^ o := by
          rw [show 2 * 2 ^ p = 2 ^ (p + 1) from by rw [Nat.pow_succ]; omega]
          exact Nat.pow_dvd_pow 2 hlt
        have hle2 := Nat.le_of_dvd hp hd
        refine ih p hlt (j + 2 ^ o) (by omega) hg ?_ (by omega)
        exact Nat.mod_eq_zero_of_dvd ((Nat.dvd_add_right (Nat.dvd_trans hd (Nat.dvd_trans (Nat.dvd_mul_left _ _) (Nat.dvd_of_mod_eq_zero hm)))).2 hd)
theorem whole_blocks {L : List Pg} (hN : ∀ (o j : Nat), o < 10 → L[j]? = some (fb o) → j % (2 * 2 ^ o) = 0 → j + 2 * 2 ^ o ≤ L.length → False) : ∀ (bs b0 : List Pg) (f : Nat), Tab L (b0 ++ bs) → (∀ p ∈ bs, p.1 = 0) → L.length ≤ (lay b0).length + f → bs = gBlocks L.length f (lay b0).length
  | [], b0, f, h, _, hf => by
    have hlen := tab_len h
    rw [List.append_nil] at hlen
    cases f with
    | zero => rfl
    | succ f => unfold gBlocks; rw [if_neg (by omega)]
  | y :: bs, b0, f, h, h0, hf => by
    have hlen := tab_len h
    have hrow := (row_append b0 _ 0).1 h.2
    rw [Nat.zero_add] at hrow
    obtain ⟨-, hy1, hy2, -⟩ := hrow
    have hy0 : y.1 = 0 := h0 y List.mem_cons_self
    have hyo := pgHead_order hy1
    obtain ⟨p, rfl⟩ : ∃ p : Nat, y = fb p := by
      have := of_decide_eq_true hy1
      refine ⟨y.2.1.toNat, ?_⟩
      obtain ⟨y0, y1, y2⟩ := y
      simp only [fb] at *
      simp only [Prod.mk.injEq]
      omega
    have hp10 : p ≤ 10 := by simp [fb] at hyo; omega
    have hg := tab_at h
    rw [fb_size] at hy2
    have hll : (lay (b0 ++ fb p :: bs)).length = (lay b0).length + (2 ^ p + (lay bs).length) := by rw [lay_append, List.length_append, lay_cons_len, fb_size]
    have hp := Nat.two_pow_pos p
    have hord : gOrd (lay b0).length L.length 10 = p := by
      have h1 := gOrd_max (lay b0).length L.length 10 p hp10 ⟨hy2, by omega⟩
      rcases Nat.lt_or_ge p (gOrd (lay b0).length L.length 10) with hlt | hge
      · exfalso
        have h2 := fits_down (gOrd_fits (show (lay b0).length < L.length from by omega) 10) (show p + 1 ≤ _ from hlt)
        have h3 := gOrd_le (lay b0).length L.length 10
        have e : 2 ^ (p + 1) = 2 * 2 ^ p := by rw [Nat.pow_succ]; omega
        unfold fits at h2
        rw [e] at h2
        exact hN p _ (by omega) hg h2.1 h2.2
      · omega
    cases f with
    | zero => omega
    | succ f =>
      unfold gBlocks
      rw [if_pos (by omega), hord]
      have hT : Tab L ((b0 ++ [fb p]) ++ bs) := by simpa using h
      have := whole_blocks hN bs (b0 ++ [fb p]) f hT (fun q hq => h0 q (List.mem_cons_of_mem _ hq)) (by rw [lay_append, List.length_append, lay_one_len, fb_size]; omega)
      rw [lay_append, List.length_append, lay_one_len, fb_size] at this
      rw [← this]
/-- WHOLE AGAIN -/
theorem whole_fresh {L bs : List Pg} (h : Tab L bs) (hf : ∀ p ∈ bs, p.1 = 0) (hN : NoBud L) : L = freshL L.length := by
  have := whole_blocks (no_lone h hf hN) bs [] L.length h hf (by simp [lay])
  have e : bs = freshB L.length := this
  unfold freshL
  rw [← e]
  exact h.1
theorem outPl_kind : ∀ (bs : List Pg) (i : Nat), Row i bs → outPl i bs = [] → ∀ p ∈ bs, p.1 = 0
  | [], i, _, _, p, h => by simp at h
  | q :: bs, i, hr, ho, p, h => by
    rw [outPl, List.append_eq_nil_iff] at ho
    rcases List.mem_cons.1 h with rfl | h
    · rcases head_kind hr.1 with h0 | h0
      · exact h0
      · rw [if_pos h0] at ho; cases ho.1
    · exact outPl_kind bs _ hr.2.2 ho.2 p h
end Go.Proofs.Ytljcndcmdphmgaa
