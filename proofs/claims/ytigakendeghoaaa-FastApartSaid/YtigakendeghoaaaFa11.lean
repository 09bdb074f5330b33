/-
  Texts of this claim, joined. No condition.
-/
import Derived.Test.YtigakendeghoaaaFa10
/-
  wainscotlaw22.FastApart: what is counted, and the whole. No condition.
-/
namespace Go.Proofs.Ytigakendeghoaaa.FastAp
open Go Ex Mem See Fast
open Step (TaskP)
section
variable {key k : Nat} {bits : List Int} {fr : Bool} {n0 : Int} {L : List Int} {T : Nat} {cn : CountsP} {lk : Bool} {A : Option Addr} {len cap : Nat}
theorem i_wrap {i : Int} (h0 : 0 ≤ i) (h : i < 1000) : IntKind.i64.wrap (i + 1) = i + 1 := by
  rw [IntKind.wrap_i64]
  omega
/-! the list is counted -/
def K2 (key k : Nat) (bits : List Int) (fr : Bool) (n0 : Int) (L : List Int) (T : Nat) (cn : CountsP) (lk : Bool) (A : Option Addr) (len cap : Nat) (j : Nat) (o : LO) : Prop := match o with
  | .cont θ => ∃ j', j' ≤ L.length ∧ L.length - j' < L.length - j ∧ AgreeD θ (L2 fr L.isEmpty).t.b (roB A len cap) (σ2 key k bits fr n0 L T cn lk j) Ωn (σ2 key k bits fr n0 L T cn lk j') Ωn
  | .out θ => AgreeD θ (L2 fr L.isEmpty).post.b (roB A len cap) (σ2 key k bits fr n0 L T cn lk j) Ωn (σ0 key k bits fr n0 L T cn lk) (Ω0 key k bits fr)
theorem σ2_v {j i : Nat} (hi : i < 37) : σ2 key k bits fr n0 L T cn lk j i = σ0 key k bits fr n0 L T cn lk i := by
  unfold σ2 σ0
  rw [sg_v (by omega), sg_v (by omega), if_neg (by omega), if_neg (by omega)]
theorem σ2_l {j q e jj : Nat} (hq : q < 5) : σ2 key k bits fr n0 L T cn lk j (lc q e jj) = σ0 key k bits fr n0 L T cn lk (lc q e jj) := by
  unfold σ2 σ0 sg lc
  simp only [if_neg (show ¬ (4096 + ((e * 64 + jj) * 64 + q) < 2048) by omega), if_neg (show ¬ (4096 + ((e * 64 + jj) * 64 + q) < 4096) by omega)]
  rw [show (4096 + ((e * 64 + jj) * 64 + q) - 4096) % 64 = q by omega, if_neg (by omega)]
theorem σ2_n {j q : Nat} (hq : q < 5) : σ2 key k bits fr n0 L T cn lk j (ln q) = σ0 key k bits fr n0 L T cn lk (ln q) := by
  unfold σ2 σ0
  rw [sg_ln (by omega), sg_ln (by omega), if_neg (by omega)]
theorem σ0_L1 {i : Nat} : σ0 key k bits fr n0 L T cn lk (lc 1 i 0) = L.getD i 0 := by
  unfold σ0
  rw [sg_lc (by omega) (by omega)]
  exact (one_at L i 0).trans (if_pos rfl)
theorem σ0_n1 : σ0 key k bits fr n0 L T cn lk (ln 1) = (L.length : Int) := by
  unfold σ0
  rw [sg_ln (by omega)]
  exact congrArg _ (one_len L)
theorem round2 (hL : ∀ x ∈ L, 0 ≤ x ∧ x < 10) (hlen : L.length ≤ 10) {j : Nat} (hj : j ≤ L.length) : RunL (σ2 key k bits fr n0 L T cn lk j) (K2 key k bits fr n0 L T cn lk A len cap j) (D2 L.isEmpty) := by
  have e37 : σ2 key k bits fr n0 L T cn lk j 37 = (j : Int) := by unfold σ2; rw [sg_v (by omega), if_pos rfl]
  have hro : ∀ (s2 : Nat → Int), (∀ e jj, s2 (lc 0 e jj) = σ2 key k bits fr n0 L T cn lk j (lc 0 e jj)) → s2 (ln 0) = σ2 key k bits fr n0 L T cn lk j (ln 0) →
      ∀ i p, roB A len cap i = some p → (s2 (ln i)).toNat = (σ2 key k bits fr n0 L T cn lk j (ln i)).toNat ∧ ∀ e, s2 (lc i e 0) = σ2 key k bits fr n0 L T cn lk j (lc i e 0) := by
    intro s2 h1 h2 i p hp
    have : i = 0 := by
      by_cases h : i = 0
      · exact h
      · simp [roB, h] at hp
    subst this
    exact ⟨by rw [h2], fun e => h1 e 0⟩
  have out : j = L.length → K2 key k bits fr n0 L T cn lk A len cap j (.out {}) := by
    intro hjl
    show AgreeD {} ⟨38, 6, 0, 60⟩ _ _ _ _ _
    have hl : ∀ i, i < 6 → ∀ e jj, σ0 key k bits fr n0 L T cn lk (lc i e jj) = σ2 key k bits fr n0 L T cn lk j (lc i e jj) := by
      intro i hi e jj
      by_cases h5 : i = 5
      · subst h5
        have h1 : (l0 key k bits fr L) 5 = one (hadF L) := rfl
        unfold σ0 σ2 sg lc
        simp only [if_neg (show ¬ (4096 + ((e * 64 + jj) * 64 + 5) < 2048) by omega), if_neg (show ¬ (4096 + ((e * 64 + jj) * 64 + 5) < 4096) by omega)]
        rw [show (4096 + ((e * 64 + jj) * 64 + 5) - 4096) % 64 = 5 by omega, if_pos rfl, h1, hjl, List.take_length]
      · exact (σ2_l (by omega)).symm
    refine ⟨fun i hi => ?_, fun i hi => ?_, fun i hi e jj _ => hl i hi e jj, fun i hi => absurd hi (Nat.not_lt_zero i), hro _ (fun e jj => hl 0 (by omega) e jj) (σ2_n (by omega)).symm⟩
    · have hi : i < 38 := hi
      by_cases h : i = 37
      · subst h
        show _ = σ2 key k bits fr n0 L T cn lk j 37
        rw [e37, hjl]
        rfl
      · exact (σ2_v (by omega)).symm
    · have hi : i < 6 := hi
      show (σ0 key k bits fr n0 L T cn lk (ln i)).toNat = (σ2 key k bits fr n0 L T cn lk j (ln i)).toNat
      by_cases h5 : i = 5
      · subst h5
        unfold σ0 σ2
        rw [sg_ln (by omega), sg_ln (by omega), if_pos rfl]
        show (((one (hadF L)).length : Nat) : Int).toNat = _
        rw [one_len, one_len, hadF_len, hadF_len]
      · rw [σ2_n (by omega)]
  cases he : L.isEmpty with
  | true =>
    refine out ?_
    have : L = [] := List.isEmpty_iff.1 he
    subst this
    simpa using hj
  | false =>
    refine ⟨fun h => ?_, fun h => ?_⟩
    · have hlt : j < L.length := by
        have := of_decide_eq_true (show decide (σ2 key k bits fr n0 L T cn lk j 37 < ((σ2 key k bits fr n0 L T cn lk j (ln 1)).toNat : Int)) = true from h)
        rw [e37, σ2_n (by omega), σ0_n1] at this
        omega
      refine ⟨j + 1, hlt, by omega, ?_⟩
      have hx := hL (L.getD j 0) (by rw [List.getD_eq_getElem?_getD, List.getElem?_eq_getElem hlt]; exact List.getElem_mem hlt)
      have e76 : σ2 key k bits fr n0 L T cn lk j 76 = L.getD j 0 := by
        unfold σ2
        rw [sg_v (by omega), if_neg (by omega), if_pos rfl]
        omega
      have had : ∀ (jj e : Nat), σ2 key k bits fr n0 L T cn lk jj (lc 5 e 0) = (hadF (L.take jj)).getD e 0 := by
        intro jj e
        unfold σ2
        rw [sg_lc (by omega) (by omega), if_pos rfl]
        exact (one_at _ e 0).trans (if_pos rfl)
      have had0 : ∀ (jj e q : Nat), q ≠ 0 → q < 64 → σ2 key k bits fr n0 L T cn lk jj (lc 5 e q) = 0 := by
        intro jj e q hq hq2
        unfold σ2
        rw [sg_lc (by omega) hq2, if_pos rfl]
        exact (one_at _ e q).trans (if_neg hq)
      show AgreeD _ ⟨38, 6, 0, 60⟩ _ _ _ _ _
      refine ⟨fun i hi => ?_, fun i hi => ?_, fun i hi e q hq => ?_, fun i hi => absurd hi (Nat.not_lt_zero i), hro _ (fun e jj => by rw [σ2_l (by omega), σ2_l (by omega)]) (by rw [σ2_n (by omega), σ2_n (by omega)])⟩
      · have hi : i < 38 := hi
        by_cases h37 : i = 37
        · subst h37
          show σ2 key k bits fr n0 L T cn lk (j + 1) 37 = IntKind.i64.wrap (σ2 key k bits fr n0 L T cn lk j 37 + 1)
          rw [e37, i_wrap (by omega) (by omega)]
          unfold σ2
          rw [sg_v (by omega), if_pos rfl]
          push_cast
          rfl
        · have hv : (Sub.vAt { v := [(37, .bin .add (v 37) (l 1))], l := [(5, .lset (.lvar 5) (v 76) 0 (.bin .add (.at (.lvar 5) (v 76) 0) (l 1)))] } i) = .var i := by
            unfold Sub.vAt lookS lookS
            have : Nat.beq 37 i = false := by
              cases hb : Nat.beq 37 i with
              | false => rfl
              | true => exact absurd (Nat.eq_of_beq_eq_true hb).symm h37
            simp only [this]
          rw [hv]
          show _ = σ2 key k bits fr n0 L T cn lk j i
          rw [σ2_v (by omega), σ2_v (by omega)]
      · have hi : i < 6 := hi
        by_cases h5 : i = 5
        · subst h5
          show (σ2 key k bits fr n0 L T cn lk (j + 1) (ln 5)).toNat = (σ2 key k bits fr n0 L T cn lk j (ln 5)).toNat
          unfold σ2
          rw [sg_ln (by omega), sg_ln (by omega), if_pos rfl, if_pos rfl, one_len, one_len, hadF_len, hadF_len]
        · have hv : (Sub.lAt { v := [(37, .bin .add (v 37) (l 1))], l := [(5, .lset (.lvar 5) (v 76) 0 (.bin .add (.at (.lvar 5) (v 76) 0) (l 1)))] } i) = .lvar i := by
            unfold Sub.lAt lookS lookS
            have : Nat.beq 5 i = false := by
              cases hb : Nat.beq 5 i with
              | false => rfl
              | true => exact absurd (Nat.eq_of_beq_eq_true hb).symm h5
            simp only [this]
          rw [hv]
          show _ = (σ2 key k bits fr n0 L T cn lk j (ln i)).toNat
          rw [σ2_n (by omega), σ2_n (by omega)]
      · have hi : i < 6 := hi
        by_cases h5 : i = 5
        · subst h5
          show σ2 key k bits fr n0 L T cn lk (j + 1) (lc 5 e q) = if e = (σ2 key k bits fr n0 L T cn lk j 76).toNat ∧ q = 0 then IntKind.i64.wrap (σ2 key k bits fr n0 L T cn lk j (lc 5 (σ2 key k bits fr n0 L T cn lk j 76).toNat 0) + 1) else σ2 key k bits fr n0 L T cn lk j (lc 5 e q)
          by_cases hq0 : q = 0
          · subst hq0
            rw [e76, had, had, had, hadF_at, hadF_at, hadF_at, count_take hlt]
            by_cases hee : e = (L.getD j 0).toNat
            · have h10 : e < 10 := by omega
              have hcast : (e : Int) = L.getD j 0 := by omega
              rw [if_pos (show e = (L.getD j 0).toNat ∧ (0 : Nat) = 0 from ⟨hee, rfl⟩), if_pos hcast, ← hee, if_pos h10, if_pos h10]
              have hc : List.count (e : Int) (L.take j) ≤ 10 := Nat.le_trans (List.count_le_length) (by rw [List.length_take]; omega)
              rw [i_wrap (by omega) (by omega)]
              push_cast
              rfl
            · have hne : ¬ (e : Int) = L.getD j 0 := by omega
              rw [if_neg (show ¬ (e = (L.getD j 0).toNat ∧ (0 : Nat) = 0) from fun hh => hee hh.1), if_neg hne, Nat.add_zero]
          · rw [if_neg (fun hh => hq0 hh.2), had0 _ _ _ hq0 hq, had0 _ _ _ hq0 hq]
        · have hv : (Sub.lAt { v := [(37, .bin .add (v 37) (l 1))], l := [(5, .lset (.lvar 5) (v 76) 0 (.bin .add (.at (.lvar 5) (v 76) 0) (l 1)))] } i) = .lvar i := by
            unfold Sub.lAt lookS lookS
            have : Nat.beq 5 i = false := by
              cases hb : Nat.beq 5 i with
              | false => rfl
              | true => exact absurd (Nat.eq_of_beq_eq_true hb).symm h5
            simp only [this]
          rw [hv]
          show _ = σ2 key k bits fr n0 L T cn lk j (lc i e q)
          rw [σ2_l (by omega), σ2_l (by omega)]
    · refine out ?_
      have := of_decide_eq_false (show decide (σ2 key k bits fr n0 L T cn lk j 37 < ((σ2 key k bits fr n0 L T cn lk j (ln 1)).toNat : Int)) = false from h)
      rw [e37, σ2_n (by omega), σ0_n1] at this
      omega
/-! all is looked at -/
def K4 (key k : Nat) (bits : List Int) (fr : Bool) (n0 : Int) (L : List Int) (T : Nat) (cn : CountsP) (lk : Bool) (A : Option Addr) (len cap : Nat) (a b : Bool) (j : Nat) (o : LO) : Prop := match o with
  | .cont θ => ∃ j', j' ≤ 10 ∧ 10 - j' < 10 - j ∧ AgreeD θ (L4 fr a b).t.b (roB A len cap) (σ4 key k bits fr n0 L T cn lk j) Ωn (σ4 key k bits fr n0 L T cn lk j') Ωn
  | .out θ => AgreeD θ (L4 fr a b).post.b (roB A len cap) (σ4 key k bits fr n0 L T cn lk j) Ωn (σ0 key k bits fr n0 L T cn lk) (Ω0 key k bits fr)
theorem σ4_v {j i : Nat} (hi : i < 2048) (h : i ≠ 38) : σ4 key k bits fr n0 L T cn lk j i = σ0 key k bits fr n0 L T cn lk i := by
  unfold σ4 σ0
  rw [sg_v (by omega), sg_v (by omega), if_neg h]
theorem σ4_la {j q e jj : Nat} : σ4 key k bits fr n0 L T cn lk j (lc q e jj) = σ0 key k bits fr n0 L T cn lk (lc q e jj) := sg_la _ _ _
theorem σ4_ln {j q : Nat} (h : q < 64) : σ4 key k bits fr n0 L T cn lk j (ln q) = σ0 key k bits fr n0 L T cn lk (ln q) := sg_ll h
theorem σ0_had {e : Nat} : σ0 key k bits fr n0 L T cn lk (lc 6 e 0) = (hadEnd L (dA key k bits fr) (dB key k bits fr) (oA key k bits fr) (oB key k bits fr)).getD e 0 := by
  unfold σ0
  rw [sg_lc (by omega) (by omega)]
  exact (one_at _ e 0).trans (if_pos rfl)
theorem σ0_had' {e q : Nat} (h0 : q ≠ 0) (h : q < 64) : σ0 key k bits fr n0 L T cn lk (lc 6 e q) = 0 := by
  unfold σ0
  rw [sg_lc (by omega) h]
  exact (one_at _ e q).trans (if_neg h0)
theorem σ0_five {e : Nat} : σ0 key k bits fr n0 L T cn lk (lc 5 e 0) = (hadF L).getD e 0 := by
  unfold σ0
  rw [sg_lc (by omega) (by omega)]
  exact (one_at _ e 0).trans (if_pos rfl)
theorem σ0_five' {e q : Nat} (h0 : q ≠ 0) (h : q < 64) : σ0 key k bits fr n0 L T cn lk (lc 5 e q) = 0 := by
  unfold σ0
  rw [sg_lc (by omega) h]
  exact (one_at _ e q).trans (if_neg h0)
theorem round4 (hW : ∀ j, j < 10 → (hadEnd L (dA key k bits fr) (dB key k bits fr) (oA key k bits fr) (oB key k bits fr)).getD j 0 = if j < k ∨ (j = 9 ∧ fr = true) then 1 else 0) {a b : Bool} {j : Nat} (hj : j ≤ 10) :
    RunL (σ4 key k bits fr n0 L T cn lk j) (K4 key k bits fr n0 L T cn lk A len cap a b j) (D4 fr) := by
  have e38 : σ4 key k bits fr n0 L T cn lk j 38 = (j : Int) := by unfold σ4; rw [sg_v (by omega), if_pos rfl]
  have e35 : σ4 key k bits fr n0 L T cn lk j 35 = (k : Int) := by rw [σ4_v (by omega) (by omega), σ0_lo (by omega)]; rfl
  have go : j < 10 → K4 key k bits fr n0 L T cn lk A len cap a b j (.cont { v := [(38, .bin .add (v 38) (l 1))] }) := by
    intro h10
    refine ⟨j + 1, by omega, by omega, ?_⟩
    show AgreeD _ ⟨39, 7, 0, 80⟩ _ _ _ _ _
    refine ⟨fun i hi => ?_, fun i hi => ?_, fun i hi e q hq => ?_, fun i hi => absurd hi (Nat.not_lt_zero i), fun i p hp => ?_⟩
    · have hi : i < 39 := hi
      by_cases h : i = 38
      · subst h
        show σ4 key k bits fr n0 L T cn lk (j + 1) 38 = IntKind.i64.wrap (σ4 key k bits fr n0 L T cn lk j 38 + 1)
        rw [e38, i_wrap (by omega) (by omega)]
        unfold σ4
        rw [sg_v (by omega), if_pos rfl]
        push_cast
        rfl
      · have hv : (Sub.vAt { v := [(38, .bin .add (v 38) (l 1))] } i) = .var i := by
          unfold Sub.vAt lookS lookS
          have : Nat.beq 38 i = false := by
            cases hb : Nat.beq 38 i with
            | false => rfl
            | true => exact absurd (Nat.eq_of_beq_eq_true hb).symm h
          simp only [this]
        rw [hv]
        show _ = σ4 key k bits fr n0 L T cn lk j i
        rw [σ4_v (by omega) h, σ4_v (by omega) h]
    · have hi : i < 7 := hi
      show (σ4 key k bits fr n0 L T cn lk (j + 1) (ln i)).toNat = (σ4 key k bits fr n0 L T cn lk j (ln i)).toNat
      rw [σ4_ln (by omega), σ4_ln (by omega)]
    · show σ4 key k bits fr n0 L T cn lk (j + 1) (lc i e q) = σ4 key k bits fr n0 L T cn lk j (lc i e q)
      rw [σ4_la, σ4_la]
    · have : i = 0 := by
        by_cases h : i = 0
        · exact h
        · simp [roB, h] at hp
      subst this
      exact ⟨by rw [σ4_ln (by omega), σ4_ln (by omega)], fun e => by rw [σ4_la, σ4_la]⟩
  have want : ∀ n : Int, j < 10 → (if j < k ∨ (j = 9 ∧ fr = true) then (1 : Int) else 0) = n → RunL (σ4 key k bits fr n0 L T cn lk j) (K4 key k bits fr n0 L T cn lk A len cap a b j) (wantT n) := by
    intro n h10 hn
    refine ⟨fun _ => go h10, fun h => ?_⟩
    have h : (σ4 key k bits fr n0 L T cn lk j (lc 6 (σ4 key k bits fr n0 L T cn lk j 38).toNat 0) == n) = false := h
    rw [e38, Int.toNat_natCast, σ4_la, σ0_had, hW j h10, hn, beq_eq_false_iff_ne] at h
    exact absurd rfl h
  refine ⟨fun h => ?_, fun h => ?_⟩
  · have h10 : j < 10 := by
      have := of_decide_eq_true (show decide (σ4 key k bits fr n0 L T cn lk j 38 < 10) = true from h)
      rw [e38] at this
      omega
    refine ⟨fun h => ?_, fun h => ?_⟩
    · have hk : j < k := by
        have := of_decide_eq_true (show decide (σ4 key k bits fr n0 L T cn lk j 38 < σ4 key k bits fr n0 L T cn lk j 35) = true from h)
        rw [e38, e35] at this
        omega
      exact want 1 h10 (if_pos (.inl hk))
    · have hk : ¬ j < k := by
        have := of_decide_eq_false (show decide (σ4 key k bits fr n0 L T cn lk j 38 < σ4 key k bits fr n0 L T cn lk j 35) = false from h)
        rw [e38, e35] at this
        omega
      refine ⟨fun h => ?_, fun h => ?_⟩
      · have h9 : j = 9 := by
          have := eq_of_beq (show (σ4 key k bits fr n0 L T cn lk j 38 == 9) = true from h)
          rw [e38] at this
          omega
        refine want _ h10 ?_
        cases fr with
        | true => exact if_pos (.inr ⟨h9, rfl⟩)
        | false => exact if_neg (by simp only [Bool.false_eq_true, and_false, or_false]; exact hk)
      · have h9 : ¬ j = 9 := by
          intro h9
          have h : (σ4 key k bits fr n0 L T cn lk j 38 == 9) = false := h
          rw [e38, beq_eq_false_iff_ne] at h
          omega
        exact want 0 h10 (if_neg (by rintro (h1 | ⟨h1, -⟩); exact hk h1; exact h9 h1))
  · have h10 : j = 10 := by
      have := of_decide_eq_false (show decide (σ4 key k bits fr n0 L T cn lk j 38 < 10) = false from h)
      rw [e38] at this
      omega
    show AgreeD {} ⟨39, 7, 0, 80⟩ _ _ _ _ _
    refine ⟨fun i hi => ?_, fun i hi => ?_, fun i hi e q hq => ?_, fun i hi => absurd hi (Nat.not_lt_zero i), fun i p hp => ?_⟩
    · have hi : i < 39 := hi
      show _ = σ4 key k bits fr n0 L T cn lk j i
      by_cases h : i = 38
      · subst h
        rw [e38, h10]
        rfl
      · rw [σ4_v (by omega) h]
    · have hi : i < 7 := hi
      show _ = (σ4 key k bits fr n0 L T cn lk j (ln i)).toNat
      rw [σ4_ln (by omega)]
    · show _ = σ4 key k bits fr n0 L T cn lk j (lc i e q)
      rw [σ4_la]
    · have : i = 0 := by
        by_cases h : i = 0
        · exact h
        · simp [roB, h] at hp
      subst this
      exact ⟨by rw [σ4_ln (by omega)], fun e => by rw [σ4_la]⟩
/-- what was counted, with what the tasks were given, in the runner's words -/
theorem hadE_ok (hob : ∀ x ∈ L, 0 ≤ x ∧ x < 10) (hlen : L.length ≤ 10) :
    (hadE (dA key k bits fr) (dB key k bits fr)).evN (σ0 key k bits fr n0 L T cn lk) = 10 ∧ ∀ e q, q < 64 → (hadE (dA key k bits fr) (dB key k bits fr)).evA (σ0 key k bits fr n0 L T cn lk) e q = σ0 key k bits fr n0 L T cn lk (lc 6 e q) := by
  have e77 : σ0 key k bits fr n0 L T cn lk 77 = oA key k bits fr := rfl
  have e78 : σ0 key k bits fr n0 L T cn lk 78 = oB key k bits fr := rfl
  have a0 : 0 ≤ oA key k bits fr ∧ oA key k bits fr < 10 := by unfold oA; omega
  have b0 : 0 ≤ oB key k bits fr ∧ oB key k bits fr < 10 := by unfold oB; omega
  have n5 : (σ0 key k bits fr n0 L T cn lk (ln 5)).toNat = 10 := by
    unfold σ0
    rw [sg_ln (by omega)]
    show (((one (hadF L)).length : Nat) : Int).toNat = _
    rw [one_len, hadF_len]
    rfl
  have cb : ∀ e : Int, (L.count e : Int) ≤ 10 := fun e => by
    have := Nat.le_trans (List.count_le_length (a := e) (l := L)) hlen
    omega
  refine ⟨?_, fun e q hq => ?_⟩
  · unfold hadE
    cases dA key k bits fr <;> cases dB key k bits fr <;> exact n5
  · by_cases hq0 : q = 0
    · subst hq0
      rw [σ0_had, hadEnd_at]
      have f5 : ∀ e : Nat, σ0 key k bits fr n0 L T cn lk (lc 5 e 0) = if e < 10 then (L.count (e : Int) : Int) else 0 := fun e => by rw [σ0_five, hadF_at]
      unfold hadE
      cases dA key k bits fr <;> cases dB key k bits fr <;> simp only [Bool.false_eq_true, if_false, if_true, SE.evA, SE.ev, v, l, e77, e78, f5, false_and, true_and, and_true, Int.add_zero]
      · have := cb (((oB key k bits fr).toNat : Nat) : Int)
        by_cases he : e = (oB key k bits fr).toNat
        · have h1 : (e : Int) = oB key k bits fr := by omega
          rw [if_pos he, ← he, if_pos (by omega), if_pos (by omega), if_pos h1, i_wrap (by omega) (by rw [he]; omega)]
        · have h1 : ¬ (e : Int) = oB key k bits fr := by omega
          rw [if_neg he, if_neg h1, Int.add_zero]
      · have := cb (((oA key k bits fr).toNat : Nat) : Int)
        by_cases he : e = (oA key k bits fr).toNat
        · have h1 : (e : Int) = oA key k bits fr := by omega
          rw [if_pos he, ← he, if_pos (by omega), if_pos (by omega), if_pos h1, i_wrap (by omega) (by rw [he]; omega)]
        · have h1 : ¬ (e : Int) = oA key k bits fr := by omega
          rw [if_neg he, if_neg h1, Int.add_zero]
      · have c1 := cb (((oA key k bits fr).toNat : Nat) : Int)
        have c2 := cb (((oB key k bits fr).toNat : Nat) : Int)
        by_cases he : e = (oB key k bits fr).toNat
        · have h1 : (e : Int) = oB key k bits fr := by omega
          rw [if_pos he, ← he, if_pos (show e < 10 by omega), if_pos (show e < 10 by omega), if_pos h1]
          by_cases he2 : e = (oA key k bits fr).toNat
          · have h2 : (e : Int) = oA key k bits fr := by omega
            have c3 := cb (e : Int)
            rw [if_pos he2, ← he2, if_pos (show e < 10 by omega), if_pos h2, i_wrap (i := (List.count (e : Int) L : Int)) (by omega) (by omega), i_wrap (by omega) (by omega)]
          · have h2 : ¬ (e : Int) = oA key k bits fr := by omega
            rw [if_neg he2, if_neg h2, i_wrap (by omega) (by rw [he]; omega), Int.add_zero]
        · have h1 : ¬ (e : Int) = oB key k bits fr := by omega
          rw [if_neg he, if_neg h1, Int.add_zero]
          by_cases he2 : e = (oA key k bits fr).toNat
          · have h2 : (e : Int) = oA key k bits fr := by omega
            rw [if_pos he2, ← he2, if_pos (show e < 10 by omega), if_pos (show e < 10 by omega), if_pos h2, i_wrap (by omega) (by rw [he2]; omega)]
          · have h2 : ¬ (e : Int) = oA key k bits fr := by omega
            rw [if_neg he2, if_neg h2, Int.add_zero]
    · rw [σ0_had' hq0 hq]
      unfold hadE
      cases dA key k bits fr <;> cases dB key k bits fr <;> simp only [Bool.false_eq_true, if_false, if_true, SE.evA, hq0, and_false, σ0_five' hq0 hq]
end
end Go.Proofs.Ytigakendeghoaaa.FastAp

/-
  wainscotlaw22.FastApart: the whole. No condition.
-/
namespace Go.Proofs.Ytigakendeghoaaa.FastAp
open Go Ex Mem See Fast Go.RowKit
open Step (TaskP)
section
variable {key k : Nat} {bits : List Int} {fr : Bool} {n0 : Int} {L : List Int} {T : Nat} {cn : CountsP} {lk : Bool} {A : Option Addr} {len cap : Nat}
theorem inv_0 (hk : k ≤ 9) : Inv1 key k bits fr (st0 key k fr) :=
  ⟨Nat.zero_le _, rfl, upL k 0, 3, duo_0 hk (good_stG (n := k) (objs := 10) (key := key) (turn := 3) (by omega) (by omega) (by omega) (by omega))⟩
theorem duo_run (hk : k ≤ 9) : ∀ n, n ≤ 60 → ∃ L T, Duo k fr key n (run key k bits fr n).g L T (run key k bits fr n).ta (run key k bits fr n).tb
  | 0, _ => ⟨upL k 0, 3, duo_0 hk (good_stG (n := k) (objs := 10) (key := key) (turn := 3) (by omega) (by omega) (by omega) (by omega))⟩
  | n + 1, hn => by
    obtain ⟨L, T, h⟩ := duo_run hk n (by omega)
    have hi := run_i key k bits fr n
    have hw : who bits n = false → n < 28 ∨ n % 2 = 0 := fun hw => by
      unfold who at hw
      split at hw
      · exact .inl (by omega)
      · have := of_decide_eq_false hw
        exact .inr (by omega)
    have hw2 : who bits n = true → n < 28 ∨ n % 2 = 1 := fun hw => by
      unfold who at hw
      split at hw
      · exact .inl (by omega)
      · exact .inr (of_decide_eq_true hw)
    unfold run
    cases hh : who bits n with
    | false =>
      obtain ⟨L', T', h', -⟩ := duo_a h (hw hh)
      rw [nxt_a (by rw [hi]; exact hh)]
      exact ⟨L', T', h'⟩
    | true =>
      obtain ⟨L', T', h', -⟩ := duo_b hk h (hw2 hh)
      rw [nxt_b (by rw [hi]; exact hh)]
      exact ⟨L', T', h'⟩
theorem cnt_up (k j : Nat) : (upL k 0).count (j : Int) = if j < k then 1 else 0 := by
  rw [(upL_nodup k 0).count]
  by_cases h : j < k
  · rw [if_pos h, if_pos (mem_upL.2 (by omega))]
  · rw [if_neg h, if_neg (fun hm => h (by have := mem_upL.1 hm; omega))]
theorem cnt_one (x : Int) (j : Nat) : ([x] : List Int).count (j : Int) = if (j : Int) = x then 1 else 0 := by
  rw [List.count_singleton]
  by_cases h : (j : Int) = x
  · simp [h]
  · have h' : ¬ x = (j : Int) := fun hh => h hh.symm
    simp [h, h']
/-- what is counted in the end -/
theorem wants (hk : k ≤ 9) (hd : Duo k fr key 60 (sF key k bits fr).g L T (sF key k bits fr).ta (sF key k bits fr).tb) (j : Nat) (hj : j < 10) :
    (hadEnd L (dA key k bits fr) (dB key k bits fr) (oA key k bits fr) (oB key k bits fr)).getD j 0 = if j < k ∨ (j = 9 ∧ fr = true) then 1 else 0 := by
  rw [hadEnd_at, if_pos hj]
  have hp := hd.perm.count_eq (j : Int)
  have he := duo_end hd
  have hA : (if dA key k bits fr = true ∧ (j : Int) = oA key k bits fr then (1 : Int) else 0) = ((got (sF key k bits fr).ta).count (j : Int) : Int) := by
    unfold dA oA got
    by_cases h1 : (sF key k bits fr).ta.end_ = 1
    · have ho : 0 ≤ (sF key k bits fr).ta.obj ∧ (sF key k bits fr).ta.obj < 10 := by
        rcases hd.a.st with ⟨a, -⟩ | ⟨a, -⟩ | ⟨-, -, h⟩ | ⟨a, -⟩ | ⟨a, -⟩ | ⟨a, -⟩ <;> first | exact h | omega
      rw [if_pos h1, cnt_one]
      have hm : (sF key k bits fr).ta.obj % 10 = (sF key k bits fr).ta.obj := by omega
      rw [hm]
      by_cases h2 : (j : Int) = (sF key k bits fr).ta.obj
      · rw [if_pos ⟨decide_eq_true h1, h2⟩, if_pos h2]; rfl
      · rw [if_neg (fun hh => h2 hh.2), if_neg h2]; rfl
    · rw [if_neg (fun hh => h1 (of_decide_eq_true hh.1)), if_neg h1]
      rfl
  rw [hA]
  rw [List.count_append, List.count_append, List.count_append, cnt_up] at hp
  cases fr with
  | true =>
    have hb1 : (sF key k bits true).tb.end_ = 1 := by
      rcases he.2 with h | ⟨-, -, h⟩
      · exact h
      · cases h
    have hB : dB key k bits true = false := by unfold dB; simp
    simp only [hB, Bool.false_eq_true, false_and, if_false, Int.add_zero, and_true]
    simp only [if_true, pend, hb1, List.count_nil, Nat.add_zero, cnt_one] at hp
    by_cases h1 : j < k
    · rw [if_pos (.inl h1)]
      rw [if_pos h1, if_neg (by omega)] at hp
      omega
    · rw [if_neg h1] at hp
      by_cases h9 : j = 9
      · rw [if_pos (.inr h9)]
        rw [if_pos (by omega)] at hp
        omega
      · rw [if_neg (by rintro (h | h); exact h1 h; exact h9 h)]
        rw [if_neg (by omega)] at hp
        omega
  | false =>
    have hB : (if dB key k bits false = true ∧ (j : Int) = oB key k bits false then (1 : Int) else 0) = ((got (sF key k bits false).tb).count (j : Int) : Int) := by
      have hb : Al L T (sF key k bits false).tb := hd.b
      unfold dB oB got
      by_cases h1 : (sF key k bits false).tb.end_ = 1
      · have ho : 0 ≤ (sF key k bits false).tb.obj ∧ (sF key k bits false).tb.obj < 10 := by
          rcases hb.st with ⟨a, -⟩ | ⟨a, -⟩ | ⟨-, -, h⟩ | ⟨a, -⟩ | ⟨a, -⟩ | ⟨a, -⟩ <;> first | exact h | omega
        rw [if_pos h1, cnt_one]
        have hm : (sF key k bits false).tb.obj % 10 = (sF key k bits false).tb.obj := by omega
        rw [hm]
        by_cases h2 : (j : Int) = (sF key k bits false).tb.obj
        · rw [if_pos ⟨by simp [h1], h2⟩, if_pos h2]; rfl
        · rw [if_neg (fun hh => h2 hh.2), if_neg h2]; rfl
      · rw [if_neg (fun hh => by have := hh.1; simp at this; exact h1 this), if_neg h1]
        rfl
    rw [hB]
    simp only [Bool.false_eq_true, if_false, List.count_nil, Nat.add_zero] at hp
    simp only [Bool.false_eq_true, and_false, or_false]
    by_cases h1 : j < k
    · rw [if_pos h1] at hp ⊢
      omega
    · rw [if_neg h1] at hp ⊢
      omega
/-! what is known -/
theorem lns_all (hk : k ≤ 9) (hkey : key < 18446744073709551616) (hd : Duo k fr key 60 (sF key k bits fr).g L T (sF key k bits fr).ta (sF key k bits fr).tb) (hn0 : True) :
    LnAll [] [(0, .bool)] (roB A len cap) Try.prog 9 (σ0 key k bits fr n0 L T cn lk) (Ω0 key k bits fr) (lns0 fr L.isEmpty (dA key k bits fr) (dB key k bits fr)) := by
  have hbd := hd.good.bd
  have hlen : L.length ≤ 10 := by have := few hd.good.nd hd.good.bd; omega
  have hro : ∀ (s1 s2 : Nat → Int), (∀ e jj, s2 (lc 0 e jj) = s1 (lc 0 e jj)) → s2 (ln 0) = s1 (ln 0) →
      ∀ i p, roB A len cap i = some p → (s2 (ln i)).toNat = (s1 (ln i)).toNat ∧ ∀ e, s2 (lc i e 0) = s1 (lc i e 0) := by
    intro s1 s2 h1 h2 i p hp
    have : i = 0 := by
      by_cases h : i = 0
      · exact h
      · simp [roB, h] at hp
    subst this
    exact ⟨by rw [h2], fun e => h1 e 0⟩
  refine lnAll_cons (fun fs ok c hc hck => ?_) (lnAll_cons (fun fs ok c hc hck => ?_) (lnAll_cons (fun fs ok c hc hck => ?_) lnAll_nil))
  · -- the steps
    refine ln_ok [] [(0, .bool)] (roB A len cap) mixed (f := 9) (l := L1 fr) (h0 := run1 fr) (by kernel_rfl) (by cases fr <;> rfl) rfl rfl (Inv1 key k bits fr) (fun s => 60 - s.i) (σ1 key k bits) (Ω1 key) (fun s hs q hq => ?_)
      (fun s hs => kcAll_cons (kc_a (ro := roB A len cap) hs hkey) (kcAll_cons (kc_b (ro := roB A len cap) hs hkey) kcAll_nil)) (fun _ _ => lnAll_nil) (st0 key k fr) (inv_0 hk) ?_ (fun s hs => ?_) fs ok c hc hck
    · have hi := hs.1
      have e0 : σ1 key k bits s 0 = (s.i : Int) := rfl
      simp only [f1, List.mem_cons, List.not_mem_nil, or_false] at hq
      rcases hq with rfl | rfl
      · show decide (σ1 key k bits s 0 < 0) = false
        rw [e0]
        exact decide_eq_false (by omega)
      · show decide (σ1 key k bits s 0 < 100) = true
        rw [e0]
        exact decide_eq_true (by omega)
    · show AgreeD _ ⟨37, 1, 2, 10⟩ _ _ _ _ _
      have hl0 : ∀ e jj, σ1 key k bits (st0 key k fr) (lc 0 e jj) = σ0 key k bits fr n0 L T cn lk (lc 0 e jj) := fun e jj => by
        have hl : (l0 key k bits fr L) 0 = ls1 bits 0 := rfl
        unfold σ0 σ1 sg lc
        simp only [if_neg (show ¬ (4096 + ((e * 64 + jj) * 64 + 0) < 2048) by omega), if_neg (show ¬ (4096 + ((e * 64 + jj) * 64 + 0) < 4096) by omega)]
        rw [show (4096 + ((e * 64 + jj) * 64 + 0) - 4096) % 64 = 0 by omega, hl]
      have hn : σ1 key k bits (st0 key k fr) (ln 0) = σ0 key k bits fr n0 L T cn lk (ln 0) := by
        unfold σ0 σ1
        rw [sg_ln (by omega), sg_ln (by omega)]
        rfl
      refine ⟨fun i hi => ?_, fun i hi => ?_, fun i hi e q _ => ?_, fun i hi b0 b1 o ho => ?_, hro _ _ hl0 hn⟩
      · have hi : i < 37 := hi
        cases fr with
        | true =>
          match i, hi with
          | 0, _ => exact rfl
          | 1, _ => exact rfl
          | 2, _ => exact rfl
          | 3, _ => exact rfl
          | 4, _ => exact rfl
          | 5, _ => exact rfl
          | 6, _ => exact rfl
          | 7, _ => exact rfl
          | 8, _ => exact rfl
          | 9, _ => exact rfl
          | 10, _ => exact rfl
          | 11, _ => exact rfl
          | 12, _ => exact rfl
          | 13, _ => exact rfl
          | 14, _ => exact rfl
          | 15, _ => exact rfl
          | 16, _ => exact rfl
          | 17, _ => exact rfl
          | 18, _ => exact rfl
          | 19, _ => exact rfl
          | 20, _ => exact rfl
          | 21, _ => exact rfl
          | 22, _ => exact rfl
          | 23, _ => exact rfl
          | 24, _ => exact rfl
          | 25, _ => exact rfl
          | 26, _ => exact rfl
          | 27, _ => exact rfl
          | 28, _ => exact rfl
          | 29, _ => exact rfl
          | 30, _ => exact rfl
          | 31, _ => exact rfl
          | 32, _ => exact rfl
          | 33, _ => exact rfl
          | 34, _ => exact rfl
          | 35, _ => exact (show (k : Int) = σ0 _ _ _ _ _ _ _ _ _ 35 from by rw [σ0_lo (by omega)]; rfl)
          | 36, _ => exact (show (key : Int) = σ0 _ _ _ _ _ _ _ _ _ 36 from by rw [σ0_lo (by omega)]; rfl)
          | i + 37, h => exact absurd h (Nat.not_lt.2 (Nat.le_add_left 37 i))
        | false =>
          match i, hi with
          | 0, _ => exact rfl
          | 1, _ => exact rfl
          | 2, _ => exact rfl
          | 3, _ => exact rfl
          | 4, _ => exact rfl
          | 5, _ => exact rfl
          | 6, _ => exact rfl
          | 7, _ => exact rfl
          | 8, _ => exact rfl
          | 9, _ => exact rfl
          | 10, _ => exact rfl
          | 11, _ => exact rfl
          | 12, _ => exact rfl
          | 13, _ => exact rfl
          | 14, _ => exact rfl
          | 15, _ => exact rfl
          | 16, _ => exact rfl
          | 17, _ => exact rfl
          | 18, _ => exact rfl
          | 19, _ => exact rfl
          | 20, _ => exact rfl
          | 21, _ => exact rfl
          | 22, _ => exact rfl
          | 23, _ => exact rfl
          | 24, _ => exact rfl
          | 25, _ => exact rfl
          | 26, _ => exact rfl
          | 27, _ => exact rfl
          | 28, _ => exact rfl
          | 29, _ => exact rfl
          | 30, _ => exact rfl
          | 31, _ => exact rfl
          | 32, _ => exact rfl
          | 33, _ => exact rfl
          | 34, _ => exact rfl
          | 35, _ => exact (show (k : Int) = σ0 _ _ _ _ _ _ _ _ _ 35 from by rw [σ0_lo (by omega)]; rfl)
          | 36, _ => exact (show (key : Int) = σ0 _ _ _ _ _ _ _ _ _ 36 from by rw [σ0_lo (by omega)]; rfl)
          | i + 37, h => exact absurd h (Nat.not_lt.2 (Nat.le_add_left 37 i))
      · have hi : i < 1 := hi
        obtain rfl : i = 0 := by omega
        exact congrArg _ hn
      · have hi : i < 1 := hi
        obtain rfl : i = 0 := by omega
        exact hl0 e q
      · have hi : i < 2 := hi
        match i, hi with
        | 0, _ => exact ho
        | 1, _ => exact ho
    · exact round1 hk hs
  · -- the list
    refine ln_ok [] [(0, .bool)] (roB A len cap) mixed (f := 9) (l := L2 fr L.isEmpty) (h0 := run2 fr L.isEmpty) (by kernel_rfl) (by cases fr <;> cases L.isEmpty <;> rfl) rfl rfl (fun j => j ≤ L.length) (fun j => L.length - j) (σ2 key k bits fr n0 L T cn lk) (fun _ => Ωn) (fun j hj q hq => ?_)
      (fun j hj => kcAll_cons (fun fs ok => ?_) kcAll_nil) (fun _ _ => lnAll_nil) 0 (Nat.zero_le _) ?_ (fun j hj => round2 hbd hlen hj) fs ok c hc hck
    · have e37 : σ2 key k bits fr n0 L T cn lk j 37 = (j : Int) := by unfold σ2; rw [sg_v (by omega), if_pos rfl]
      have e76 : σ2 key k bits fr n0 L T cn lk j 76 = (L.getD j 0) % 10 := by
        unfold σ2
        rw [sg_v (by omega), if_neg (by omega), if_pos rfl]
      have n5 : (σ2 key k bits fr n0 L T cn lk j (ln 5)).toNat = 10 := by
        unfold σ2
        rw [sg_ln (by omega), if_pos rfl, one_len, hadF_len]
        rfl
      simp only [f2, List.mem_cons, List.not_mem_nil, or_false] at hq
      rcases hq with rfl | rfl | rfl | rfl | rfl
      · show decide (σ2 key k bits fr n0 L T cn lk j 37 < 0) = false
        rw [e37]
        exact decide_eq_false (by omega)
      · show decide (σ2 key k bits fr n0 L T cn lk j 37 < 100) = true
        rw [e37]
        exact decide_eq_true (by omega)
      · show decide (σ2 key k bits fr n0 L T cn lk j 76 < 0) = false
        rw [e76]
        exact decide_eq_false (by omega)
      · show decide (σ2 key k bits fr n0 L T cn lk j 76 < 10) = true
        rw [e76]
        exact decide_eq_true (by omega)
      · show (((σ2 key k bits fr n0 L T cn lk j (ln 5)).toNat : Int) == 10) = true
        rw [n5]
        rfl
    · letI N : Nums := nums [] [(0, .bool)] (roB A len cap) (σ2 key k bits fr n0 L T cn lk j) Ωn fs ok
      have e37 : σ2 key k bits fr n0 L T cn lk j 37 = (j : Int) := by unfold σ2; rw [sg_v (by omega), if_pos rfl]
      have e76 : σ2 key k bits fr n0 L T cn lk j 76 = (L.getD j 0) % 10 := by
        unfold σ2
        rw [sg_v (by omega), if_neg (by omega), if_pos rfl]
      refine kc_pure rfl rfl rfl rfl rfl fn_bring fun _ W w m hO => ?_
      have hx : 0 ≤ L.getD j 0 ∧ L.getD j 0 < 10 := by
        rw [List.getD_eq_getElem?_getD]
        cases h : L[j]? with
        | none => simp
        | some x => exact hbd x (List.mem_of_getElem? h)
      have hwf : (Lit.int .i64 (L.getD j 0)).wf = true := by
        generalize L.getD j 0 = x at hx
        simp [Lit.wf, IntKind.min, IntKind.max, IntKind.signed, IntKind.bits]
        omega
      have hb := bring_spec (L.getD j 0) 10 (by omega) (by omega) hwf w
      have hargs : valsOf N.σ (kcBring (.at (.lvar 1) (v 37) 0) 10 76).args = [.int .i64 (L.getD j 0), .int .i64 10] := by
        show [Value.int .i64 (σ2 key k bits fr n0 L T cn lk j (lc 1 (σ2 key k bits fr n0 L T cn lk j 37).toNat 0)), _] = _
        rw [e37, Int.toNat_natCast, σ2_l (by omega), σ0_L1]
        rfl
      rw [hargs]
      refine hb.mono ?_
      rintro e w' ⟨rfl, rfl⟩
      refine ⟨?_, hO⟩
      show _ = Ending.returned (.int .i64 (σ2 key k bits fr n0 L T cn lk j 76))
      rw [e76]
    · show AgreeD _ ⟨38, 6, 0, 60⟩ _ _ _ _ _
      have hv0 : ∀ i, i ≠ 37 → (L2 fr L.isEmpty).th.vAt i = .var i := fun i h => by
        unfold L2 Sub.vAt lookS lookS
        have : Nat.beq 37 i = false := by
          cases hb : Nat.beq 37 i with
          | false => rfl
          | true => exact absurd (Nat.eq_of_beq_eq_true hb).symm h
        simp only [this]
      have hl0 : ∀ i, i ≠ 5 → (L2 fr L.isEmpty).th.lAt i = .lvar i := fun i h => by
        unfold L2 Sub.lAt lookS lookS
        have : Nat.beq 5 i = false := by
          cases hb : Nat.beq 5 i with
          | false => rfl
          | true => exact absurd (Nat.eq_of_beq_eq_true hb).symm h
        simp only [this]
      have hl5 : (L2 fr L.isEmpty).th.lAt 5 = zeros 10 := rfl
      refine ⟨fun i hi => ?_, fun i hi => ?_, fun i hi e q hq => ?_, fun i hi => absurd hi (Nat.not_lt_zero i), hro _ _ (fun e jj => σ2_l (by omega)) (σ2_n (by omega))⟩
      · have hi : i < 38 := hi
        by_cases h : i = 37
        · subst h
          show _ = (0 : Int)
          unfold σ2
          rw [sg_v (by omega), if_pos rfl]
          rfl
        · rw [hv0 i h]
          exact σ2_v (by omega)
      · have hi : i < 6 := hi
        by_cases h : i = 5
        · subst h
          rw [hl5]
          show _ = 10
          unfold σ2
          rw [sg_ln (by omega), if_pos rfl, one_len, hadF_len]
          rfl
        · rw [hl0 i h]
          exact congrArg _ (σ2_n (by omega))
      · have hi : i < 6 := hi
        by_cases h : i = 5
        · subst h
          rw [hl5]
          have hz : ∀ n e q, (zeros n).evA (σ0 key k bits fr n0 L T cn lk) e q = 0 := by
            intro n
            induction n with
            | zero => intro e q; rfl
            | succ n ih =>
              intro e q
              unfold zeros
              simp only [SE.evA, l, SE.ev]
              split
              · cases q <;> rfl
              · exact ih e q
          rw [hz]
          unfold σ2
          rw [sg_lc (by omega) hq, if_pos rfl]
          refine (one_at _ e q).trans ?_
          rw [hadF_at]
          simp
        · rw [hl0 i h]
          exact σ2_l (by omega)
  · -- all
    refine ln_ok [] [(0, .bool)] (roB A len cap) mixed (f := 9) (l := L4 fr (dA key k bits fr) (dB key k bits fr)) (h0 := run4 fr) (by kernel_rfl) rfl rfl rfl (fun j => j ≤ 10) (fun j => 10 - j) (σ4 key k bits fr n0 L T cn lk) (fun _ => Ωn) (fun j hj q hq => ?_)
      (fun j hj => kcAll_nil) (fun _ _ => lnAll_nil) 0 (Nat.zero_le _) ?_ (fun j hj => round4 (wants hk hd) hj) fs ok c hc hck
    · have e38 : σ4 key k bits fr n0 L T cn lk j 38 = (j : Int) := by unfold σ4; rw [sg_v (by omega), if_pos rfl]
      have n6 : (σ4 key k bits fr n0 L T cn lk j (ln 6)).toNat = 10 := by
        rw [σ4_ln (by omega)]
        unfold σ0
        rw [sg_ln (by omega)]
        show (((one (hadEnd L (dA key k bits fr) (dB key k bits fr) (oA key k bits fr) (oB key k bits fr))).length : Nat) : Int).toNat = _
        rw [one_len, hadEnd_len]
        rfl
      simp only [f4, List.mem_cons, List.not_mem_nil, or_false] at hq
      rcases hq with rfl | rfl | rfl
      · show decide (σ4 key k bits fr n0 L T cn lk j 38 < 0) = false
        rw [e38]
        exact decide_eq_false (by omega)
      · show decide (σ4 key k bits fr n0 L T cn lk j 38 < 100) = true
        rw [e38]
        exact decide_eq_true (by omega)
      · show (((σ4 key k bits fr n0 L T cn lk j (ln 6)).toNat : Int) == 10) = true
        rw [n6]
        rfl
    · show AgreeD _ ⟨39, 7, 0, 80⟩ _ _ _ _ _
      obtain ⟨h1, h2⟩ := hadE_ok (key := key) (k := k) (bits := bits) (fr := fr) (n0 := n0) (T := T) (cn := cn) (lk := lk) hbd hlen
      have hv0 : ∀ i, i ≠ 38 → (L4 fr (dA key k bits fr) (dB key k bits fr)).th.vAt i = .var i := fun i h => by
        unfold L4 Sub.vAt lookS lookS
        have : Nat.beq 38 i = false := by
          cases hb : Nat.beq 38 i with
          | false => rfl
          | true => exact absurd (Nat.eq_of_beq_eq_true hb).symm h
        simp only [this]
      have hl0 : ∀ i, i ≠ 6 → (L4 fr (dA key k bits fr) (dB key k bits fr)).th.lAt i = .lvar i := fun i h => by
        unfold L4 Sub.lAt lookS lookS
        have : Nat.beq 6 i = false := by
          cases hb : Nat.beq 6 i with
          | false => rfl
          | true => exact absurd (Nat.eq_of_beq_eq_true hb).symm h
        simp only [this]
      have hl6 : (L4 fr (dA key k bits fr) (dB key k bits fr)).th.lAt 6 = hadE (dA key k bits fr) (dB key k bits fr) := rfl
      refine ⟨fun i hi => ?_, fun i hi => ?_, fun i hi e q hq => ?_, fun i hi => absurd hi (Nat.not_lt_zero i), hro _ _ (fun e jj => σ4_la) (σ4_ln (by omega))⟩
      · have hi : i < 39 := hi
        by_cases h : i = 38
        · subst h
          show _ = (0 : Int)
          unfold σ4
          rw [sg_v (by omega), if_pos rfl]
          rfl
        · rw [hv0 i h]
          exact σ4_v (by omega) h
      · have hi : i < 7 := hi
        by_cases h : i = 6
        · subst h
          rw [hl6, h1, σ4_ln (by omega)]
          unfold σ0
          rw [sg_ln (by omega)]
          show (((one (hadEnd L (dA key k bits fr) (dB key k bits fr) (oA key k bits fr) (oB key k bits fr))).length : Nat) : Int).toNat = _
          rw [one_len, hadEnd_len]
          rfl
        · rw [hl0 i h]
          exact congrArg _ (σ4_ln (by omega))
      · have hi : i < 7 := hi
        by_cases h : i = 6
        · subst h
          rw [hl6, h2 e q hq, σ4_la]
        · rw [hl0 i h]
          exact σ4_la
end
end Go.Proofs.Ytigakendeghoaaa.FastAp

/-
  wainscotlaw22.FastApart: the whole. No condition.
-/
namespace Go.Proofs.Ytigakendeghoaaa.FastAp
open Go Ex Mem See Fast Go.RowKit Go.ChangeShapes
open Step (TaskP)
section
variable {key k : Nat} {bits : List Int} {fr : Bool} {n0 : Int} {L : List Int} {T : Nat} {cn : CountsP} {lk : Bool} {A : Option Addr} {len cap : Nat}
theorem mod_of (n : Int) : ∃ a : Nat, n % 9 = a := ⟨(n % 9).toNat, by omega⟩
theorem key_of (n : Int) : ∃ T : Nat, IntKind.u64.wrap (IntKind.u64.wrap n * 77) = T ∧ T < 18446744073709551616 := by
  generalize IntKind.u64.wrap n * 77 = x
  rw [IntKind.wrap_u64]
  refine ⟨(x % 18446744073709551616).toNat, ?_, ?_⟩ <;> omega
theorem duo_sF (hk : k ≤ 9) : ∃ L T, Duo k fr key 60 (sF key k bits fr).g L T (sF key k bits fr).ta (sF key k bits fr).tb := by
  have h := duo_run (key := key) (bits := bits) (fr := fr) hk 60 (Nat.le_refl _)
  unfold sF
  exact h
attribute [local irreducible] run sF
theorem σ0_k : σ0 key k bits fr n0 L T cn lk 35 = (k : Int) := by rw [σ0_lo (by omega)]; rfl
theorem σ0_key : σ0 key k bits fr n0 L T cn lk 36 = (key : Int) := by rw [σ0_lo (by omega)]; rfl
theorem ls_val {q : Nat} {l' : List Int} (hq : q < 64) (h : l0 key k bits fr L q = one l') : LsVal (σ0 key k bits fr n0 L T cn lk) q l' := by
  refine ⟨?_, fun i x hx => ?_⟩
  · unfold σ0
    rw [sg_ln hq, h, one_len]
    omega
  · unfold σ0
    rw [sg_lc hq (by omega), h, one_at, if_pos rfl, List.getD_eq_getElem?_getD, hx]
    rfl
theorem chart_val : Ex.valOf (σ0 key k bits fr n0 L T cn lk) (.agg chL) = cV (ch 10 key) 0 0 := by
  show Value.agg #[.int .i64 1, .int .i64 1, .int .i64 10, .int .i64 0, .int .i64 0, .int .u64 (σ0 key k bits fr n0 L T cn lk 36)] = _
  rw [σ0_key]
  rfl
theorem σ0_77 : σ0 key k bits fr n0 L T cn lk 77 = (sF key k bits fr).ta.obj % 10 := rfl
theorem σ0_78 : σ0 key k bits fr n0 L T cn lk 78 = (sF key k bits fr).tb.obj % 10 := rfl
theorem σ0_80 : σ0 key k bits fr n0 L T cn lk 80 = n0 := rfl
theorem σ0_90 : σ0 key k bits fr n0 L T cn lk 90 = 0 := rfl
theorem σ0_91 : σ0 key k bits fr n0 L T cn lk 91 = (T : Int) := rfl
theorem σ0_92 : σ0 key k bits fr n0 L T cn lk 92 = if lk then 1 else 0 := rfl
theorem σ0_93 : σ0 key k bits fr n0 L T cn lk 93 = (cn.inuse : Int) := rfl
theorem σ0_94 : σ0 key k bits fr n0 L T cn lk 94 = (cn.objects : Int) := rfl
theorem σ0_95 : σ0 key k bits fr n0 L T cn lk 95 = if cn.frozen then 1 else 0 := rfl
theorem σ0_96 : σ0 key k bits fr n0 L T cn lk 96 = if cn.live then 1 else 0 := rfl
theorem σ0_ln {q : Nat} (h : q < 64) : σ0 key k bits fr n0 L T cn lk (ln q) = ((l0 key k bits fr L q).length : Int) := by
  unfold σ0
  rw [sg_ln h]
theorem σ0_lc0 {e : Nat} : σ0 key k bits fr n0 L T cn lk (lc 0 e 0) = bits.getD e 0 := by
  unfold σ0
  rw [sg_lc (by omega) (by omega)]
  exact (one_at bits e 0).trans (if_pos rfl)
theorem σ0_4 : σ0 key k bits fr n0 L T cn lk 4 = (sF key k bits fr).ta.end_ := by rw [σ0_lo (by omega)]; rfl
theorem σ0_1 : σ0 key k bits fr n0 L T cn lk 1 = (sF key k bits fr).ta.job := by rw [σ0_lo (by omega)]; rfl
theorem σ0_3 : σ0 key k bits fr n0 L T cn lk 3 = (sF key k bits fr).ta.pc := by rw [σ0_lo (by omega)]; rfl
theorem σ0_7 : σ0 key k bits fr n0 L T cn lk 7 = (sF key k bits fr).ta.obj := by rw [σ0_lo (by omega)]; rfl
theorem σ0_21 : σ0 key k bits fr n0 L T cn lk 21 = (sF key k bits fr).tb.end_ := by rw [σ0_lo (by omega)]; rfl
theorem σ0_18 : σ0 key k bits fr n0 L T cn lk 18 = (sF key k bits fr).tb.job := by rw [σ0_lo (by omega)]; rfl
theorem σ0_20 : σ0 key k bits fr n0 L T cn lk 20 = (sF key k bits fr).tb.pc := by rw [σ0_lo (by omega)]; rfl
theorem σ0_24 : σ0 key k bits fr n0 L T cn lk 24 = (sF key k bits fr).tb.obj := by rw [σ0_lo (by omega)]; rfl
attribute [local irreducible] σ0
theorem kcs_all (hk : k ≤ 9) (hkey : key < 18446744073709551616) (hd : Duo k fr key 60 (sF key k bits fr).g L T (sF key k bits fr).ta (sF key k bits fr).tb)
    (hn : (Lit.int .i64 n0).wf = true) (hkn : n0 % 9 = k) (hkeyn : IntKind.u64.wrap (IntKind.u64.wrap n0 * 77) = key) (hsee : seeP (ch 10 key) (sF key k bits fr).g = some ⟨[⟨0, L, T, []⟩], [], lk, [⟨cn, []⟩]⟩) :
    KcAll [] [(0, .bool)] (roB A len cap) Try.prog (σ0 key k bits fr n0 L T cn lk) (Ω0 key k bits fr) (kcs0 L.isEmpty) := by
  have hwf : ∀ x : Int, 0 ≤ x ∧ x < 10 → (Lit.int .i64 x).wf = true := fun x hx => by
    simp [Lit.wf, IntKind.min, IntKind.max, IntKind.signed, IntKind.bits]
    omega
  have hw9 : LsVal (σ0 key k bits fr n0 L T cn lk) 9 ((sF key k bits fr).g.map fun (x : Nat) => (x : Int)) := ls_val (by omega) rfl
  refine kcAll_more (kcAll_cons (fun fs ok => ?_) (kcAll_cons (fun fs ok => ?_) (kcAll_cons (fun fs ok => ?_) (kcAll_cons (fun fs ok => ?_) (kcAll_cons (fun fs ok => ?_) (kcAll_cons (fun fs ok => ?_) kcAll_nil)))))) (kcAll_sl fun n hn2 fs ok => ?_) <;>
    letI N : Nums := nums [] [(0, .bool)] (roB A len cap) (σ0 key k bits fr n0 L T cn lk) (Ω0 key k bits fr) fs ok
  · refine kc_pure rfl rfl rfl rfl rfl fn_bring fun _ W w m hO => ?_
    have hargs : valsOf N.σ (kcBring (v 80) 9 35).args = [.int .i64 n0, .int .i64 9] := by
      show [Value.int .i64 (σ0 key k bits fr n0 L T cn lk 80), _] = _
      rw [σ0_80]
      rfl
    rw [hargs]
    refine (bring_spec n0 9 (by omega) (by omega) hn w).mono ?_
    rintro e w' ⟨rfl, rfl⟩
    refine ⟨?_, hO⟩
    show _ = Ending.returned (.int .i64 (σ0 key k bits fr n0 L T cn lk 35))
    rw [σ0_k, hkn]
  · refine kc_pure rfl rfl rfl rfl rfl fn_bring fun hcs W w m hO => ?_
    have h4 : Cnd.ev (σ0 key k bits fr n0 L T cn lk) (.eq (v 4) (l 1)) = true := hcs (Cnd.eq (v 4) (l 1), true) (by simp)
    simp only [Cnd.ev, SE.ev, v, l, σ0_4, beq_iff_eq] at h4
    have ho : 0 ≤ (sF key k bits fr).ta.obj ∧ (sF key k bits fr).ta.obj < 10 := by
      rcases hd.a.st with ⟨a, -⟩ | ⟨a, -⟩ | ⟨-, -, h⟩ | ⟨a, -⟩ | ⟨a, -⟩ | ⟨a, -⟩ <;> first | exact h | omega
    have hargs : valsOf N.σ ({ kcBring (v 7) 10 77 with conds := [(.eq (v 4) (l 1), true)] } : Kc).args = [.int .i64 (sF key k bits fr).ta.obj, .int .i64 10] := by
      show [Value.int .i64 (σ0 key k bits fr n0 L T cn lk 7), _] = _
      rw [σ0_7]
      rfl
    rw [hargs]
    refine (bring_spec _ 10 (by omega) (by omega) (hwf _ ho) w).mono ?_
    rintro e w' ⟨rfl, rfl⟩
    refine ⟨?_, hO⟩
    show _ = Ending.returned (.int .i64 (σ0 key k bits fr n0 L T cn lk 77))
    rw [σ0_77]
  · refine kc_pure rfl rfl rfl rfl rfl fn_bring fun hcs W w m hO => ?_
    have h21 : Cnd.ev (σ0 key k bits fr n0 L T cn lk) (.eq (v 21) (l 1)) = true := hcs (Cnd.eq (v 21) (l 1), true) (by simp)
    have h18 : Cnd.ev (σ0 key k bits fr n0 L T cn lk) (.eq (v 18) (l 1)) = true := hcs (Cnd.eq (v 18) (l 1), true) (by simp)
    simp only [Cnd.ev, SE.ev, v, l, σ0_21, beq_iff_eq] at h21
    simp only [Cnd.ev, SE.ev, v, l, σ0_18, beq_iff_eq] at h18
    have ho : 0 ≤ (sF key k bits fr).tb.obj ∧ (sF key k bits fr).tb.obj < 10 := by
      have hb := hd.b
      cases fr with
      | true =>
        have hb : Fr key (sF key k bits true).g L T (sF key k bits true).tb := hb
        have := hb.job
        omega
      | false =>
        have hb : Al L T (sF key k bits false).tb := hb
        rcases hb.st with ⟨a, -⟩ | ⟨a, -⟩ | ⟨-, -, h⟩ | ⟨a, -⟩ | ⟨a, -⟩ | ⟨a, -⟩ <;> first | exact h | omega
    have hargs : valsOf N.σ ({ kcBring (v 24) 10 78 with conds := [(.eq (v 21) (l 1), true), (.eq (v 18) (l 1), true)] } : Kc).args = [.int .i64 (sF key k bits fr).tb.obj, .int .i64 10] := by
      show [Value.int .i64 (σ0 key k bits fr n0 L T cn lk 24), _] = _
      rw [σ0_24]
      rfl
    rw [hargs]
    refine (bring_spec _ 10 (by omega) (by omega) (hwf _ ho) w).mono ?_
    rintro e w' ⟨rfl, rfl⟩
    refine ⟨?_, hO⟩
    show _ = Ending.returned (.int .i64 (σ0 key k bits fr n0 L T cn lk 78))
    rw [σ0_78]
  · refine kc_make (i := 6) rfl rfl rfl rfl rfl rfl fn_stocked fun _ W w m hO => ?_
    have hargs : valsOf N.σ kcStocked.args = [.int .i64 (k : Int), .int .i64 (10 : Nat), .int .u64 (key : Int), .int .u64 (3 : Nat)] := by
      show [Value.int .i64 (σ0 key k bits fr n0 L T cn lk 35), _, Value.int .u64 (IntKind.u64.wrap (IntKind.u64.wrap (σ0 key k bits fr n0 L T cn lk 80) * 77)), _] = _
      rw [σ0_k, σ0_80, hkeyn]
      rfl
    rw [hargs]
    refine (stocked_spec (n := k) (objs := 10) (key := key) (turn := 3) hO (by omega) (by omega) (by omega) hkey).mono ?_
    rintro e w' ⟨b0, b1, q, hq, rfl, h2⟩
    refine ⟨b0, b1, _, _, ?_, ⟨q, by omega, rfl⟩, rfl, h2⟩
    show _ = Ending.returned (.tuple #[_, Ex.valOf (σ0 key k bits fr n0 L T cn lk) (.agg chL)])
    rw [chart_val]
  · refine kc_words (N := 22) (g := (sF key k bits fr).g) (by decide) (by decide) hd.good.len (by omega) (by omega) hw9 (fun b0 b1 o h => ?_) fun b0 b1 o h => h
    obtain ⟨q, -, e⟩ := h
    exact ⟨q, e⟩
  · refine kc_pure rfl rfl rfl rfl rfl fn_works fun _ W w m hO => ?_
    exact works_in hO
  · refine kc_see (c := ch 10 key) (d := 0) (e := 0) (K := ⟨[⟨0, L, T, []⟩], [], lk, [⟨cn, []⟩]⟩) (g := (sF key k bits fr).g) hn2 rfl chart_val (cok_ch (by omega) (by omega) hkey) hd.good.w64 (by rw [hd.good.len, words_ch]) hw9 hsee ?_
    refine ⟨⟨⟨rfl, rfl⟩, ⟨σ0_90, σ0_91⟩, ⟨ls_val (by omega) rfl, ls_val (by omega) rfl⟩, trivial⟩, ⟨rfl, show LsVal _ 3 [] from ls_val (by omega) rfl, ?_⟩, ⟨rfl, ⟨σ0_93, σ0_94, ?_, ?_⟩, show LsVal _ 4 [] from ls_val (by omega) rfl, trivial⟩, Nat.one_pos, Nat.one_pos⟩
    · show lk = !(σ0 key k bits fr n0 L T cn lk 92 == 0)
      rw [σ0_92]
      cases lk <;> rfl
    · show cn.frozen = !(σ0 key k bits fr n0 L T cn lk 95 == 0)
      rw [σ0_95]
      cases cn.frozen <;> rfl
    · show cn.live = !(σ0 key k bits fr n0 L T cn lk 96 == 0)
      rw [σ0_96]
      cases cn.live <;> rfl
set_option maxHeartbeats 4000000 in
/-- THE LAW -/
theorem apart_law (w : World) (n : Int) (fr : Bool) (hn : (Lit.int .i64 n).wf = true) (A : Option Addr) (len cap : Nat) (hlc : len ≤ cap) (hcap : cap ≤ maxLen) (hat : FlatAt w [none] A len) :
    Calls Try.prog 9 #[.int .i64 n, .bool fr, .slice A len cap] w fun r w' => r = .returned (.bool true) ∧ Own w [] w' := by
  obtain ⟨bits, hbl, hbc, hbn, -⟩ := flat_list hat
  obtain ⟨k, hkn⟩ : ∃ a : Nat, n % 9 = a := mod_of n
  have hk : k ≤ 9 := by omega
  obtain ⟨key, hkeyn, hkey⟩ := key_of n
  obtain ⟨L, T, hd⟩ := duo_sF (key := key) (bits := bits) (fr := fr) hk
  obtain ⟨cn, lk, hsee⟩ := good_see2 hd.good (by omega) (by omega)
  have he := duo_end hd
  have ok : ∀ q ∈ f0, q.1.ev (σ0 key k bits fr n L T cn lk) = q.2 := by
    have n5 : (σ0 key k bits fr n L T cn lk (ln 5)).toNat = 10 := by
      rw [σ0_ln (by omega)]
      show (((one (hadF L)).length : Nat) : Int).toNat = _
      rw [one_len, hadF_len]
      rfl
    intro q hq
    simp only [f0, List.mem_cons, List.not_mem_nil, or_false] at hq
    rcases hq with rfl | rfl | rfl | rfl | rfl | rfl
    · show decide (σ0 key k bits fr n L T cn lk 77 < 0) = false
      rw [σ0_77]
      exact decide_eq_false (by omega)
    · show decide (σ0 key k bits fr n L T cn lk 77 < 10) = true
      rw [σ0_77]
      exact decide_eq_true (by omega)
    · show decide (σ0 key k bits fr n L T cn lk 78 < 0) = false
      rw [σ0_78]
      exact decide_eq_false (by omega)
    · show decide (σ0 key k bits fr n L T cn lk 78 < 10) = true
      rw [σ0_78]
      exact decide_eq_true (by omega)
    · show (((σ0 key k bits fr n L T cn lk (ln 5)).toNat : Int) == 10) = true
      rw [n5]
      rfl
    · show (σ0 key k bits fr n L T cn lk 90 == 0) = true
      rw [σ0_90]
      rfl
  have hb0 : σ0 key k bits fr n L T cn lk (ln 0) = (len : Int) := by
    rw [σ0_ln (by omega)]
    show (((one bits).length : Nat) : Int) = _
    rw [one_len, hbl]
  refine law_calls (f := 9) mixed (kcs_all (A := A) (len := len) (cap := cap) hk hkey hd hn hkn hkeyn hsee) (lns_all hk hkey hd trivial) ok (run0 fr L.isEmpty (dA key k bits fr) (dB key k bits fr)) ?_ w tabs_nil ?_ ?_
  · have yes : RunC (σ0 key k bits fr n L T cn lk) (fun v _ => v = .bool true) (yesT true) := rfl
    have hB : RunC (σ0 key k bits fr n L T cn lk) (fun v _ => v = .bool true) (endB (dB key k bits fr)) := by
      refine ⟨fun h => ?_, fun h => ?_⟩
      · have h : (σ0 key k bits fr n L T cn lk 21 == 1) = true := h
        rw [σ0_21] at h
        have h := eq_of_beq h
        refine ⟨fun h2 => ?_, fun h2 => ?_⟩
        · have h2 : (σ0 key k bits fr n L T cn lk 18 == 1) = true := h2
          rw [σ0_18] at h2
          have h2 := eq_of_beq h2
          have hfr : fr = false := by
            cases fr with
            | false => rfl
            | true =>
              have hb : Fr key (sF key k bits true).g L T (sF key k bits true).tb := hd.b
              have := hb.job
              omega
          have : dB key k bits fr = true := by unfold dB; rw [decide_eq_true h, hfr]; rfl
          rw [this]
          exact yes
        · have h2 : (σ0 key k bits fr n L T cn lk 18 == 1) = false := h2
          rw [σ0_18, beq_eq_false_iff_ne] at h2
          have hfr : fr = true := by
            cases fr with
            | true => rfl
            | false =>
              have hb : Al L T (sF key k bits false).tb := hd.b
              exact absurd hb.job h2
          have : dB key k bits fr = false := by unfold dB; rw [hfr]; simp
          rw [this]
          exact yes
      · have h : (σ0 key k bits fr n L T cn lk 21 == 1) = false := h
        rw [σ0_21, beq_eq_false_iff_ne] at h
        have hdB : dB key k bits fr = false := by unfold dB; rw [decide_eq_false h]; rfl
        refine ⟨fun _ => by rw [hdB]; exact yes, fun h2 => ?_⟩
        have h2 : (σ0 key k bits fr n L T cn lk 20 == 20) = false := h2
        rw [σ0_20, beq_eq_false_iff_ne] at h2
        rcases he.2 with h3 | ⟨_, h3, _⟩
        · exact absurd h3 h
        · exact absurd h3 h2
    refine ⟨fun h => ?_, fun h => ?_⟩
    · have h : (σ0 key k bits fr n L T cn lk 4 == 1) = true := h
      rw [σ0_4] at h
      have h := eq_of_beq h
      have hdA : dA key k bits fr = true := by unfold dA; exact decide_eq_true h
      refine ⟨fun _ => by rw [hdA]; exact hB, fun h2 => ?_⟩
      have h2 : (σ0 key k bits fr n L T cn lk 1 == 1) = false := h2
      rw [σ0_1, beq_eq_false_iff_ne] at h2
      exact absurd hd.a.job h2
    · have h : (σ0 key k bits fr n L T cn lk 4 == 1) = false := h
      rw [σ0_4, beq_eq_false_iff_ne] at h
      have hdA : dA key k bits fr = false := by unfold dA; exact decide_eq_false h
      refine ⟨fun _ => by rw [hdA]; exact hB, fun h2 => ?_⟩
      have h2 : (σ0 key k bits fr n L T cn lk 3 == 20) = false := h2
      rw [σ0_3, beq_eq_false_iff_ne] at h2
      rcases he.1 with h3 | ⟨_, h3⟩
      · exact absurd h3 h
      · exact absurd h3 h2
  · intro i ck A' len' c' hck hro
    have hro : roB A len cap i = some (A', len', c') := hro
    have hi : i = 0 := by
      by_cases h : i = 0
      · exact h
      · simp [roB, h] at hro
    subst hi
    have hro : some (A, len, cap) = some (A', len', c') := hro
    cases hro
    have hck : some CK.bool = some ck := hck
    cases hck
    refine ⟨show (σ0 key k bits fr n L T cn lk (ln 0)).toNat = len by rw [hb0]; rfl, fun a ha h0 => ?_⟩
    obtain ⟨h1, h2⟩ := hbc a ha h0
    refine ⟨h1, fun e he => ?_⟩
    rw [h2 e he]
    congr 2
    show _ = σ0 key k bits fr n L T cn lk (lc 0 e 0)
    rw [σ0_lc0, List.getD_eq_getElem?_getD]
  · letI N : Nums := nums [] [(0, .bool)] (roB A len cap) (σ0 key k bits fr n L T cn lk) (Ω0 key k bits fr) f0 ok
    show VRs (fun _ => none) [.sym .i64 (v 80), .bool fr, .rsl 0] [.int .i64 n, .bool fr, .slice A len cap]
    refine VRs.cons ?_ (VRs.cons ?_ (VRs.cons ?_ VRs.nil))
    · unfold VR
      show _ = Value.int .i64 (σ0 key k bits fr n L T cn lk 80)
      rw [σ0_80]
    · unfold VR; rfl
    · unfold VR
      exact ⟨A, len, cap, rfl, rfl, hlc, hcap, show (σ0 key k bits fr n L T cn lk (ln 0)).toNat = len by rw [hb0]; rfl, hbn⟩
end
end Go.Proofs.Ytigakendeghoaaa.FastAp
