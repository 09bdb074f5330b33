/-
  The reference's tables: Check, begin, Free, Same, of tables that may be; Left, Whole of its buddies. No condition.
-/
import Derived.Test.YtljcndcmdphmgaaBrfD
namespace Go.Proofs.Ytljcndcmdphmgaa
open Go.RowKit
attribute [local go_sem ↓] Go.wp_at_zero Go.wp_at_succ
theorem tab_in {L b1 b2 : List Pg} {p : Pg} (h : Tab L (b1 ++ p :: b2)) {i : Nat} (h1 : (lay b1).length < i) (h2 : i < (lay b1).length + pgSize p) : L[i]? = some pgIn := by
  have e : L = lay b1 ++ (lay [p] ++ lay b2) := by rw [h.1, ← lay_append, ← lay_append]; rfl
  obtain ⟨j, hj⟩ : ∃ j, i - (lay b1).length = j + 1 := ⟨i - (lay b1).length - 1, by omega⟩
  rw [e, List.getElem?_append_right (by omega), List.getElem?_append_left (by rw [lay_one_len]; omega), lay_one, hj, List.getElem?_cons_succ, List.getElem?_replicate, if_pos (by omega)]
/-- which pages are in free blocks -/
def kinds (bs : List Pg) : List Bool := bs.flatMap fun p => List.replicate (pgSize p) (decide (p.1 = 0))
theorem kinds_len : ∀ bs : List Pg, (kinds bs).length = (lay bs).length
  | [] => rfl
  | p :: bs => by
    have h1 := kinds_len bs
    have h2 := lay_cons_len p bs
    unfold kinds at h1 ⊢
    simp only [List.flatMap_cons, List.length_append, List.length_replicate]
    omega
theorem kinds_sum : ∀ bs : List Pg, (((kinds bs).count true : Nat) : Int) = freeSum bs
  | [] => rfl
  | p :: bs => by
    have h1 := kinds_sum bs
    unfold kinds at h1 ⊢
    simp only [List.flatMap_cons, List.count_append, List.count_replicate, freeSum]
    push_cast
    rw [h1]
    by_cases hp : p.1 = 0 <;> simp [hp]
theorem kinds_at (b1 b2 : List Pg) (p : Pg) {i : Nat} (h1 : (lay b1).length ≤ i) (h2 : i < (lay b1).length + pgSize p) : (kinds (b1 ++ p :: b2))[i]? = some (decide (p.1 = 0)) := by
  have e : kinds (b1 ++ p :: b2) = kinds b1 ++ (List.replicate (pgSize p) (decide (p.1 = 0)) ++ kinds b2) := by simp [kinds]
  have := kinds_len b1
  rw [e, List.getElem?_append_right (by omega), List.getElem?_append_left (by simp; omega), List.getElem?_replicate, if_pos (by omega)]
def kcnt (bs : List Pg) (i : Nat) : Nat := ((kinds bs).take i).count true
theorem kcnt_succ {bs : List Pg} {i : Nat} {b : Bool} (h : (kinds bs)[i]? = some b) : kcnt bs (i + 1) = kcnt bs i + if b = true then 1 else 0 := by
  obtain ⟨hi, he⟩ := List.getElem?_eq_some_iff.1 h
  unfold kcnt
  rw [List.take_succ_eq_append_getElem hi, List.count_append, he]
  cases b <;> simp
theorem kcnt_le (bs : List Pg) (i : Nat) : kcnt bs i ≤ i := by
  unfold kcnt
  exact Nat.le_trans List.count_le_length (by simp; omega)
section
variable {W w : World} {m bs bl : List (Nat × Obj)} {v : Value} {L : List Pg} {rb : Nat}
set_option maxHeartbeats 1000000 in
theorem rhead_yes (h : Own W m w) (p0 p1 p2 : Int) (hp : pgHead (p0, p1, p2) = true) :
    Calls Try.prog 111 #[.agg #[.int .i64 p0, .int .i64 p1, .int .i64 p2]] w fun e w' => e = .returned (.bool true) ∧ Own W m w' := by
  have hp := of_decide_eq_true hp
  simp only at hp
  obtain ⟨h1, h2, ⟨rfl, rfl⟩ | ⟨rfl, h3, h4⟩⟩ := hp
  all_goals
    go_enter Try.func111, Try.ntmps111
    go_wp2_with fail
    go_ret
    exact ⟨rfl, h.alloc _⟩
set_option maxRecDepth 100000 in
set_option maxHeartbeats 4000000 in
theorem rcheck_ok (h : Own W m w) (hs : PgS w v L) {b0 : List Pg} (hT : Tab L b0) (h1 : 1 ≤ L.length) (h2 : L.length ≤ 1024) :
    Calls Try.prog 104 #[v] w fun e w' => e = .returned (.int .i64 0) ∧ Own W m w' := by
  obtain ⟨A, c, rfl, g1, g2, g3⟩ := hs
  unfold maxLen at g2
  obtain ⟨g, o, rfl, hA⟩ := g3 (by omega)
  have hlen := tab_len hT
  obtain ⟨N, hN⟩ : ∃ N, L.length = N := ⟨_, rfl⟩
  have HT := Lib.hid hT
  have HN := Lib.hid hN
  have HA := Lib.hid hA
  rw [hN] at h1 h2 g1 hlen ⊢
  have HLEN := Lib.hid hlen
  clear g3 hN hT hA hlen
  go_enter Try.func104, Try.ntmps104
  go_wp2_with fail
  go_loopw [3] (fun at_ wr => ∃ b1 b2, b0 = b1 ++ b2 ∧ at_ = .int .i64 (lay b1).length ∧ (lay b1).length ≤ N ∧ Own w [] wr) (fun at_ _ => N - (intOf at_).toNat)
  case atStart => exact ⟨[], b0, rfl, rfl, by simp [lay], Own.self w⟩
  case round =>
    obtain ⟨b1, b2, rfl, rfl, hle, hrw⟩ := hrel
    obtain ⟨a, ha⟩ : ∃ a, (lay b1).length = a := ⟨_, rfl⟩
    have HAA := Lib.hid ha
    rw [ha] at hle ⊢
    clear ha
    cases b2 with
    | nil =>
      have : a = N := by rw [← HAA.out, HLEN.out, List.append_nil]
      subst this
      have hlt : ¬ (a : Int) < a := by omega
      go_wp2_with fail
      go_ret
      exact ⟨rfl, h.of_self hrw⟩
    | cons p b2 =>
      have hrow := (row_append b1 _ 0).1 HT.out.2
      rw [Nat.zero_add, HAA.out] at hrow
      obtain ⟨-, q1, q2, -⟩ := hrow
      have hll : (lay (b1 ++ p :: b2)).length = (lay b1).length + (pgSize p + (lay b2).length) := by rw [lay_append, List.length_append, lay_cons_len]
      have hfit : a + pgSize p ≤ N := by rw [HLEN.out, hll, HAA.out]; omega
      have hat := tab_at HT.out
      rw [HAA.out] at hat
      have hin : ∀ i, a < i → i < a + pgSize p → L[i]? = some pgIn := fun i i1 i2 => tab_in HT.out (by rw [HAA.out]; exact i1) (by rw [HAA.out]; exact i2)
      obtain ⟨p0, p1, p2⟩ := p
      have ho := pgHead_order q1
      simp only at ho
      obtain ⟨s, rfl⟩ : ∃ s : Nat, p1 = s := ⟨p1.toNat, by omega⟩
      have hs10 : s ≤ 10 := by omega
      obtain ⟨M, hM, hMi, hM1, hM2⟩ := pow_nat hs10
      have HM := Lib.hid hM
      have hsz : pgSize (p0, ((s : Nat) : Int), p2) = M := by simp [pgSize, hM]
      rw [hsz] at q2 hfit hin
      have hmin : min s 64 = s := by omega
      have hwM : IntKind.i64.wrap (M : Int) = (M : Int) := by rw [IntWalk.i64_in] <;> omega
      have hs0 : (0 : Int) ≤ s := by omega
      have hmod : ((a : Int) % (M : Int) != 0) = false := by
        have : (a : Int) % (M : Int) = ((a % M : Nat) : Int) := by push_cast; rfl
        rw [this, q2]; rfl
      have hrd := HA.out.own hrw
      obtain ⟨c0, c1, c2⟩ := hrd.2 a _ hat
      simp only at c0 c1 c2
      have hlt : a < N := by omega
      have hlti : (a : Int) < N := by omega
      have ha0 : (0 : Int) ≤ a := by omega
      have hfi : (a : Int) + M ≤ N := by omega
      have hbox := hrw.new (.cells #[.int .i64 p0, .int .i64 s, .int .i64 p2] 24)
      have HBOX := Lib.hid hbox
      have HQ1 := Lib.hid q1
      have HIN := Lib.hid hin
      clear hin q1 q2 hat hM hsz hll hbox hrd
      go_wp2_with fail
      refine (rhead_yes HBOX.out p0 s p2 HQ1.out).mono ?_
      rintro e w5 ⟨rfl, h5⟩
      have x1 := h5.cell List.mem_cons_self 1
      simp at x1
      clear HBOX c0 c1 c2 hrw
      go_wp2_with fail
      go_loopw [5] (fun iv wr2 => ∃ i : Nat, a + 1 ≤ i ∧ i ≤ a + M ∧ iv = .int .i64 i ∧ Own w [(wr.heap.size, .cells #[.int .i64 p0, .int .i64 s, .int .i64 p2] 24)] wr2) (fun iv _ => a + M - (intOf iv).toNat)
      case atStart => exact ⟨a + 1, by omega, by omega, by go_num, h5⟩
      case round =>
        clear h5 x1
        obtain ⟨i, hi1, hi2, rfl, h5⟩ := hrel
        have x1 := h5.cell List.mem_cons_self 1
        simp at x1
        have hwi : IntKind.i64.wrap ((a : Int) + M) = (a : Int) + M := by rw [IntWalk.i64_in] <;> omega
        by_cases hil : i < a + M
        · have hili : (i : Int) < (a : Int) + M := by omega
          obtain ⟨c0, c1, c2⟩ := (HA.out.own h5).2 i _ (HIN.out i (by omega) hil)
          simp only [pgIn] at c0 c1 c2
          have hi0 : (0 : Int) ≤ i := by omega
          have hiN : (i : Int) < N := by omega
          go_wp2_with fail
          exact ⟨⟨i + 1, by omega, by omega, by go_num, h5⟩, by simp [intOf]; omega⟩
        · have hili : ¬ (i : Int) < (a : Int) + M := by omega
          go_wp2_with fail
          have e : ((a + M : Nat) : Int) = ((lay (b1 ++ [(p0, ((s : Nat) : Int), p2)])).length : Int) := by
            rw [lay_append, List.length_append, HAA.out, lay_one_len]
            have : pgSize (p0, ((s : Nat) : Int), p2) = M := by have := HM.out; simp [pgSize, this]
            rw [this]
          refine ⟨⟨b1 ++ [(p0, ((s : Nat) : Int), p2)], b2, by simp, by rw [← e]; go_num, by omega, h5.skip⟩, by simp [intOf]; omega⟩
end
end Go.Proofs.Ytljcndcmdphmgaa
