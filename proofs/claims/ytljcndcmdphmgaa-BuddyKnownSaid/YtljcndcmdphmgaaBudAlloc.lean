/-
  Contract: (*Buddy).Alloc.
-/
import Derived.Test.YtljcndcmdphmgaaBudLeast
namespace Go.Proofs.Ytljcndcmdphmgaa
open Go.RowKit
attribute [local go_sem ↓] Go.wp_at_zero Go.wp_at_succ
/-- the table behind Alloc -/
def allocL (L : List Pg) (a order k : Nat) (c : Int) : List Pg := pgPut (bSplit a order k L) a (2, (order : Int), c)
section
variable {W w : World} {m bl : List (Nat × Obj)} {pb : Nat} {L : List Pg}
def AllocPost (W : World) (m bl : List (Nat × Obj)) (pb : Nat) (L : List Pg) (order c : Int) (e : Ending) (w' : World) : Prop :=
  ((order < 0 ∨ 10 < order ∨ c < 0 ∨ 8 < c) ∧ e = .returned (.tuple #[.int .i64 0, .int .i64 2]) ∧ Own W (bl ++ m) w') ∨
  ((0 ≤ order ∧ order ≤ 10 ∧ 0 ≤ c ∧ c ≤ 8) ∧ NoneIs L order.toNat ∧ e = .returned (.tuple #[.int .i64 0, .int .i64 7]) ∧ Own W (bl ++ m) w') ∨
  ((0 ≤ order ∧ order ≤ 10 ∧ 0 ≤ c ∧ c ≤ 8) ∧ ∃ a k bl', LeastIs L order.toNat a (order.toNat + k) ∧ e = .returned (.tuple #[.int .i64 a, .int .i64 0]) ∧ BdO pb (allocL L a order.toNat k c) bl' ∧ Own W (bl' ++ m) w')
theorem bool_dec (p : Prop) [Decidable p] (h : p) : decide p = true := decide_eq_true h
set_option maxRecDepth 100000 in
set_option maxHeartbeats 4000000 in
theorem alloc_bad (h : Own W (bl ++ m) w) (hb : BdO pb L bl) (hL1 : 1 ≤ L.length) (order c : Int) (hbad : order < 0 ∨ 10 < order ∨ c < 0 ∨ 8 < c) :
    Calls Try.prog 28 #[.pointer (some ⟨pb, 0, none⟩), .int .i64 order, .int .i64 c] w (AllocPost W m bl pb L order c) := by
  by_cases h1 : order < 0
  · clear hbad
    go_enter Try.func28, Try.ntmps28
    go_wp2_with (go_at_call 53; refine (none_spec h hb hL1).mono ?_; rintro e w' ⟨rfl, rfl⟩)
    go_ret2
    exact .inl ⟨.inl h1, rfl, h⟩
  · have h1' : 0 ≤ order := by omega
    by_cases h2 : 10 < order
    · clear hbad h1
      go_enter Try.func28, Try.ntmps28
      go_wp2_with (go_at_call 53; refine (none_spec h hb hL1).mono ?_; rintro e w' ⟨rfl, rfl⟩)
      go_ret2
      exact .inl ⟨.inr (.inl h2), rfl, h⟩
    · have h2' : order ≤ 10 := by omega
      by_cases h3 : c < 0
      · clear hbad h1 h2
        go_enter Try.func28, Try.ntmps28
        go_wp2_with (go_at_call 53; refine (none_spec h hb hL1).mono ?_; rintro e w' ⟨rfl, rfl⟩)
        go_ret2
        exact .inl ⟨.inr (.inr (.inl h3)), rfl, h⟩
      · have h4 : 8 < c := by omega
        have h3' : 0 ≤ c := by omega
        clear hbad h1 h2 h3
        go_enter Try.func28, Try.ntmps28
        go_wp2_with (go_at_call 53; refine (none_spec h hb hL1).mono ?_; rintro e w' ⟨rfl, rfl⟩)
        go_ret2
        exact .inl ⟨.inr (.inr (.inr h4)), rfl, h⟩
set_option maxRecDepth 100000 in
set_option maxHeartbeats 4000000 in
theorem alloc_ok (h : Own W (bl ++ m) w) (hb : BdO pb L bl) {bs0 : List Pg} (hT : Tab L bs0) (hL1 : 1 ≤ L.length) (hL : L.length ≤ 1024) (order : Nat) (c : Int) (ho : order ≤ 10) (hc0 : 0 ≤ c) (hc8 : c ≤ 8) :
    Calls Try.prog 28 #[.pointer (some ⟨pb, 0, none⟩), .int .i64 order, .int .i64 c] w (AllocPost W m bl pb L order c) := by
  have HT := Lib.hid hT
  have ho' : (order : Int) ≤ 10 := by omega
  have ho0 : (0 : Int) ≤ order := by omega
  clear hT
  go_enter Try.func28, Try.ntmps28
  go_wp2_with (go_at_call 53; refine (none_spec h hb hL1).mono ?_; rintro e w' ⟨rfl, rfl⟩)
  refine (least_spec h hb HT.out hL1 hL order).mono ?_
  rintro e w1 (⟨a, o, rfl, hLe, h1⟩ | ⟨x, y, rfl, hNo, h1⟩)
  · obtain ⟨k, rfl⟩ : ∃ k, o = order + k := ⟨o - order, by have := hLe.1; omega⟩
    have HLe := Lib.hid hLe
    have hk10 := hLe.2.1
    have hfb := hLe.2.2.1
    obtain ⟨hal, hfit, -⟩ := tab_align HT.out hfb (fb_kind _)
    rw [fb_size] at hal hfit
    have h2 : Own W (bl ++ ((w1.heap.size, .cells #[.int .i64 a, .int .i64 ((order + k : Nat) : Int)] 102) :: m)) (w1.alloc (.cells #[.int .i64 a, .int .i64 ((order + k : Nat) : Int)] 102)) := h1.new1 _
    obtain ⟨N, hN⟩ : ∃ N, L.length = N := ⟨_, rfl⟩
    have HN := Lib.hid hN
    rw [hN] at hfit hL hL1
    have HAL := Lib.hid hal
    have HF := Lib.hid hfit
    have hfit1 : a + 1 ≤ N := by have := Nat.two_pow_pos (order + k); omega
    clear hfb hal hfit hLe hN
    go_wp2_with fail
    go_loopw [] (fun wr => ∃ j Lj bl', j ≤ k ∧ Hid (bSplit a order j Lj = bSplit a order k L) ∧ Hid (Lj.length = N) ∧ BdO pb Lj bl' ∧ Own W (bl' ++ ((w1.heap.size, .cells #[.int .i64 a, .int .i64 ((order + j : Nat) : Int)] 102) :: m)) wr) (fun wr => match wr.cell? ⟨w1.heap.size, 1, none⟩ with | some v => (intOf v).toNat | none => 0)
    case atStart => exact ⟨k, L, bl, Nat.le_refl _, rfl, HN, hb, h2⟩
    case round =>
      obtain ⟨j, Lj, bl', hj, HS, HLj, hbj, hr⟩ := hrel
      cases j with
      | zero =>
        have y0 := hr.dropL.cell List.mem_cons_self 0
        have y1 := hr.dropL.cell List.mem_cons_self 1
        simp only [Nat.add_zero] at hr y0 y1
        simp at y0 y1
        have hS := HS.out
        simp only [bSplit] at hS
        have HS' := Lib.hid hS
        have hsz : pgSize ((2 : Int), ((order : Nat) : Int), c) = 2 ^ order := by simp [pgSize]
        have hlay := lay_spec hr hbj a order ho (by rw [HLj.out]; have := HF.out; have := Nat.pow_le_pow_right (show 0 < 2 from by omega) (show order ≤ order + k from by omega); omega) (by rw [HLj.out]; exact hL) 2 0 c
        have HLAY := Lib.hid hlay
        clear hS hsz hlay
        go_wp2_with fail
        refine HLAY.out.mono ?_
        rintro e w2 ⟨bl2, rfl, hb2, h3⟩
        have y0 := h3.dropL.cell List.mem_cons_self 0
        simp at y0
        go_wp2_with fail
        go_ret2
        refine .inr (.inr ⟨⟨ho0, ho', hc0, hc8⟩, a, k, bl2, HLe.out, rfl, ?_, h3.drop1⟩)
        have e : allocL L a order k c = pgPut Lj a (2, ((order : Nat) : Int), c) := by unfold allocL; rw [HS'.out]
        rw [Int.toNat_natCast, e]
        exact hb2
      | succ j =>
        obtain ⟨s, hs⟩ : ∃ s, s = order + j := ⟨_, rfl⟩
        have hs1 : order + (j + 1) = s + 1 := by omega
        rw [hs1] at hr
        have hsk : s + 1 ≤ order + k := by omega
        have hs10 : s ≤ 10 := by omega
        have hso : (order : Int) < (s : Int) + 1 := by omega
        have y0 := hr.dropL.cell List.mem_cons_self 0
        have y1 := hr.dropL.cell List.mem_cons_self 1
        have yf := hr.dropL.frozen List.mem_cons_self 1
        simp at y0 y1
        have h4 : Own W (bl' ++ ((w1.heap.size, .cells #[.int .i64 a, .int .i64 ((s : Nat) : Int)] 102) :: m)) _ := hr.setIn 1 (.int .i64 s)
        have hoth : other a s = a + 2 ^ s := by
          rcases other_cases a s (mod_of_dvd (Nat.pow_dvd_pow 2 (by omega)) HAL.out) with ⟨-, h, -⟩ | ⟨h, -⟩
          · exact h
          · exact absurd (mod_of_dvd (by rw [show 2 * 2 ^ s = 2 ^ (s + 1) from by rw [Nat.pow_succ]; omega]; exact Nat.pow_dvd_pow 2 hsk) HAL.out) h
        have hpp : a + 2 ^ s + 2 ^ s ≤ N := by
          have h1 := HF.out
          have h2 := Nat.pow_le_pow_right (show 0 < 2 from by omega) hsk
          rw [Nat.pow_succ] at h2
          omega
        have hal2 : a % 2 ^ s = 0 := mod_of_dvd (Nat.pow_dvd_pow 2 (by omega)) HAL.out
        have HO := Lib.hid hoth
        have HPP := Lib.hid hpp
        have HAL2 := Lib.hid hal2
        have hjk : j ≤ k := by omega
        have HSJ := Lib.hid hs
        clear hoth hpp hal2
        have HR := Lib.hid hr
        have hbig : 1 ≤ s + 1 := by omega
        clear hr hs1 hs
        go_wp2_with fail
        refine (other_spec h4 a s hs10 (by omega) HAL2.out).mono ?_
        rintro e w2 ⟨rfl, h5⟩
        go_wp2_with fail
        refine (lay_spec h5 hbj (other a s) s hs10 (by rw [HLj.out, HO.out]; exact HPP.out) (by rw [HLj.out]; exact hL) 0 0 0).mono ?_
        rintro e w3 ⟨bl2, rfl, hb2, h6⟩
        have z1 := h6.dropL.cell List.mem_cons_self 1
        simp at z1
        go_wp2_with fail
        obtain rfl : s = order + j := HSJ.out
        refine ⟨⟨j, _, bl2, hjk, ?_, ?_, hb2, h6⟩, ?_⟩
        · rw [HO.out]
          exact HS.out
        · rw [HO.out]
          exact (pgPut_len (by rw [HLj.out, show pgSize ((0 : Int), ((order + j : Nat) : Int), (0 : Int)) = 2 ^ (order + j) from by show 2 ^ (((order + j : Nat) : Int)).toNat = _; rw [Int.toNat_natCast]]; exact HPP.out)).trans HLj.out
        · simp [intOf, z1, y1]
          omega
  · go_wp2_with fail
    go_ret2
    exact .inr (.inl ⟨⟨ho0, ho', hc0, hc8⟩, by rw [Int.toNat_natCast]; exact hNo, rfl, h1.alloc _⟩)
end
end Go.Proofs.Ytljcndcmdphmgaa
