/-
  wainscotlaw13.StockPlays answers true, whatever it is given.
-/
import Derived.Test.YtpmnababdjdniaaStockPlays
import Derived.Test.YtpmnababdjdniaaArgs
namespace Go.Proofs.Ytpmnababdjdniaa.stockPlays
open Go.RowKit

set_option maxHeartbeats 400000 in
theorem walk_bad (cpus : Int) (A : Option Addr) (len cap : Nat) (hlen : len ≤ maxLen) (hc : cpus < 1 ∨ 8 < cpus) {W w : World} (h : Own W [] w) :
    Calls Try.prog 3 #[.int .i64 cpus, .slice A len cap] w fun e w' => e = .returned (.bool true) ∧ Own W [] w' := by
  unfold maxLen at hlen
  go_enter Try.func3, Try.ntmps3
  go_wp2_with (first | (go_at_call 11; refine (new_bad cpus hc _).mono ?_; rintro e w1 ⟨rfl, rfl⟩) | (go_at_call 12; refine (ref.new_bad cpus hc _).mono ?_; rintro e w1 ⟨rfl, rfl⟩))
  go_loopw [9] (fun i wr => i = .int .i64 0 ∧ Own W [] wr) (fun _ _ => 0)
  case atStart => exact ⟨rfl, h⟩
  case round =>
    obtain ⟨rfl, hr⟩ := hrel
    go_wp2_with fail
    all_goals
      refine (works_spec hr).mono ?_
      rintro e w1 ⟨rfl, h1⟩
      go_wp2_with fail
      go_ret
      exact ⟨rfl, h1⟩

set_option maxHeartbeats 1000000 in
theorem walk_ok (cpus : Int) (A : Option Addr) (len cap : Nat) (hlen : len ≤ maxLen) (h1 : 1 ≤ cpus) (h8 : cpus ≤ 8) {W w : World} (hA : FlatAt W [some .i64, some .i64, some .i64, some .i64] A len) (h : Own W [] w) :
    Calls Try.prog 3 #[.int .i64 cpus, .slice A len cap] w fun e w' => e = .returned (.bool true) ∧ Own W [] w' := by
  unfold maxLen at hlen
  go_enter Try.func3, Try.ntmps3
  go_wp2_with fail
  refine (new_ok h cpus h1 h8).mono ?_
  rintro e w1 ⟨b, bl, rfl, h1'⟩
  go_wp2_with fail
  refine (ref.new_ok h1' cpus h1 h8).mono ?_
  rintro e w2 ⟨c, cl, rfl, h2⟩
  have ok0 : StOk (List.replicate cpus.toNat (0, 0)) := ⟨by simp; omega, by simp; omega, fun p hp => .inl (List.eq_of_mem_replicate hp)⟩
  go_wp2_with fail
  go_loopw [9] (fun i wr => ∃ k : Nat, k ≤ len ∧ k ≤ 100 ∧ i = .int .i64 k ∧ ∃ l, StOk l ∧ Own W (stBlocks b bl l ++ (ref.blocks c cl l ++ [])) wr) (fun i _ => 100 - (intOf i).toNat)
  case atStart => exact ⟨0, by omega, by omega, rfl, _, ok0, h2.swap⟩
  case round =>
    obtain ⟨k, hk, hk1, rfl, l, ok, hr⟩ := hrel
    by_cases hlt : k < len ∧ k < 100
    · obtain ⟨B, o, rfl, hB, hd⟩ := hA (by omega)
      obtain ⟨_, e0, d0, rfl, x0⟩ := hd k hlt.1 0 _ rfl
      obtain ⟨_, e1, d1, rfl, x1⟩ := hd k hlt.1 1 _ rfl
      obtain ⟨_, e2, d2, rfl, x2⟩ := hd k hlt.1 2 _ rfl
      obtain ⟨_, e3, d3, rfl, x3⟩ := hd k hlt.1 3 _ rfl
      rw [← hr.old (by exact hB)] at e0 e1 e2 e3
      simp only [List.length_cons, List.length_nil, Nat.zero_add, Nat.reduceAdd, Nat.add_zero] at e0 e1 e2 e3
      clear hd hA
      go_wp2_with fail
      refine (step_spec hr ok d0 d1 d2 d3 x0).mono ?_
      rintro e w3 ⟨rfl, l', ok', h3⟩
      go_wp2_with fail
      obtain ⟨wo, rfl⟩ : ∃ wo : World, wo = wr := ⟨_, rfl⟩
      go_loopw [10] (fun i wr => ∃ z : Int, -1 ≤ z ∧ z ≤ 18 ∧ i = .int .i64 z ∧ Own W (stBlocks b bl l' ++ (ref.blocks c cl l' ++ [])) wr) (fun i _ => (18 - intOf i).toNat)
      case atStart => exact ⟨-1, by omega, by omega, rfl, h3⟩
      case round =>
        obtain ⟨z, hz, hz1, rfl, hr⟩ := hrel
        clear e0 e1 e2 e3
        by_cases hlz : z < 18
        · go_wp2_with fail
          refine (has_spec hr ok' z).mono ?_
          rintro e w4 ⟨rfl, h4⟩
          go_wp2_with fail
          refine (ref.Has_spec h4.swap ok' z).mono ?_
          rintro e w5 ⟨rfl, h5⟩
          go_wp2_with fail
          refine (held_spec h5.swap ok' z).mono ?_
          rintro e w6 ⟨rfl, h6⟩
          go_wp2_with fail
          refine (ref.held_spec h6.swap ok' z).mono ?_
          rintro e w7 ⟨rfl, h7⟩
          go_wp2_with fail
          go_roundw
          case rel => exact ⟨z + 1, by omega, by omega, rfl, h7.swap⟩
          case measure => simp [intOf]; omega
        · go_wp2_with fail
          go_roundw
          case rel => exact ⟨k + 1, by omega, by omega, by go_num, l', ok', hr⟩
          case measure => simp [intOf]; omega
    · clear hA
      have hor : len ≤ k ∨ 100 ≤ k := by omega
      clear hlt
      rcases hor with hlt | hlt
      all_goals go_wp2_with fail
      all_goals
        refine (works_spec hr.dropL.dropL).mono ?_
        rintro e w3 ⟨rfl, h3⟩
        go_wp2_with fail
        go_ret
        exact ⟨rfl, h3⟩
end Go.Proofs.Ytpmnababdjdniaa.stockPlays
