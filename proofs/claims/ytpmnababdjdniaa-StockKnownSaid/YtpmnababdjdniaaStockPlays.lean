/-
  wainscotlaw13.step answers true, and both stocks stand alike behind it.
-/
import Derived.Test.YtpmnababdjdniaaStockRef2
import Derived.Test.YtpmnababdjdniaaBring
namespace Go.Proofs.Ytpmnababdjdniaa.stockPlays
open Go.RowKit
attribute [local go_sem ↓] Go.wp_at_zero Go.wp_at_succ

set_option maxHeartbeats 1000000 in
theorem step_spec {W : World} {m : List (Nat × Obj)} {w : World} {b bl c cl : Nat} {l : List (Int × Int)} (h : Own W (stBlocks b bl l ++ (ref.blocks c cl l ++ m)) w) (ok : StOk l) (k cpu g n : Int) (xk : (Lit.int .i64 k).wf = true) :
    Calls Try.prog 13 #[.pointer (some ⟨b, 0, none⟩), .pointer (some ⟨c, 0, none⟩), .agg #[.int .i64 k, .int .i64 cpu, .int .i64 g, .int .i64 n]] w fun e w' => e = .returned (.bool true) ∧ ∃ l', StOk l' ∧ Own W (stBlocks b bl l' ++ (ref.blocks c cl l' ++ m)) w' := by
  have bk := emod_bd k 3 (by omega)
  have h0 := h.new2 (.cells #[.int .i64 k, .int .i64 cpu, .int .i64 g, .int .i64 n] 32)
  go_enter Try.func13, Try.ntmps13
  go_wp2_with (first | (go_at_call 19; refine (bring_spec k 3 (by omega) (by omega) xk _).mono ?_; rintro e w1 ⟨rfl, rfl⟩) | fail)
  · go_region_held3 (fun w' => w'.cell? ⟨w.heap.size, 1, none⟩ = some (.int .i64 cpu) ∧ w'.cell? ⟨w.heap.size, 2, none⟩ = some (.int .i64 g) ∧ w'.cell? ⟨w.heap.size, 3, none⟩ = some (.int .i64 n)) (first | (refine ⟨?_, ?_, ?_⟩ <;> assumption) | go_keep)
      (first | (go_at_call 20; refine (take_spec (h0.drew) ok cpu g n).mono ?_; rintro e w1 ⟨rfl, h1⟩; have q1 := h1.dropL.dropL.cell List.mem_cons_self 1; have q2 := h1.dropL.dropL.cell List.mem_cons_self 2; have q3 := h1.dropL.dropL.cell List.mem_cons_self 3; simp at q1 q2 q3) |
        (go_at_call 34; refine (ref.take_spec h1.swap ok cpu g n).mono ?_; rintro e w2 ⟨rfl, h2⟩; have q1 := h2.dropL.dropL.cell List.mem_cons_self 1; have q2 := h2.dropL.dropL.cell List.mem_cons_self 2; have q3 := h2.dropL.dropL.cell List.mem_cons_self 3; simp at q1 q2 q3))
    go_wp2
    go_ret
    exact ⟨rfl, _, ok.take _ _ _, h2.swap.drop2⟩
  · refine (put_spec h0 ok cpu g n).mono ?_
    rintro e w1 ⟨rfl, h1⟩
    have q1 := h1.dropL.dropL.cell List.mem_cons_self 1; have q2 := h1.dropL.dropL.cell List.mem_cons_self 2; have q3 := h1.dropL.dropL.cell List.mem_cons_self 3; simp at q1 q2 q3
    go_wp2_with fail
    refine (ref.put_spec h1.swap ok cpu g n).mono ?_
    rintro e w2 ⟨rfl, h2⟩
    go_wp2_with fail
    go_ret
    exact ⟨rfl, _, ok.put _ _ _, h2.swap.drop2⟩
  · refine (drain_spec h0 ok cpu).mono ?_
    rintro e w1 ⟨rfl, h1⟩
    have q1 := h1.dropL.dropL.cell List.mem_cons_self 1; simp at q1
    go_wp2_with fail
    refine (ref.drain_spec h1.swap ok cpu).mono ?_
    rintro e w2 ⟨rfl, h2⟩
    go_wp2_with fail
    go_ret
    exact ⟨rfl, _, ok.drain _, h2.swap.drop2⟩

end Go.Proofs.Ytpmnababdjdniaa.stockPlays
