import Derived.RangeFuncNested
import Derived.RangeFuncBound
import Derived.RangeFuncCalls
import Derived.RangeFuncLeaves
import Derived.RangeFuncWrites
import Derived.Shelf.Abstract
import Derived.Shelf.RegionOpen
import Derived.WalkKit
import Derived.OwnWalkIn
import Derived.TacticsInMore
import Derived.LoopNIn
import Derived.LoopIn
import Derived.Test.YthjjpmoifgcepaaGreatJhTreeA
import Derived.Test.YthjjpmoifgcepaaGreatJh1
/-
  Contract: tree.Path, for a tree of the root alone.
-/
namespace Go.Proofs.YthjjpmoifgcepaaGreat.Jt
open Go.RowKit Go.Shelf
attribute [local go_sem] Oper.semAt_some
/-- the blocks of the iterator: its place, its tree -/
abbrev itB (Bg Bt T G : Nat) (ct cg : Array Value) (g : Int) : List (Nat × Obj) := [(Bg, .cells #[.int .i64 g] 3), (Bt, .cells #[.pointer (some ⟨T, 0, none⟩)] 87), (T, .cells ct 157), (G, .cells cg 154)]
theorem itB_at {Bg Bt T G c : Nat} {ct cg : Array Value} (hct : ct[0]? = some (.slice (some ⟨G, 0, none⟩) 1 c)) (hcg : cg[0]? = some (.int .i64 0)) {g : Int} {W w : World} {m : List (Nat × Obj)} (h : Own W (itB Bg Bt T G ct cg g ++ m) w) : w.cell? ⟨Bg, 0, none⟩ = some (.int .i64 g) ∧ w.cell? ⟨Bt, 0, none⟩ = some (.pointer (some ⟨T, 0, none⟩)) ∧ w.cell? ⟨T, 0, none⟩ = some (.slice (some ⟨G, 0, none⟩) 1 c) ∧ w.cell? ⟨G, 0, none⟩ = some (.int .i64 0) ∧ w.frozen? ⟨Bg, 0, none⟩ = false ∧ T < w.heap.size :=
  ⟨h.cell List.mem_cons_self 0, h.cell (List.mem_cons_of_mem _ List.mem_cons_self) 0, (h.cell (List.mem_cons_of_mem _ (List.mem_cons_of_mem _ List.mem_cons_self)) 0).trans hct, (h.cell (List.mem_cons_of_mem _ (List.mem_cons_of_mem _ (List.mem_cons_of_mem _ List.mem_cons_self))) 0).trans hcg, h.frozen List.mem_cons_self 0, h.lt (List.mem_cons_of_mem _ (List.mem_cons_of_mem _ List.mem_cons_self))⟩
set_option maxRecDepth 100000 in
set_option maxHeartbeats 2000000 in
theorem up1_root (n : Nat) (hn : 2 ≤ n) (l Bg Bt T G c : Nat) (hc : 1 ≤ c) {ct cg : Array Value} (hct : ct[0]? = some (.slice (some ⟨G, 0, none⟩) 1 c)) (hcg : cg[0]? = some (.int .i64 0)) {W w : World} {m : List (Nat × Obj)} (Pm : List (Nat × Obj) → Prop) (h : Own W (itB Bg Bt T G ct cg 1 ++ m) w)
    (hY : ∀ w1, Own w [] w1 → YieldAt Fence.wide (n - 1) Tryz.prog l #[.int .i64 1] w1 fun e w' => e = .returned (.bool true) ∧ ∃ m', Pm m' ∧ Own W (itB Bg Bt T G ct cg 1 ++ m') w') :
    CallsIn Fence.wide n Tryz.prog 125 #[.func (.yield l) #[] #[], .pointer (some ⟨Bt, 0, none⟩), .pointer (some ⟨Bg, 0, none⟩)] w fun e w' => (∃ v, e = .returned v) ∧ ∃ m', Pm m' ∧ Own W (itB Bg Bt T G ct cg 0 ++ m') w' := by
  refine callsIn_of_wp Tryz.func125 rfl trivial ?_ rfl
  simp only [Tryz.ntmps125, List.size_toArray, List.length_cons, List.length_nil, Nat.reduceAdd, Nat.reduceSub, Array.replicate_succ, Array.replicate_zero, List.push_toArray, List.append_toArray, List.nil_append, List.cons_append]
  have hf : Fence.wide.fn 126 := trivial
  have hn1 : 1 ≤ n := by omega
  obtain ⟨g0, t0, T0, -, -, Tl⟩ := itB_at hct hcg h
  gi_wp2_with (gi_at_call 126; refine (callsIn_wide.2 (of_one (Own.self w) Tl T0 hc)).mono ?_; rintro e w1 ⟨rfl, h1⟩)
  gi_loopw [4] (fun p wr => (p = .pointer (some ⟨G, 0, none⟩) ∧ Own w [] wr) ∨ (p = .pointer none ∧ ∃ m', Pm m' ∧ Own W (itB Bg Bt T G ct cg 0 ++ m') wr)) (fun p _ => match p with | .pointer none => 0 | _ => 1)
  case atStart => exact .inl ⟨rfl, h1⟩
  case round =>
    rcases hrel with ⟨rfl, hr⟩ | ⟨rfl, hr⟩
    · obtain ⟨fn, tmps, assign, body, hy, hR⟩ := hY wr hr
      clear g0 t0 T0 Tl
      obtain ⟨g0, -⟩ := itB_at hct hcg (h.of_self hr)
      gi_wp2
      refine hR.mono ?_
      rintro e W3 ⟨rfl, m', hPm, h3⟩
      obtain ⟨g3, -, -, q3, f3, -⟩ := itB_at hct hcg h3
      have h4 : Own W (itB Bg Bt T G ct cg 0 ++ m') (W3.setCell ⟨Bg, 0, none⟩ (.int .i64 0)) := h3.set 0 (.int .i64 0)
      obtain ⟨g4, t4, T4, -, -, l4⟩ := itB_at hct hcg h4
      gi_wp2_with (gi_at_call 126; refine (callsIn_wide.2 (of_zero h4 l4 T4 hc)).mono ?_; rintro e w5 ⟨rfl, h5⟩)
      go_roundw
      case rel => exact .inr ⟨rfl, m', hPm, h5⟩
      case measure => exact Nat.zero_lt_one
    · gi_wp2
      refine ⟨fun _ h => (by cases h), ?_⟩
      gi_wp2
      go_end0
      exact ⟨⟨_, rfl⟩, hr⟩
end Go.Proofs.YthjjpmoifgcepaaGreat.Jt
