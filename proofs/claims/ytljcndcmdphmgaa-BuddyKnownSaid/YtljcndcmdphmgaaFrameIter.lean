/-
  frame.blocks$1: the iterator's contract, at the wide fence.
-/
import Derived.RangeFuncNested
import Derived.RangeFuncBound
import Derived.RangeFuncCalls
import Derived.RangeFuncLeaves
import Derived.RangeFuncWrites
import Derived.Shelf.Abstract
import Derived.Shelf.RegionOpen
import Derived.WalkKit
import Derived.OwnWalkIn
import Derived.TacticsInMore
import Derived.LoopNIn
import Derived.LoopIn
import Derived.Test.YtljcndcmdphmgaaFrame
import Derived.Test.YtljcndcmdphmgaaBits
namespace Go.Proofs.Ytljcndcmdphmgaa
open Go.RowKit Go.Shelf
attribute [local go_sem] Oper.semAt_some
theorem grown_of {w w' : World} (h : Own w [] w') : w.grownBy w' none := by
  have hb := h.below
  exact ⟨hb.os, hb.tape, hb.output, hb.size, fun k hk _ => hb.block k hk⟩
/-- two blocks lie as they lay -/
def Kept2 (a b : Nat) (W W' : World) : Prop := W.heap.size ≤ W'.heap.size ∧ W'.heap[a]? = W.heap[a]? ∧ W'.heap[b]? = W.heap[b]?
theorem Kept2.refl (a b : Nat) (W : World) : Kept2 a b W W := ⟨Nat.le_refl _, rfl, rfl⟩
theorem Kept2.trans {a b : Nat} {A B C : World} (h : Kept2 a b A B) (k : Kept2 a b B C) : Kept2 a b A C := ⟨Nat.le_trans h.1 k.1, k.2.1.trans h.2.1, k.2.2.trans h.2.2⟩
theorem Kept2.below {a b : Nat} {W W' : World} (h : Below W.heap.size W W') (ha : a < W.heap.size) (hb : b < W.heap.size) : Kept2 a b W W' := ⟨h.size, h.block a ha, h.block b hb⟩
theorem Kept2.pg {a b o : Nat} {W W' : World} {L : List Pg} (h : Kept2 a b W W') (hA : PgAt W b o L) : PgAt W' b o L := by
  refine ⟨Nat.lt_of_lt_of_le hA.1 h.1, fun j p hp => ?_⟩
  obtain ⟨h1, h2, h3⟩ := hA.2 j p hp
  exact ⟨(World.cell?_of_block (a := ⟨b, _, none⟩) h.2.2).trans h1, (World.cell?_of_block (a := ⟨b, _, none⟩) h.2.2).trans h2, (World.cell?_of_block (a := ⟨b, _, none⟩) h.2.2).trans h3⟩
theorem Kept2.cell {a b i : Nat} {W W' : World} {v : Value} (h : Kept2 a b W W') (hc : W.cell? ⟨a, i, none⟩ = some v) : W'.cell? ⟨a, i, none⟩ = some v :=
  (World.cell?_of_block (a := ⟨a, i, none⟩) h.2.1).trans hc
theorem cell_lt {W : World} {a : Addr} {v : Value} (h : W.cell? a = some v) : a.block < W.heap.size := by
  by_cases hl : a.block < W.heap.size
  · exact hl
  · have : W.heap[a.block]? = none := Array.getElem?_eq_none (by omega)
    simp [World.cell?, this] at h
/-- what the iterator hands on: a place, and the page there -/
abbrev pgEnc (x : Int × Pg) : Array Value := #[.int .i64 x.1, .agg #[.int .i64 x.2.1, .int .i64 x.2.2.1, .int .i64 x.2.2.2]]
set_option maxRecDepth 100000 in
set_option maxHeartbeats 2000000 in
theorem blocks1_in (n : Nat) (hn : 3 ≤ n) (l Bn : Nat) (g o c : Nat) (L : List Pg) (hL : L.length ≤ 60000) (hLc : L.length ≤ c) (hcm : c ≤ 9223372036854775807) (J Jx : List (Int × Pg) → World → Prop)
    (W : World) (hJ : AbidesFrom W.heap.size J) (hJx : AbidesFrom W.heap.size Jx)
    (hY : ∀ pre x W1, J pre W1 → pre.length < L.length + 1 → x ∈ pgFrom L 0 → YieldAt Fence.wide (n - 1) Try.prog l (pgEnc x) W1 fun e W' =>
      (e = .returned (.bool true) ∧ J (pre ++ [x]) W' ∧ Kept2 Bn g W1 W') ∨ (e = .returned (.bool false) ∧ Jx (pre ++ [x]) W'))
    (hc : W.cell? ⟨Bn, 0, none⟩ = some (.slice (some ⟨g, o, none⟩) L.length c)) (hA : PgAt W g o L) (h0 : J [] W) :
    CallsIn Fence.wide n Try.prog 85 #[.func (.yield l) #[] #[], .pointer (some ⟨Bn, 0, none⟩)] W fun e W' => (∃ v, e = .returned v) ∧
      ((∃ ys, ys = pgFrom L 0 ∧ J ys W') ∨ (∃ pre, pre <+: pgFrom L 0 ∧ Jx pre W')) := by
  refine callsIn_of_wp Try.func85 rfl trivial ?_ rfl
  simp only [Try.ntmps85, List.size_toArray, List.length_cons, List.length_nil, Nat.reduceAdd, Nat.reduceSub, Array.replicate_succ, Array.replicate_zero, List.push_toArray, List.append_toArray, List.nil_append, List.cons_append]
  gi_wp2
  gi_loopw [3] (fun p wr => ∃ (i : Nat) (pre : List (Int × Pg)), i ≤ L.length ∧ p = .int .i64 i ∧ pgFrom L 0 = pre ++ pgFrom L i ∧ pre.length ≤ i ∧ J pre wr ∧ PgAt wr g o L ∧ wr.cell? ⟨Bn, 0, none⟩ = some (.slice (some ⟨g, o, none⟩) L.length c)) (fun p wr => L.length - (intOf p).toNat)
  case atStart => exact ⟨0, [], by omega, rfl, rfl, by simp, h0, hA, hc⟩
  case round =>
    obtain ⟨i, pre, hi, rfl, hx, hlen, hJs, hA, hc⟩ := hrel
    by_cases hlt : i < L.length
    · obtain ⟨p, hp⟩ : ∃ p, L[i]? = some p := ⟨_, List.getElem?_eq_getElem hlt⟩
      obtain ⟨q0, q1, q2⟩ := hA.2 i p hp
      obtain ⟨p0, p1, p2⟩ := p
      have hgl := hA.1
      have hBn := cell_lt hc
      simp only at q0 q1 q2 hBn
      obtain ⟨s, hs⟩ : ∃ s : Nat, bits .and .i64 p1 15 = s := ⟨(p1 % 16).toNat, by rw [and_15_i64]; omega⟩
      have hs15 : s < 16 := by have := and_15_i64 p1; omega
      have hpw : (2 : Nat) ^ s ≤ 2 ^ 15 := Nat.pow_le_pow_right (by omega) (by omega)
      have hmin : min s 64 = s := by omega
      obtain ⟨N, hN⟩ : ∃ N : Nat, 2 ^ s = N := ⟨_, rfl⟩
      have hNi : (2 : Int) ^ s = (N : Int) := by rw [← hN]; simp
      have hN1 : 1 ≤ N := by rw [← hN]; exact Nat.one_le_two_pow
      have hN2 : N ≤ 32768 := by omega
      have hs0 : (0 : Int) ≤ s := by omega
      have hand : bits .and .i64 (i : Int) ((N : Int) - 1) = ((i % N : Nat) : Int) := by
        have := and_mask_i64 i s (by omega)
        rw [hNi] at this
        rw [this]; simp
      have hf48 : Fence.wide.fn 48 := trivial
      have hfc : Fence.wide.fn 86 := trivial
      have hn1 : 1 ≤ n := by omega
      have hnew := (Own.self wr).new (.cells #[.int .i64 p0, .int .i64 p1, .int .i64 p2] 24)
      cases ho : pgOk L i (p0, p1, p2) with
      | true =>
        have ho' := ho
        unfold pgOk at ho'
        simp only [Bool.and_eq_true, decide_eq_true_eq, List.all_eq_true, beq_iff_eq] at ho'
        obtain ⟨⟨⟨a1, a2⟩, a3⟩, a4⟩ := ho'
        have hp1 : 0 ≤ p1 ∧ p1 ≤ 10 := by have := of_decide_eq_true a1; simp only at this; omega
        have hsz : pgSize (p0, p1, p2) = N := by
          have : p1.toNat = s := by have := and_15_i64 p1; omega
          simp only [pgSize, this, hN]
        rw [hsz] at a2 a3 a4
        have hand0 : bits .and .i64 (i : Int) ((N : Int) - 1) = 0 := by rw [hand, a2]; rfl
        have i1 : (i : Int) + 1 ≤ (i : Int) + N := by omega
        have i2 : (i : Int) + N ≤ c := by omega
        have i3 : (N : Int) ≤ (L.length : Int) - i := by omega
        have hw1 : IntKind.i64.wrap ((i : Int) + 1) = (i : Int) + 1 := by rw [IntWalk.i64_in] <;> omega
        have hw2 : IntKind.i64.wrap ((i : Int) + N) = (i : Int) + N := by rw [IntWalk.i64_in] <;> omega
        have HO := Lib.hid ho
        have A4 := Lib.hid a4
        clear hand ho a4 hN hpw
        gi_wp2_with (gi_at_call 48; refine (callsIn_wide.2 (headed_spec hnew p0 p1 p2)).mono ?_; rintro e w1 ⟨rfl, h1⟩; rw [a1]; have kk : Kept2 Bn g wr w1 := Kept2.below h1.below hBn hgl; have hc1 := kk.cell hc; have e0 := h1.cell List.mem_cons_self 0; have e1 := h1.cell List.mem_cons_self 1; have e2 := h1.cell List.mem_cons_self 2; simp at e0 e1 e2)
        all_goals refine (callsIn_wide.2 (containsFunc_at (l := (L.drop (i + 1)).take (N - 1)) (by first | exact (kk.pg hA).part (i + 1) (N - 1) | (rw [List.eq_nil_of_length_eq_zero (show ((L.drop (i + 1)).take (N - 1)).length = 0 from by rw [List.length_take, List.length_drop]; omega)]; exact (kk.pg hA).empty)) (by rw [List.length_take, List.length_drop]; omega) (by omega))).mono ?_
        all_goals
          rintro e w2 ⟨rfl, h2⟩
          have hall : ((L.drop (i + 1)).take (N - 1)).all (· == pgIn) = true := by rw [List.all_eq_true]; intro x hx; simpa using A4.out x hx
          rw [hall]
          have hJ2 : J pre w2 := hJ pre wr w2 none hJs (grown_of ((h1.of_self h2).sub (List.nil_sublist _))) (fun r e => by cases e)
          have f0 := (h1.of_self h2).cell List.mem_cons_self 0
          have f1 := (h1.of_self h2).cell List.mem_cons_self 1
          have f2 := (h1.of_self h2).cell List.mem_cons_self 2
          simp at f0 f1 f2
          have hpre : pgFrom L 0 = (pre ++ [((i : Int), (p0, p1, p2))]) ++ pgFrom L (i + N) := by rw [hx, pgFrom_ok hp HO.out, hsz]; simp
          have HPRE := Lib.hid hpre
          obtain ⟨fn, tmps, assign, body, hy, hR⟩ := hY pre ((i : Int), (p0, p1, p2)) w2 hJ2 (by omega) (by rw [HPRE.out]; simp)
          dsimp only [pgEnc] at hy
          have kk2 : Kept2 Bn g w1 w2 := Kept2.below h2.below (cell_lt hc1) (kk.pg hA).1
          have hc2 := kk2.cell hc1
          have hA2 := kk2.pg (kk.pg hA)
          clear hpre hx hc1 e0 e1 e2
          gi_wp2
          refine hR.mono ?_
          rintro e W3 (⟨rfl, hJ3, hk3⟩ | ⟨rfl, hJx3⟩)
          · have hc3 := hk3.cell hc2
            gi_wp2
            go_roundw
            case rel => exact ⟨i + N, _, by omega, by go_num, HPRE.out, by simp; omega, hJ3, hk3.pg hA2, hc3⟩
            case measure => simp [intOf]; omega
          · gi_wp2
            refine bodyPost_ret (results_none rfl _ _ _) rfl ?_
            exact ⟨⟨_, rfl⟩, .inr ⟨_, ⟨_, HPRE.out.symm⟩, hJx3⟩⟩
      | false =>
        have hfin : pgFrom L 0 = pre ++ [((-1 : Int), (p0, p1, p2))] := by rw [hx, pgFrom_no hp ho]
        have HFIN := Lib.hid hfin
        have HAND := Lib.hid hand
        have HO := Lib.hid ho
        clear hfin hx hand ho hpw
        cases a1 : pgHead (p0, p1, p2) with
        | false =>
          gi_wp2_with (gi_at_call 48; refine (callsIn_wide.2 (headed_spec hnew p0 p1 p2)).mono ?_; rintro e w1 ⟨rfl, h1⟩; rw [a1]; have kk : Kept2 Bn g wr w1 := Kept2.below h1.below hBn hgl; have hc1 := kk.cell hc; have e0 := h1.cell List.mem_cons_self 0; have e1 := h1.cell List.mem_cons_self 1; have e2 := h1.cell List.mem_cons_self 2; simp at e0 e1 e2; obtain ⟨fn, tmps, assign, body, hy, hR⟩ := hY pre ((-1 : Int), (p0, p1, p2)) w1 (hJ pre wr w1 none hJs (grown_of (h1.sub (List.nil_sublist _))) (fun r e => by cases e)) (by omega) (by rw [HFIN.out]; simp); dsimp only [pgEnc] at hy)
          refine hR.mono ?_
          rintro e W3 (⟨rfl, hJ3, hk3⟩ | ⟨rfl, hJx3⟩)
          · gi_wp2
            refine bodyPost_ret (results_none rfl _ _ _) rfl ?_
            exact ⟨⟨_, rfl⟩, .inl ⟨_, HFIN.out.symm, hJ3⟩⟩
          · gi_wp2
            refine bodyPost_ret (results_none rfl _ _ _) rfl ?_
            exact ⟨⟨_, rfl⟩, .inr ⟨_, ⟨[], by rw [HFIN.out, List.append_nil]⟩, hJx3⟩⟩
        | true =>
          have hp1 : 0 ≤ p1 ∧ p1 ≤ 10 := by have := of_decide_eq_true a1; simp only at this; omega
          have hsz : pgSize (p0, p1, p2) = N := by
            have : p1.toNat = s := by have := and_15_i64 p1; omega
            simp only [pgSize, this, hN]
          by_cases a2 : i % N = 0
          · have hand0 : bits .and .i64 (i : Int) ((N : Int) - 1) = 0 := by rw [HAND.out, a2]; rfl
            by_cases a3 : i + N ≤ L.length
            · have i1 : (i : Int) + 1 ≤ (i : Int) + N := by omega
              have i2 : (i : Int) + N ≤ c := by omega
              have i3 : (N : Int) ≤ (L.length : Int) - i := by omega
              have hw1 : IntKind.i64.wrap ((i : Int) + 1) = (i : Int) + 1 := by rw [IntWalk.i64_in] <;> omega
              have hw2 : IntKind.i64.wrap ((i : Int) + N) = (i : Int) + N := by rw [IntWalk.i64_in] <;> omega
              have hall : ((L.drop (i + 1)).take (N - 1)).all (· == pgIn) = false := by
                have := HO.out
                unfold pgOk at this
                rw [a1, hsz, decide_eq_true a2, decide_eq_true a3] at this
                simpa using this
              have HALL := Lib.hid hall
              clear hall hN a2
              gi_wp2_with (gi_at_call 48; refine (callsIn_wide.2 (headed_spec hnew p0 p1 p2)).mono ?_; rintro e w1 ⟨rfl, h1⟩; rw [a1]; have kk : Kept2 Bn g wr w1 := Kept2.below h1.below hBn hgl; have hc1 := kk.cell hc; have e0 := h1.cell List.mem_cons_self 0; have e1 := h1.cell List.mem_cons_self 1; have e2 := h1.cell List.mem_cons_self 2; simp at e0 e1 e2)
              all_goals refine (callsIn_wide.2 (containsFunc_at (l := (L.drop (i + 1)).take (N - 1)) (by first | exact (kk.pg hA).part (i + 1) (N - 1) | (rw [List.eq_nil_of_length_eq_zero (show ((L.drop (i + 1)).take (N - 1)).length = 0 from by rw [List.length_take, List.length_drop]; omega)]; exact (kk.pg hA).empty)) (by rw [List.length_take, List.length_drop]; omega) (by omega))).mono ?_
              all_goals
                rintro e w2 ⟨rfl, h2⟩
                rw [HALL.out]
                have hJ2 : J pre w2 := hJ pre wr w2 none hJs (grown_of ((h1.of_self h2).sub (List.nil_sublist _))) (fun r e => by cases e)
                have f0 := (h1.of_self h2).cell List.mem_cons_self 0
                have f1 := (h1.of_self h2).cell List.mem_cons_self 1
                have f2 := (h1.of_self h2).cell List.mem_cons_self 2
                simp at f0 f1 f2
                obtain ⟨fn, tmps, assign, body, hy, hR⟩ := hY pre ((-1 : Int), (p0, p1, p2)) w2 hJ2 (by omega) (by rw [HFIN.out]; simp)
                dsimp only [pgEnc] at hy
                clear hc1 e0 e1 e2
                gi_wp2
                refine hR.mono ?_
                rintro e W3 (⟨rfl, hJ3, hk3⟩ | ⟨rfl, hJx3⟩)
                · gi_wp2
                  refine bodyPost_ret (results_none rfl _ _ _) rfl ?_
                  exact ⟨⟨_, rfl⟩, .inl ⟨_, HFIN.out.symm, hJ3⟩⟩
                · gi_wp2
                  refine bodyPost_ret (results_none rfl _ _ _) rfl ?_
                  exact ⟨⟨_, rfl⟩, .inr ⟨_, ⟨[], by rw [HFIN.out, List.append_nil]⟩, hJx3⟩⟩
            · have i3 : ¬ ((N : Int) ≤ (L.length : Int) - i) := by omega
              gi_wp2_with (gi_at_call 48; refine (callsIn_wide.2 (headed_spec hnew p0 p1 p2)).mono ?_; rintro e w1 ⟨rfl, h1⟩; rw [a1]; have kk : Kept2 Bn g wr w1 := Kept2.below h1.below hBn hgl; have hc1 := kk.cell hc; have e0 := h1.cell List.mem_cons_self 0; have e1 := h1.cell List.mem_cons_self 1; have e2 := h1.cell List.mem_cons_self 2; simp at e0 e1 e2; obtain ⟨fn, tmps, assign, body, hy, hR⟩ := hY pre ((-1 : Int), (p0, p1, p2)) w1 (hJ pre wr w1 none hJs (grown_of (h1.sub (List.nil_sublist _))) (fun r e => by cases e)) (by omega) (by rw [HFIN.out]; simp); dsimp only [pgEnc] at hy)
              refine hR.mono ?_
              rintro e W3 (⟨rfl, hJ3, hk3⟩ | ⟨rfl, hJx3⟩)
              · gi_wp2
                refine bodyPost_ret (results_none rfl _ _ _) rfl ?_
                exact ⟨⟨_, rfl⟩, .inl ⟨_, HFIN.out.symm, hJ3⟩⟩
              · gi_wp2
                refine bodyPost_ret (results_none rfl _ _ _) rfl ?_
                exact ⟨⟨_, rfl⟩, .inr ⟨_, ⟨[], by rw [HFIN.out, List.append_nil]⟩, hJx3⟩⟩
          · have hand0 : ¬ (bits .and .i64 (i : Int) ((N : Int) - 1) = 0) := by rw [HAND.out]; omega
            gi_wp2_with (gi_at_call 48; refine (callsIn_wide.2 (headed_spec hnew p0 p1 p2)).mono ?_; rintro e w1 ⟨rfl, h1⟩; rw [a1]; have kk : Kept2 Bn g wr w1 := Kept2.below h1.below hBn hgl; have hc1 := kk.cell hc; have e0 := h1.cell List.mem_cons_self 0; have e1 := h1.cell List.mem_cons_self 1; have e2 := h1.cell List.mem_cons_self 2; simp at e0 e1 e2; obtain ⟨fn, tmps, assign, body, hy, hR⟩ := hY pre ((-1 : Int), (p0, p1, p2)) w1 (hJ pre wr w1 none hJs (grown_of (h1.sub (List.nil_sublist _))) (fun r e => by cases e)) (by omega) (by rw [HFIN.out]; simp); dsimp only [pgEnc] at hy)
            refine hR.mono ?_
            rintro e W3 (⟨rfl, hJ3, hk3⟩ | ⟨rfl, hJx3⟩)
            · gi_wp2
              refine bodyPost_ret (results_none rfl _ _ _) rfl ?_
              exact ⟨⟨_, rfl⟩, .inl ⟨_, HFIN.out.symm, hJ3⟩⟩
            · gi_wp2
              refine bodyPost_ret (results_none rfl _ _ _) rfl ?_
              exact ⟨⟨_, rfl⟩, .inr ⟨_, ⟨[], by rw [HFIN.out, List.append_nil]⟩, hJx3⟩⟩
    · have hil : i = L.length := by omega
      subst hil
      rw [pgFrom_end (Nat.le_refl _), List.append_nil] at hx
      gi_wp2
      go_end0
      exact ⟨⟨_, rfl⟩, .inl ⟨pre, hx.symm, hJs⟩⟩
end Go.Proofs.Ytljcndcmdphmgaa
