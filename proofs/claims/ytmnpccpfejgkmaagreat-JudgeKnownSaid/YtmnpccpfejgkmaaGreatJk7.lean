/-
  Texts of this claim, joined. No condition.
-/
import Derived.Test.YtmnpccpfejgkmaaGreatJk5
import Derived.RangeFuncNested
import Derived.RangeFuncBound
import Derived.RangeFuncCalls
import Derived.RangeFuncLeaves
import Derived.RangeFuncWrites
import Derived.Shelf.Abstract
import Derived.Shelf.RegionOpen
import Derived.WalkKit
import Derived.OwnWalkIn
import Derived.TacticsInMore
import Derived.LoopNIn
import Derived.LoopIn
import Derived.Test.YtmnpccpfejgkmaaGreatJk6
import Derived.RangeFuncFrom
import Derived.RangeFuncBox
import Derived.Deep.QuietTactic
import Derived.BigQuiet
import Derived.Deep.Slices
/-
  x & (2^s - 1) is x mod 2^s; a shift of one.
-/
namespace Go.Proofs.YtmnpccpfejgkmaaGreat
open Go.RowKit
theorem and_mask_i64 (x : Int) (s : Nat) (hs : s ≤ 40) : bits .and .i64 x ((2 : Int) ^ s - 1) = x % 2 ^ s := by
  have hp : (2 : Nat) ^ s ≤ 2 ^ 40 := Nat.pow_le_pow_right (by omega) hs
  have hp1 : 1 ≤ (2 : Nat) ^ s := Nat.one_le_two_pow
  have e1 : ((2 : Int) ^ s - 1) = ((2 ^ s - 1 : Nat) : Int) := by
    rw [Int.natCast_sub hp1]; simp
  have h2 : (BitVec.ofInt 64 ((2 ^ s - 1 : Nat) : Int)).toNat = 2 ^ s - 1 := by
    rw [BitVec.ofInt_natCast, BitVec.toNat_ofNat]; exact Nat.mod_eq_of_lt (by omega)
  have h1 : (BitVec.ofInt 64 x).toNat = (x % 18446744073709551616).toNat := by
    rw [BitVec.toNat_ofInt]; rfl
  rw [e1]
  show IntKind.i64.wrap ((BitVec.ofInt 64 x &&& BitVec.ofInt 64 ((2 ^ s - 1 : Nat) : Int)).toNat : Int) = _
  rw [BitVec.toNat_and, h2, h1, Nat.and_two_pow_sub_one_eq_mod]
  have hlt : (x % 18446744073709551616).toNat % 2 ^ s < 2 ^ s := Nat.mod_lt _ (by omega)
  have hw : IntKind.i64.wrap (((x % 18446744073709551616).toNat % 2 ^ s : Nat) : Int) = (((x % 18446744073709551616).toNat % 2 ^ s : Nat) : Int) := by rw [IntWalk.i64_in] <;> omega
  rw [hw]
  have hpos : 0 ≤ x % 18446744073709551616 := by omega
  rw [Int.natCast_emod, Int.toNat_of_nonneg hpos]
  have hd : ((2 ^ s : Nat) : Int) ∣ 18446744073709551616 := by
    have : (2 : Nat) ^ s ∣ 2 ^ 64 := Nat.pow_dvd_pow 2 (by omega)
    have h := Int.natCast_dvd_natCast.2 this
    exact h
  rw [Int.emod_emod_of_dvd _ hd]
  simp
theorem and_15_i64 (x : Int) : bits .and .i64 x 15 = x % 16 := and_mask_i64 x 4 (by omega)
end Go.Proofs.YtmnpccpfejgkmaaGreat

/-
  frame.blocks$1: the iterator's contract, at the wide fence.
-/
namespace Go.Proofs.YtmnpccpfejgkmaaGreat
open Go.RowKit Go.Shelf
attribute [local go_sem] Oper.semAt_some
theorem grown_of {w w' : World} (h : Own w [] w') : w.grownBy w' none := by
  have hb := h.below
  exact ⟨hb.os, hb.tape, hb.output, hb.size, fun k hk _ => hb.block k hk⟩
/-- two blocks lie as they lay -/
def Kept2 (a b : Nat) (W W' : World) : Prop := W.heap.size ≤ W'.heap.size ∧ W'.heap[a]? = W.heap[a]? ∧ W'.heap[b]? = W.heap[b]?
theorem Kept2.refl (a b : Nat) (W : World) : Kept2 a b W W := ⟨Nat.le_refl _, rfl, rfl⟩
theorem Kept2.trans {a b : Nat} {A B C : World} (h : Kept2 a b A B) (k : Kept2 a b B C) : Kept2 a b A C := ⟨Nat.le_trans h.1 k.1, k.2.1.trans h.2.1, k.2.2.trans h.2.2⟩
theorem Kept2.below {a b : Nat} {W W' : World} (h : Below W.heap.size W W') (ha : a < W.heap.size) (hb : b < W.heap.size) : Kept2 a b W W' := ⟨h.size, h.block a ha, h.block b hb⟩
theorem Kept2.pg {a b o : Nat} {W W' : World} {L : List Pg} (h : Kept2 a b W W') (hA : PgAt W b o L) : PgAt W' b o L := by
  refine ⟨Nat.lt_of_lt_of_le hA.1 h.1, fun j p hp => ?_⟩
  obtain ⟨h1, h2, h3⟩ := hA.2 j p hp
  exact ⟨(World.cell?_of_block (a := ⟨b, _, none⟩) h.2.2).trans h1, (World.cell?_of_block (a := ⟨b, _, none⟩) h.2.2).trans h2, (World.cell?_of_block (a := ⟨b, _, none⟩) h.2.2).trans h3⟩
theorem Kept2.cell {a b i : Nat} {W W' : World} {v : Value} (h : Kept2 a b W W') (hc : W.cell? ⟨a, i, none⟩ = some v) : W'.cell? ⟨a, i, none⟩ = some v :=
  (World.cell?_of_block (a := ⟨a, i, none⟩) h.2.1).trans hc
theorem cell_lt {W : World} {a : Addr} {v : Value} (h : W.cell? a = some v) : a.block < W.heap.size := by
  by_cases hl : a.block < W.heap.size
  · exact hl
  · have : W.heap[a.block]? = none := Array.getElem?_eq_none (by omega)
    simp [World.cell?, this] at h
/-- what the iterator hands on: a place, and the page there -/
abbrev pgEnc (x : Int × Pg) : Array Value := #[.int .i64 x.1, .agg #[.int .i64 x.2.1, .int .i64 x.2.2.1, .int .i64 x.2.2.2]]
set_option maxRecDepth 100000 in
set_option maxHeartbeats 2000000 in
theorem blocks1_in (n : Nat) (hn : 3 ≤ n) (l Bn : Nat) (g o c : Nat) (L : List Pg) (hL : L.length ≤ 60000) (hLc : L.length ≤ c) (hcm : c ≤ 9223372036854775807) (J Jx : List (Int × Pg) → World → Prop)
    (W : World) (hJ : AbidesFrom W.heap.size J) (_hJx : AbidesFrom W.heap.size Jx)
    (hY : ∀ pre x W1, J pre W1 → pre.length < L.length + 1 → x ∈ pgFrom L 0 → YieldAt Fence.wide (n - 1) Tryz.prog l (pgEnc x) W1 fun e W' =>
      (e = .returned (.bool true) ∧ J (pre ++ [x]) W' ∧ Kept2 Bn g W1 W') ∨ (e = .returned (.bool false) ∧ Jx (pre ++ [x]) W'))
    (hc : W.cell? ⟨Bn, 0, none⟩ = some (.slice (some ⟨g, o, none⟩) L.length c)) (hA : PgAt W g o L) (h0 : J [] W) :
    CallsIn Fence.wide n Tryz.prog 171 #[.func (.yield l) #[] #[], .pointer (some ⟨Bn, 0, none⟩)] W fun e W' => (∃ v, e = .returned v) ∧
      ((∃ ys, ys = pgFrom L 0 ∧ J ys W') ∨ (∃ pre, pre <+: pgFrom L 0 ∧ Jx pre W')) := by
  refine callsIn_of_wp Tryz.func171 rfl trivial ?_ rfl
  simp only [Tryz.ntmps171, List.size_toArray, List.length_cons, List.length_nil, Nat.reduceAdd, Nat.reduceSub, Array.replicate_succ, Array.replicate_zero, List.push_toArray, List.append_toArray, List.nil_append, List.cons_append]
  gi_wp2
  gi_loopw [3] (fun p wr => ∃ (i : Nat) (pre : List (Int × Pg)), i ≤ L.length ∧ p = .int .i64 i ∧ pgFrom L 0 = pre ++ pgFrom L i ∧ pre.length ≤ i ∧ J pre wr ∧ PgAt wr g o L ∧ wr.cell? ⟨Bn, 0, none⟩ = some (.slice (some ⟨g, o, none⟩) L.length c)) (fun p wr => L.length - (intOf p).toNat)
  case atStart => exact ⟨0, [], by omega, rfl, rfl, by simp, h0, hA, hc⟩
  case round =>
    obtain ⟨i, pre, hi, rfl, hx, hlen, hJs, hA, hc⟩ := hrel
    by_cases hlt : i < L.length
    · obtain ⟨p, hp⟩ : ∃ p, L[i]? = some p := ⟨_, List.getElem?_eq_getElem hlt⟩
      obtain ⟨q0, q1, q2⟩ := hA.2 i p hp
      obtain ⟨p0, p1, p2⟩ := p
      have hgl := hA.1
      have hBn := cell_lt hc
      simp only at q0 q1 q2 hBn
      obtain ⟨s, hs⟩ : ∃ s : Nat, bits .and .i64 p1 15 = s := ⟨(p1 % 16).toNat, by rw [and_15_i64]; omega⟩
      have hs15 : s < 16 := by have := and_15_i64 p1; omega
      have hpw : (2 : Nat) ^ s ≤ 2 ^ 15 := Nat.pow_le_pow_right (by omega) (by omega)
      have hmin : min s 64 = s := by omega
      obtain ⟨N, hN⟩ : ∃ N : Nat, 2 ^ s = N := ⟨_, rfl⟩
      have hNi : (2 : Int) ^ s = (N : Int) := by rw [← hN]; simp
      have hN1 : 1 ≤ N := by rw [← hN]; exact Nat.one_le_two_pow
      have hN2 : N ≤ 32768 := by omega
      have hs0 : (0 : Int) ≤ s := by omega
      have hand : bits .and .i64 (i : Int) ((N : Int) - 1) = ((i % N : Nat) : Int) := by
        have := and_mask_i64 i s (by omega)
        rw [hNi] at this
        rw [this]; simp
      have hf48 : Fence.wide.fn 172 := trivial
      have hfc : Fence.wide.fn 173 := trivial
      have hn1 : 1 ≤ n := by omega
      have hnew := (Own.self wr).new (.cells #[.int .i64 p0, .int .i64 p1, .int .i64 p2] 174)
      cases ho : pgOk L i (p0, p1, p2) with
      | true =>
        have ho' := ho
        unfold pgOk at ho'
        simp only [Bool.and_eq_true, decide_eq_true_eq, List.all_eq_true, beq_iff_eq] at ho'
        obtain ⟨⟨⟨a1, a2⟩, a3⟩, a4⟩ := ho'
        have hp1 : 0 ≤ p1 ∧ p1 ≤ 10 := by have := of_decide_eq_true a1; simp only at this; omega
        have hsz : pgSize (p0, p1, p2) = N := by
          have : p1.toNat = s := by have := and_15_i64 p1; omega
          simp only [pgSize, this, hN]
        rw [hsz] at a2 a3 a4
        have hand0 : bits .and .i64 (i : Int) ((N : Int) - 1) = 0 := by rw [hand, a2]; rfl
        have i1 : (i : Int) + 1 ≤ (i : Int) + N := by omega
        have i2 : (i : Int) + N ≤ c := by omega
        have i3 : (N : Int) ≤ (L.length : Int) - i := by omega
        have hw1 : IntKind.i64.wrap ((i : Int) + 1) = (i : Int) + 1 := by rw [IntWalk.i64_in] <;> omega
        have hw2 : IntKind.i64.wrap ((i : Int) + N) = (i : Int) + N := by rw [IntWalk.i64_in] <;> omega
        have HO := Lib.hid ho
        have A4 := Lib.hid a4
        clear hand ho a4 hN hpw
        gi_wp2_with (gi_at_call 172; refine (callsIn_wide.2 (headed_spec hnew p0 p1 p2)).mono ?_; rintro e w1 ⟨rfl, h1⟩; rw [a1]; have kk : Kept2 Bn g wr w1 := Kept2.below h1.below hBn hgl; have hc1 := kk.cell hc; have e0 := h1.cell List.mem_cons_self 0; have e1 := h1.cell List.mem_cons_self 1; have e2 := h1.cell List.mem_cons_self 2; simp at e0 e1 e2)
        all_goals refine (callsIn_wide.2 (containsFunc_at (l := (L.drop (i + 1)).take (N - 1)) (by first | exact (kk.pg hA).part (i + 1) (N - 1) | (rw [List.eq_nil_of_length_eq_zero (show ((L.drop (i + 1)).take (N - 1)).length = 0 from by rw [List.length_take, List.length_drop]; omega)]; exact (kk.pg hA).empty)) (by rw [List.length_take, List.length_drop]; omega) (by omega))).mono ?_
        all_goals
          rintro e w2 ⟨rfl, h2⟩
          have hall : ((L.drop (i + 1)).take (N - 1)).all (· == pgIn) = true := by rw [List.all_eq_true]; intro x hx; simpa using A4.out x hx
          rw [hall]
          have hJ2 : J pre w2 := hJ pre wr w2 none hJs (grown_of ((h1.of_self h2).sub (List.nil_sublist _))) (fun r e => by cases e)
          have f0 := (h1.of_self h2).cell List.mem_cons_self 0
          have f1 := (h1.of_self h2).cell List.mem_cons_self 1
          have f2 := (h1.of_self h2).cell List.mem_cons_self 2
          simp at f0 f1 f2
          have hpre : pgFrom L 0 = (pre ++ [((i : Int), (p0, p1, p2))]) ++ pgFrom L (i + N) := by rw [hx, pgFrom_ok hp HO.out, hsz]; simp
          have HPRE := Lib.hid hpre
          obtain ⟨fn, tmps, assign, body, hy, hR⟩ := hY pre ((i : Int), (p0, p1, p2)) w2 hJ2 (by omega) (by rw [HPRE.out]; simp)
          dsimp only [pgEnc] at hy
          have kk2 : Kept2 Bn g w1 w2 := Kept2.below h2.below (cell_lt hc1) (kk.pg hA).1
          have hc2 := kk2.cell hc1
          have hA2 := kk2.pg (kk.pg hA)
          clear hpre hx hc1 e0 e1 e2
          gi_wp2
          refine hR.mono ?_
          rintro e W3 (⟨rfl, hJ3, hk3⟩ | ⟨rfl, hJx3⟩)
          · have hc3 := hk3.cell hc2
            gi_wp2
            go_roundw
            case rel => exact ⟨i + N, _, by omega, by go_num, HPRE.out, by simp; omega, hJ3, hk3.pg hA2, hc3⟩
            case measure => simp [intOf]; omega
          · gi_wp2
            refine bodyPost_ret (results_none rfl _ _ _) rfl ?_
            exact ⟨⟨_, rfl⟩, .inr ⟨_, ⟨_, HPRE.out.symm⟩, hJx3⟩⟩
      | false =>
        have hfin : pgFrom L 0 = pre ++ [((-1 : Int), (p0, p1, p2))] := by rw [hx, pgFrom_no hp ho]
        have HFIN := Lib.hid hfin
        have HAND := Lib.hid hand
        have HO := Lib.hid ho
        clear hfin hx hand ho hpw
        cases a1 : pgHead (p0, p1, p2) with
        | false =>
          gi_wp2_with (gi_at_call 172; refine (callsIn_wide.2 (headed_spec hnew p0 p1 p2)).mono ?_; rintro e w1 ⟨rfl, h1⟩; rw [a1]; have kk : Kept2 Bn g wr w1 := Kept2.below h1.below hBn hgl; have hc1 := kk.cell hc; have e0 := h1.cell List.mem_cons_self 0; have e1 := h1.cell List.mem_cons_self 1; have e2 := h1.cell List.mem_cons_self 2; simp at e0 e1 e2; obtain ⟨fn, tmps, assign, body, hy, hR⟩ := hY pre ((-1 : Int), (p0, p1, p2)) w1 (hJ pre wr w1 none hJs (grown_of (h1.sub (List.nil_sublist _))) (fun r e => by cases e)) (by omega) (by rw [HFIN.out]; simp); dsimp only [pgEnc] at hy)
          refine hR.mono ?_
          rintro e W3 (⟨rfl, hJ3, hk3⟩ | ⟨rfl, hJx3⟩)
          · gi_wp2
            refine bodyPost_ret (results_none rfl _ _ _) rfl ?_
            exact ⟨⟨_, rfl⟩, .inl ⟨_, HFIN.out.symm, hJ3⟩⟩
          · gi_wp2
            refine bodyPost_ret (results_none rfl _ _ _) rfl ?_
            exact ⟨⟨_, rfl⟩, .inr ⟨_, ⟨[], by rw [HFIN.out, List.append_nil]⟩, hJx3⟩⟩
        | true =>
          have hp1 : 0 ≤ p1 ∧ p1 ≤ 10 := by have := of_decide_eq_true a1; simp only at this; omega
          have hsz : pgSize (p0, p1, p2) = N := by
            have : p1.toNat = s := by have := and_15_i64 p1; omega
            simp only [pgSize, this, hN]
          by_cases a2 : i % N = 0
          · have hand0 : bits .and .i64 (i : Int) ((N : Int) - 1) = 0 := by rw [HAND.out, a2]; rfl
            by_cases a3 : i + N ≤ L.length
            · have i1 : (i : Int) + 1 ≤ (i : Int) + N := by omega
              have i2 : (i : Int) + N ≤ c := by omega
              have i3 : (N : Int) ≤ (L.length : Int) - i := by omega
              have hw1 : IntKind.i64.wrap ((i : Int) + 1) = (i : Int) + 1 := by rw [IntWalk.i64_in] <;> omega
              have hw2 : IntKind.i64.wrap ((i : Int) + N) = (i : Int) + N := by rw [IntWalk.i64_in] <;> omega
              have hall : ((L.drop (i + 1)).take (N - 1)).all (· == pgIn) = false := by
                have := HO.out
                unfold pgOk at this
                rw [a1, hsz, decide_eq_true a2, decide_eq_true a3] at this
                simpa using this
              have HALL := Lib.hid hall
              clear hall hN a2
              gi_wp2_with (gi_at_call 172; refine (callsIn_wide.2 (headed_spec hnew p0 p1 p2)).mono ?_; rintro e w1 ⟨rfl, h1⟩; rw [a1]; have kk : Kept2 Bn g wr w1 := Kept2.below h1.below hBn hgl; have hc1 := kk.cell hc; have e0 := h1.cell List.mem_cons_self 0; have e1 := h1.cell List.mem_cons_self 1; have e2 := h1.cell List.mem_cons_self 2; simp at e0 e1 e2)
              all_goals refine (callsIn_wide.2 (containsFunc_at (l := (L.drop (i + 1)).take (N - 1)) (by first | exact (kk.pg hA).part (i + 1) (N - 1) | (rw [List.eq_nil_of_length_eq_zero (show ((L.drop (i + 1)).take (N - 1)).length = 0 from by rw [List.length_take, List.length_drop]; omega)]; exact (kk.pg hA).empty)) (by rw [List.length_take, List.length_drop]; omega) (by omega))).mono ?_
              all_goals
                rintro e w2 ⟨rfl, h2⟩
                rw [HALL.out]
                have hJ2 : J pre w2 := hJ pre wr w2 none hJs (grown_of ((h1.of_self h2).sub (List.nil_sublist _))) (fun r e => by cases e)
                have f0 := (h1.of_self h2).cell List.mem_cons_self 0
                have f1 := (h1.of_self h2).cell List.mem_cons_self 1
                have f2 := (h1.of_self h2).cell List.mem_cons_self 2
                simp at f0 f1 f2
                obtain ⟨fn, tmps, assign, body, hy, hR⟩ := hY pre ((-1 : Int), (p0, p1, p2)) w2 hJ2 (by omega) (by rw [HFIN.out]; simp)
                dsimp only [pgEnc] at hy
                clear hc1 e0 e1 e2
                gi_wp2
                refine hR.mono ?_
                rintro e W3 (⟨rfl, hJ3, hk3⟩ | ⟨rfl, hJx3⟩)
                · gi_wp2
                  refine bodyPost_ret (results_none rfl _ _ _) rfl ?_
                  exact ⟨⟨_, rfl⟩, .inl ⟨_, HFIN.out.symm, hJ3⟩⟩
                · gi_wp2
                  refine bodyPost_ret (results_none rfl _ _ _) rfl ?_
                  exact ⟨⟨_, rfl⟩, .inr ⟨_, ⟨[], by rw [HFIN.out, List.append_nil]⟩, hJx3⟩⟩
            · have i3 : ¬ ((N : Int) ≤ (L.length : Int) - i) := by omega
              gi_wp2_with (gi_at_call 172; refine (callsIn_wide.2 (headed_spec hnew p0 p1 p2)).mono ?_; rintro e w1 ⟨rfl, h1⟩; rw [a1]; have kk : Kept2 Bn g wr w1 := Kept2.below h1.below hBn hgl; have hc1 := kk.cell hc; have e0 := h1.cell List.mem_cons_self 0; have e1 := h1.cell List.mem_cons_self 1; have e2 := h1.cell List.mem_cons_self 2; simp at e0 e1 e2; obtain ⟨fn, tmps, assign, body, hy, hR⟩ := hY pre ((-1 : Int), (p0, p1, p2)) w1 (hJ pre wr w1 none hJs (grown_of (h1.sub (List.nil_sublist _))) (fun r e => by cases e)) (by omega) (by rw [HFIN.out]; simp); dsimp only [pgEnc] at hy)
              refine hR.mono ?_
              rintro e W3 (⟨rfl, hJ3, hk3⟩ | ⟨rfl, hJx3⟩)
              · gi_wp2
                refine bodyPost_ret (results_none rfl _ _ _) rfl ?_
                exact ⟨⟨_, rfl⟩, .inl ⟨_, HFIN.out.symm, hJ3⟩⟩
              · gi_wp2
                refine bodyPost_ret (results_none rfl _ _ _) rfl ?_
                exact ⟨⟨_, rfl⟩, .inr ⟨_, ⟨[], by rw [HFIN.out, List.append_nil]⟩, hJx3⟩⟩
          · have hand0 : ¬ (bits .and .i64 (i : Int) ((N : Int) - 1) = 0) := by rw [HAND.out]; omega
            gi_wp2_with (gi_at_call 172; refine (callsIn_wide.2 (headed_spec hnew p0 p1 p2)).mono ?_; rintro e w1 ⟨rfl, h1⟩; rw [a1]; have kk : Kept2 Bn g wr w1 := Kept2.below h1.below hBn hgl; have hc1 := kk.cell hc; have e0 := h1.cell List.mem_cons_self 0; have e1 := h1.cell List.mem_cons_self 1; have e2 := h1.cell List.mem_cons_self 2; simp at e0 e1 e2; obtain ⟨fn, tmps, assign, body, hy, hR⟩ := hY pre ((-1 : Int), (p0, p1, p2)) w1 (hJ pre wr w1 none hJs (grown_of (h1.sub (List.nil_sublist _))) (fun r e => by cases e)) (by omega) (by rw [HFIN.out]; simp); dsimp only [pgEnc] at hy)
            refine hR.mono ?_
            rintro e W3 (⟨rfl, hJ3, hk3⟩ | ⟨rfl, hJx3⟩)
            · gi_wp2
              refine bodyPost_ret (results_none rfl _ _ _) rfl ?_
              exact ⟨⟨_, rfl⟩, .inl ⟨_, HFIN.out.symm, hJ3⟩⟩
            · gi_wp2
              refine bodyPost_ret (results_none rfl _ _ _) rfl ?_
              exact ⟨⟨_, rfl⟩, .inr ⟨_, ⟨[], by rw [HFIN.out, List.append_nil]⟩, hJx3⟩⟩
    · have hil : i = L.length := by omega
      subst hil
      rw [pgFrom_end (Nat.le_refl _), List.append_nil] at hx
      gi_wp2
      go_end0
      exact ⟨⟨_, rfl⟩, .inl ⟨pre, hx.symm, hJs⟩⟩
end Go.Proofs.YtmnpccpfejgkmaaGreat

/-
  Contract: frame.Check, of any table.
-/
namespace Go.Proofs.YtmnpccpfejgkmaaGreat
open Go.RowKit Go.Shelf
attribute [local go_sem] Oper.semAt_some
/-- what the iterator may hand on -/
abbrev PgX (L : List Pg) := { x : Int × Pg // x ∈ pgFrom L 0 }
theorem kept2_b {a b : Nat} {w : World} (ha : a < w.heap.size) (hb : b < w.heap.size) (W : World) (l : Nat) (o o' : Obj) (hl : w.heap.size ≤ l) (h : W.heap[l]? = some o) (_ : o.isCells = false) (_ : o.isWalk = false) : Kept2 a b W (W.putObj l o') := by
  have h1 := (Array.getElem?_eq_some_iff.1 h).1
  exact ⟨(grownBy_putObj' W l o').size, World.putObj_heap_other (by omega), World.putObj_heap_other (by omega)⟩
theorem blocks_in (n : Nat) (A : Option Addr) (k c : Nat) (w : World) :
    CallsIn Fence.wide n Tryz.prog 164 #[.slice A k c] w fun e w' => e = .returned (.func (.func 171) #[] #[.pointer (some ⟨w.heap.size, 0, none⟩)]) ∧ w' = w.alloc (.cells #[.slice A k c] 169) := by
  refine callsIn_of_wp Tryz.func164 rfl trivial ?_ rfl
  simp only [Tryz.ntmps164, List.size_toArray, List.length_cons, List.length_nil, Nat.reduceAdd, Nat.reduceSub, Array.replicate_succ, Array.replicate_zero, List.push_toArray, List.append_toArray, List.nil_append, List.cons_append]
  gi_wp2
  go_ret
  exact ⟨rfl, rfl⟩
theorem blocks_stops (n : Nat) (hn : 3 ≤ n) (Bn g o c : Nat) (L : List Pg) (hL : L.length ≤ 60000) (hLc : L.length ≤ c) (hcm : c ≤ 9223372036854775807) (w : World)
    (hc : w.cell? ⟨Bn, 0, none⟩ = some (.slice (some ⟨g, o, none⟩) L.length c)) (hA : PgAt w g o L) :
    SeqStopsK Fence.wide n Tryz.prog 171 #[.pointer (some ⟨Bn, 0, none⟩)] (fun x : PgX L => pgEnc x.1) (Kept2 Bn g) (fun ys => ys.map (·.1) = pgFrom L 0) (fun pre => pre.map (·.1) <+: pgFrom L 0) (L.length + 1) w := by
  intro l J Jx W hW aJ aJx hY h0
  have kk : Kept2 Bn g w W := Kept2.below hW (cell_lt hc) hA.1
  refine (blocks1_in n hn l Bn g o c L hL hLc hcm (fun pre W => ∃ ys : List (PgX L), ys.map (·.1) = pre ∧ J ys W) (fun pre W => ∃ ys : List (PgX L), ys.map (·.1) = pre ∧ Jx ys W) W ?_ ?_ ?_ (kk.cell hc) (kk.pg hA) ⟨[], rfl, h0⟩).mono ?_
  · rintro s A B row ⟨ys, hy, hj⟩ hg hr
    exact ⟨ys, hy, aJ ys A B row hj hg hr⟩
  · rintro s A B row ⟨ys, hy, hj⟩ hg hr
    exact ⟨ys, hy, aJx ys A B row hj hg hr⟩
  · rintro pre x W1 ⟨ys, rfl, hj⟩ hlen hx
    refine YieldAt.mono (hY ys ⟨x, hx⟩ W1 hj (by simpa using hlen)) ?_
    rintro e W' (⟨rfl, hj', hk⟩ | ⟨rfl, hj'⟩)
    · exact .inl ⟨rfl, ⟨_, by simp, hj'⟩, hk⟩
    · exact .inr ⟨rfl, ⟨_, by simp, hj'⟩⟩
  · rintro e W' ⟨hv, (⟨_, rfl, ys, hy, hj⟩ | ⟨_, hp, ys, rfl, hj⟩)⟩
    · exact ⟨hv, .inl ⟨ys, hy, hj⟩⟩
    · exact ⟨hv, .inr ⟨ys, hp, hj⟩⟩
theorem blocks_stopsN (n : Nat) (hn : 3 ≤ n) (Bn g o c N : Nat) (L : List Pg) (hN : L.length = N) (hL : N ≤ 60000) (hLc : N ≤ c) (hcm : c ≤ 9223372036854775807) (w : World)
    (hc : w.cell? ⟨Bn, 0, none⟩ = some (.slice (some ⟨g, o, none⟩) N c)) (hA : PgAt w g o L) :
    SeqStopsK Fence.wide n Tryz.prog 171 #[.pointer (some ⟨Bn, 0, none⟩)] (fun x : PgX L => pgEnc x.1) (Kept2 Bn g) (fun ys => ys.map (·.1) = pgFrom L 0) (fun pre => pre.map (·.1) <+: pgFrom L 0) (N + 1) w := by
  subst hN
  exact blocks_stops n hn Bn g o c L hL hLc hcm w hc hA
def AllNN {L : List Pg} (pre : List (PgX L)) : Prop := ∀ y ∈ pre, 0 ≤ y.1.1
def SomeNeg {L : List Pg} (pre : List (PgX L)) : Prop := ∃ y ∈ pre, y.1.1 < 0
def tabOk (L : List Pg) : Bool := (pgFrom L 0).all fun x => decide (0 ≤ x.1)
/-- what Check answers -/
def pgCheck (L : List Pg) : Int := if 1 ≤ L.length ∧ L.length ≤ 1024 ∧ tabOk L = true then 0 else 50
theorem pgCheck_yes {L : List Pg} (h1 : 1 ≤ L.length) (h2 : L.length ≤ 1024) (h : ∀ x ∈ pgFrom L 0, 0 ≤ x.1) : pgCheck L = 0 := by
  unfold pgCheck
  rw [if_pos ⟨h1, h2, by unfold tabOk; rw [List.all_eq_true]; intro x hx; exact decide_eq_true (h x hx)⟩]
theorem pgCheck_no {L : List Pg} {x : Int × Pg} (h : x ∈ pgFrom L 0) (hx : x.1 < 0) : pgCheck L = 50 := by
  unfold pgCheck
  rw [if_neg]
  rintro ⟨_, _, h3⟩
  unfold tabOk at h3
  rw [List.all_eq_true] at h3
  have := of_decide_eq_true (h3 x h)
  omega
set_option maxRecDepth 100000 in
set_option maxHeartbeats 2000000 in
theorem check_loop (g o c N : Nat) (L : List Pg) (hN : Hid (L.length = N)) (hL1 : 1 ≤ N) (hL : N ≤ 1024) (hLc : N ≤ c) (hcm : c ≤ 9223372036854775807) (w : World) (hA : PgAt w g o L) :
    CallsIn Fence.wide 10 Tryz.prog 146 #[.slice (some ⟨g, o, none⟩) N c] w fun e W' => e = .returned (.int .i64 (pgCheck L)) ∧ Below w.heap.size w W' := by
  have hn0 : ((N : Int) == 0) = false := by rw [beq_eq_false_iff_ne]; omega
  have hn2 : decide (1024 < (N : Int)) = false := decide_eq_false (by omega)
  refine callsIn_of_wp_marks Tryz.func146 rfl trivial ?_ rfl
  simp only [Tryz.ntmps146, List.size_toArray, List.length_cons, List.length_nil, Nat.reduceAdd, Nat.reduceSub, Array.replicate_succ, Array.replicate_zero, List.push_toArray, List.append_toArray, List.nil_append, List.cons_append]
  have hw : Fence.wide.fn 164 := trivial
  have hn1 : 1 ≤ 10 := by omega
  gi_wp2_with (gi_at_call 164; refine (blocks_in 9 _ _ _ _).mono ?_; rintro e w' ⟨rfl, rfl⟩)
  have b0 := (Boxed.new w 54 (.int .i64 0)).alloc (.cells #[.slice (some ⟨g, o, none⟩) N c] 169)
  have b1 := Boxed.new (w.alloc (.cells #[.int .i64 0] 54)) 169 (.slice (some ⟨g, o, none⟩) N c)
  simp only [World.size_alloc] at b1
  have hB0 : Below w.heap.size w ((w.alloc (.cells #[.int .i64 0] 54)).alloc (.cells #[.slice (some ⟨g, o, none⟩) N c] 169)) := ((Below.refl _ w).alloc (Nat.le_refl _) _).alloc (by simp) _
  have hgl := hA.1
  have hk0 : Kept2 g g w _ := Kept2.below hB0 hgl hgl
  have hA0 := hk0.pg hA
  have hsz : ((w.alloc (.cells #[.int .i64 0] 54)).alloc (.cells #[.slice (some ⟨g, o, none⟩) N c] 169)).heap.size = w.heap.size + 2 := by simp
  obtain ⟨W0, hW0⟩ : ∃ W0, (w.alloc (.cells #[.int .i64 0] 54)).alloc (.cells #[.slice (some ⟨g, o, none⟩) N c] 169) = W0 := ⟨_, rfl⟩
  rw [hW0] at b0 b1 hB0 hsz hk0 hA0 ⊢
  clear hW0
  refine wpIn_rangeFunc_ownF rfl hn1 (gf := 171) (lb := #[.pointer (some ⟨w.heap.size + 1, 0, none⟩)]) rfl trivial (enters_of Tryz.func171 (by kernel_rfl) rfl)
    (blocks_stopsN 9 (by omega) (w.heap.size + 1) g o c N L hN.out (by omega) hLc hcm W0 b1.cell hA0) (fun h k => h.trans k) (kept2_b (by omega) (by omega)) (Below.refl _ _) (fun _ => rfl)
    (fun pre W => (AllNN pre ∧ Boxed W w.heap.size 54 (.int .i64 0)) ∧ Below w.heap.size w W)
    (fun c pre W => (c = .ret ∧ SomeNeg pre ∧ Boxed W w.heap.size 54 (.int .i64 50)) ∧ Below w.heap.size w W)
    (OwnFrom.and (OwnFrom.and (ownFrom_pure _ _) (Own.from (boxed_own _ _ _) _)) (ownFrom_below (Nat.le_refl _) (by omega)))
    (fun c => OwnFrom.and (OwnFrom.and (ownFrom_pure _ _) (OwnFrom.and (ownFrom_pure _ _) (Own.from (boxed_own _ _ _) _))) (ownFrom_below (Nat.le_refl _) (by omega)))
    ⟨⟨fun y hy => by simp at hy, b0⟩, hB0⟩
    (fun x => { tmps := #[.slice (some ⟨g, o, none⟩) N c, undef, .pointer (some ⟨w.heap.size, 0, none⟩), .int .i64 x.1.1, .slice (some ⟨g, o, none⟩) N c, .int .i64 N, .bool false, .bool false, .slice (some ⟨g, o, none⟩) N c, .int .i64 N, .bool false, .bool false, .slice (some ⟨g, o, none⟩) N c, .func (.func 171) #[] #[.pointer (some ⟨w.heap.size + 1, 0, none⟩)], .int .i64 x.1.1, .agg #[.int .i64 x.1.2.1, .int .i64 x.1.2.2.1, .int .i64 x.1.2.2.2], undef, undef], defers := [] }) ?assign ?body ?done ?stop
  case assign =>
    intro l x W K hK
    gi_wp2
    exact hK
  case body =>
    rintro l pre x W ⟨⟨hp, hb⟩, hB⟩ _
    have hc := hb.cell
    have hf := hb.frozen
    by_cases hx : x.1.1 < 0
    · gi_wp2
      exact ⟨KeepsOthers.setCell _ _ _, ⟨rfl, ⟨x, by simp, hx⟩, hb.set _⟩, hB.setCell (p := ⟨w.heap.size, 0, none⟩) (by simp) _⟩
    · gi_wp2
      exact ⟨KeepsOthers.refl _, Kept2.refl _ _ _, ⟨fun y hy => (List.mem_append.1 hy).elim (hp y) (fun h => by simp at h; subst h; omega), hb⟩, hB⟩
  case done =>
    rintro D ys W hD hys ⟨⟨hne, hb⟩, hB⟩ hK
    have hc := hb.cell
    have hf := hb.frozen
    gi_wp2
    have hb' := hb.set (.int .i64 0)
    have hK' := (KeepsOthers.setCell W ⟨w.heap.size, 0, none⟩ (.int .i64 0)).same D _ hK rfl
    refine ⟨by simp, .inl ⟨_, _, rfl, run_takeDeferred hK', ?_⟩⟩
    have hc5 := cell_kept hb'.cell (grownBy_putObj' _ D (.deferred none)) (fun r e => by cases e; exact ⟨_, hK', rfl⟩)
    have hall : ∀ x ∈ pgFrom L 0, 0 ≤ x.1 := fun x hx => by
      rw [← hys] at hx
      obtain ⟨y, hy, rfl⟩ := List.mem_map.1 hx
      exact hne y hy
    refine ⟨.int .i64 0, ?_, by rw [pgCheck_yes (by rw [hN.out]; exact hL1) (by rw [hN.out]; exact hL) hall], (hB.setCell (p := ⟨w.heap.size, 0, none⟩) (by simp) _).trans (belowK_b (w := w) (Nat.le_refl _) _ D _ _ (by omega) hK' rfl rfl)⟩
    simp [results, Tryz.f146, go_sem, hc5]
  case stop =>
    rintro D c pre W hD hpre ⟨⟨rfl, ⟨y, hy, hy0⟩, hb⟩, hB⟩ hK
    have hc := hb.cell
    have hf := hb.frozen
    gi_wp2
    refine ⟨by simp, .inl ⟨_, _, rfl, run_takeDeferred hK, ?_⟩⟩
    have hc5 := cell_kept hc (grownBy_putObj' _ D (.deferred none)) (fun r e => by cases e; exact ⟨_, hK, rfl⟩)
    refine ⟨.int .i64 50, ?_, by rw [pgCheck_no (hpre.subset (List.mem_map_of_mem hy)) hy0], hB.trans (belowK_b (w := w) (Nat.le_refl _) W D _ _ (by omega) hK rfl rfl)⟩
    simp [results, Tryz.f146, go_sem, hc5]
end Go.Proofs.YtmnpccpfejgkmaaGreat

/-
  Contract: frame.head, of a table that may be.
-/
namespace Go.Proofs.YtmnpccpfejgkmaaGreat
open Go.RowKit Go.Shelf
attribute [local go_sem] Oper.semAt_some
/-- the head of a page's block -/
def pgHdIn (page : Int) (l : List (Int × Pg)) : Option (Int × Pg) := l.find? fun y => decide (page < y.1 + pgSize y.2)
def pgHd (L : List Pg) (page : Int) : Int := match pgHdIn page (pgFrom L 0) with | some y => y.1 | none => 0
theorem pgHdIn_hit {page : Int} {pre : List (Int × Pg)} {x : Int × Pg} (post : List (Int × Pg)) (h : pgHdIn page pre = none) (hx : page < x.1 + pgSize x.2) : pgHdIn page (pre ++ [x] ++ post) = some x := by
  unfold pgHdIn at *
  rw [List.append_assoc, List.find?_append, h]
  simp [hx]
theorem pgHdIn_miss {page : Int} {pre : List (Int × Pg)} {x : Int × Pg} (h : pgHdIn page pre = none) (hx : ¬ page < x.1 + pgSize x.2) : pgHdIn page (pre ++ [x]) = none := by
  unfold pgHdIn at *
  rw [List.find?_append, h]
  simp
  omega
theorem tab_mem_aux (L : List Pg) : ∀ (f i : Nat), (∀ x ∈ pgYields L f i, 0 ≤ x.1) → ∀ x ∈ pgYields L f i, pgHead x.2 = true ∧ x.1 + pgSize x.2 ≤ L.length
  | 0, i, _, x, hx => by simp [pgYields] at hx
  | f + 1, i, h0, x, hx => by
    unfold pgYields at hx h0
    cases hp : L[i]? with
    | none => simp [hp] at hx
    | some p =>
      simp only [hp] at hx h0
      cases ho : pgOk L i p with
      | false =>
        rw [ho] at h0
        have := h0 _ List.mem_cons_self
        simp at this
      | true =>
        rw [ho] at hx h0
        simp only [if_true, List.mem_cons] at hx
        rcases hx with rfl | hx
        · unfold pgOk at ho
          simp only [Bool.and_eq_true, decide_eq_true_eq] at ho
          exact ⟨ho.1.1.1, by have := ho.1.2; simp only; omega⟩
        · exact tab_mem_aux L f _ (fun y hy => h0 y (by simp [hy])) x hx
theorem tab_mem {L : List Pg} (h : ∀ x ∈ pgFrom L 0, 0 ≤ x.1) : ∀ x ∈ pgFrom L 0, pgHead x.2 = true ∧ x.1 + pgSize x.2 ≤ L.length := tab_mem_aux L _ _ h
theorem pgHead_order {p : Pg} (h : pgHead p = true) : 0 ≤ p.2.1 ∧ p.2.1 ≤ 10 := by
  have := of_decide_eq_true h
  omega
def NoHit {L : List Pg} (page : Int) (pre : List (PgX L)) : Prop := pgHdIn page (pre.map (·.1)) = none
def Hit {L : List Pg} (page : Int) (pre : List (PgX L)) (v : Int) : Prop := ∃ p x, pre = p ++ [x] ∧ NoHit page p ∧ page < x.1.1 + pgSize x.1.2 ∧ v = x.1.1
/-- a box of a page -/
def Box3 (W : World) (B : Nat) (t : TypeId) (p : Pg) : Prop := W.heap[B]? = some (.cells #[.int .i64 p.1, .int .i64 p.2.1, .int .i64 p.2.2] t (0, 0))
theorem Box3.cells {W : World} {B : Nat} {t : TypeId} {p : Pg} (h : Box3 W B t p) : W.cell? ⟨B, 0, none⟩ = some (.int .i64 p.1) ∧ W.cell? ⟨B, 1, none⟩ = some (.int .i64 p.2.1) ∧ W.cell? ⟨B, 2, none⟩ = some (.int .i64 p.2.2) := by
  simp [World.cell?, show W.heap[B]? = _ from h]
theorem box3_own (B : Nat) (t : TypeId) (p : Pg) (n : Nat) : OwnFrom n (fun (_ : Unit) W => Box3 W B t p) := by
  intro s X Y row hs hg hr
  refine (hg.block B (Array.getElem?_eq_some_iff.1 hs).1 fun e => ?_).trans hs
  obtain ⟨_, o, ho, hc⟩ := hr B e.symm
  rw [show X.heap[B]? = _ from hs] at ho; cases ho; cases hc
set_option maxRecDepth 100000 in
set_option maxHeartbeats 4000000 in
theorem head_in (g o c N : Nat) (L : List Pg) (hN : Hid (L.length = N)) (hL : N ≤ 1024) (hLc : N ≤ c) (hcm : c ≤ 9223372036854775807) (page : Int) (hT : Hid (∀ x ∈ pgFrom L 0, 0 ≤ x.1)) (w : World) (hA : PgAt w g o L) :
    CallsIn Fence.wide 10 Tryz.prog 147 #[.slice (some ⟨g, o, none⟩) N c, .int .i64 page] w fun e W' => e = .returned (.int .i64 (pgHd L page)) ∧ Below w.heap.size w W' := by
  refine callsIn_of_wp_marks Tryz.func147 rfl trivial ?_ rfl
  simp only [Tryz.ntmps147, List.size_toArray, List.length_cons, List.length_nil, Nat.reduceAdd, Nat.reduceSub, Array.replicate_succ, Array.replicate_zero, List.push_toArray, List.append_toArray, List.nil_append, List.cons_append]
  have hw : Fence.wide.fn 164 := trivial
  have hn1 : 1 ≤ 10 := by omega
  gi_wp2_with (gi_at_call 164; refine (blocks_in 9 _ _ _ _).mono ?_; rintro e w' ⟨rfl, rfl⟩)
  have bP := ((Boxed.new w 3 (.int .i64 page)).alloc (.cells #[.int .i64 0] 3)).alloc (.cells #[.slice (some ⟨g, o, none⟩) N c] 169)
  have b0 := (Boxed.new (w.alloc (.cells #[.int .i64 page] 3)) 3 (.int .i64 0)).alloc (.cells #[.slice (some ⟨g, o, none⟩) N c] 169)
  have b1 := Boxed.new ((w.alloc (.cells #[.int .i64 page] 3)).alloc (.cells #[.int .i64 0] 3)) 169 (.slice (some ⟨g, o, none⟩) N c)
  simp only [World.size_alloc] at b0 b1
  have hB0 : Below w.heap.size w (((w.alloc (.cells #[.int .i64 page] 3)).alloc (.cells #[.int .i64 0] 3)).alloc (.cells #[.slice (some ⟨g, o, none⟩) N c] 169)) := (((Below.refl _ w).alloc (Nat.le_refl _) _).alloc (by simp) _).alloc (by simp; omega) _
  have hgl := hA.1
  have hk0 : Kept2 g g w _ := Kept2.below hB0 hgl hgl
  have hA0 := hk0.pg hA
  have hsz : (((w.alloc (.cells #[.int .i64 page] 3)).alloc (.cells #[.int .i64 0] 3)).alloc (.cells #[.slice (some ⟨g, o, none⟩) N c] 169)).heap.size = w.heap.size + 3 := by simp
  obtain ⟨W0, hW0⟩ : ∃ W0, ((w.alloc (.cells #[.int .i64 page] 3)).alloc (.cells #[.int .i64 0] 3)).alloc (.cells #[.slice (some ⟨g, o, none⟩) N c] 169) = W0 := ⟨_, rfl⟩
  rw [hW0] at bP b0 b1 hB0 hsz hk0 hA0 ⊢
  clear hW0
  refine wpIn_rangeFunc_ownH rfl hn1 (gf := 171) (lb := #[.pointer (some ⟨w.heap.size + 1 + 1, 0, none⟩)]) rfl trivial (enters_of Tryz.func171 (by kernel_rfl) rfl)
    (blocks_stopsN 9 (by omega) (w.heap.size + 1 + 1) g o c N L hN.out (by omega) hLc hcm W0 b1.cell hA0) (fun h k => h.trans k) (kept2_b (by omega) (by omega)) (Below.refl _ _) (fun _ => rfl)
    (fun pre W => (NoHit page pre ∧ Boxed W w.heap.size 3 (.int .i64 page) ∧ Boxed W (w.heap.size + 1) 3 (.int .i64 0) ∧ W0.heap.size ≤ W.heap.size) ∧ Below w.heap.size w W)
    (fun c pre W => (c = .ret ∧ ∃ v, Hit page pre v ∧ Boxed W (w.heap.size + 1) 3 (.int .i64 v)) ∧ Below w.heap.size w W)
    (OwnFrom.and (OwnFrom.and (ownFrom_pure _ _) (OwnFrom.and (Own.from (boxed_own _ _ _) _) (OwnFrom.and (Own.from (boxed_own _ _ _) _) (fun _ _ _ _ hs hg _ => Nat.le_trans hs hg.size)))) (ownFrom_below (Nat.le_refl _) (by omega)))
    (fun c => OwnFrom.and (OwnFrom.and (ownFrom_pure _ _) (fun s X Y row hs hg hr => by obtain ⟨v, h1, h2⟩ := hs; exact ⟨v, h1, boxed_own _ _ (fun (_ : Unit) => Value.int .i64 v) () X Y row h2 hg (fun r e => (hr r e).2)⟩)) (ownFrom_below (Nat.le_refl _) (by omega)))
    ⟨⟨rfl, bP, b0, Nat.le_refl _⟩, hB0⟩
    (fun x a' W => ∃ Bx, w.heap.size + 2 < Bx ∧ Box3 W Bx 174 x.1.2 ∧ a' = { tmps := #[.slice (some ⟨g, o, none⟩) N c, .int .i64 page, undef, .pointer (some ⟨w.heap.size, 0, none⟩), .pointer (some ⟨w.heap.size + 1, 0, none⟩), .int .i64 x.1.1, .pointer (some ⟨Bx, 0, none⟩), .slice (some ⟨g, o, none⟩) N c, .func (.func 171) #[] #[.pointer (some ⟨w.heap.size + 1 + 1, 0, none⟩)], .int .i64 x.1.1, .agg #[.int .i64 x.1.2.1, .int .i64 x.1.2.2.1, .int .i64 x.1.2.2.2], undef, undef, undef, undef, undef, undef, undef, undef], defers := [] })
    (fun x a' s X Y row hs hg hr => by obtain ⟨Bx, h1, h2, h3⟩ := hs; exact ⟨Bx, h1, box3_own Bx _ x.1.2 _ () X Y row h2 hg hr, h3⟩)
    ?assign ?body ?done ?stop
  case assign =>
    rintro l pre x W K ⟨⟨hno, hbP, hb0, hge⟩, hB⟩ hK
    gi_wp2
    exact hK _ _ ((KeepsOthers.alloc _ _).from _) (Kept2.below ((Below.refl _ W).alloc (Nat.le_refl _) _) (by omega) (by omega)) ⟨⟨hno, hbP.alloc _, hb0.alloc _, by simp; omega⟩, hB.alloc (by have := hB.size; omega) _⟩ ⟨W.heap.size, by omega, World.alloc_heap_new W _, rfl⟩
  case body =>
    rintro l pre x a' W hl ⟨r, hr⟩ ⟨⟨hno, hbP, hb0, hge⟩, hB⟩ ⟨Bx, hBx, b3, rfl⟩ hlt
    obtain ⟨⟨at0, p0, p1, p2⟩, hxm⟩ := x
    obtain ⟨hpo, hple⟩ := tab_mem hT.out _ hxm
    have hpa := hT.out _ hxm
    rw [hN.out] at hple
    have hord := pgHead_order hpo
    simp only at hord hpa hple
    have hat : at0 ≤ 1024 := by have := pgSize_pos (p0, p1, p2); omega
    obtain ⟨s, rfl⟩ : ∃ s : Nat, p1 = (s : Int) := ⟨p1.toNat, by omega⟩
    have hpw : (2 : Nat) ^ s ≤ 2 ^ 10 := Nat.pow_le_pow_right (by omega) (by omega)
    have hmin : min s 64 = s := by omega
    obtain ⟨M, hM⟩ : ∃ M : Nat, 2 ^ s = M := ⟨_, rfl⟩
    have hMi : (2 : Int) ^ s = (M : Int) := by rw [← hM]; simp
    have hM1 : 1 ≤ M := by rw [← hM]; exact Nat.one_le_two_pow
    have hs0 : (0 : Int) ≤ s := by omega
    have hszx : pgSize (p0, ((s : Nat) : Int), p2) = M := by simp [pgSize, hM]
    have HSZ := Lib.hid hszx
    rw [hszx] at hple
    clear hM hszx hpw
    obtain ⟨c0, c1, c2⟩ := b3.cells
    have cP := hbP.cell
    have cR := hb0.cell
    have fR := hb0.frozen
    simp only at c0 c1 c2 cP cR fR
    have hw1 : IntKind.i64.wrap (M : Int) = (M : Int) := by rw [IntWalk.i64_in] <;> omega
    have hw2 : IntKind.i64.wrap (at0 + M) = at0 + M := by rw [IntWalk.i64_in] <;> omega
    by_cases hlt : page < at0 + M
    · gi_wp2
      gi_region
      all_goals
        gi_wp2
        exact ⟨((KeepsOthers.drew _).trans (KeepsOthers.setCell _ _ _)).from _, ⟨rfl, at0, ⟨pre, _, rfl, hno, by rw [HSZ.out]; exact hlt, rfl⟩, Boxed.set _ (show Boxed W.drew _ _ _ from hb0)⟩, hB.drew.setCell (p := ⟨w.heap.size + 1, 0, none⟩) (by simp) _⟩
    · have hno' : NoHit page (pre ++ [⟨(at0, p0, ((s : Nat) : Int), p2), hxm⟩]) := by
        unfold NoHit
        rw [List.map_append]
        exact pgHdIn_miss hno (by rw [HSZ.out]; exact hlt)
      gi_wp2
      gi_region
      all_goals
        gi_wp2
        exact ⟨(KeepsOthers.drew _).from _, Kept2.below ((Below.refl _ W).drew) (by omega) (by omega), ⟨hno', hbP, hb0, hge⟩, hB.drew⟩
  case done =>
    rintro D ys W hD hys ⟨⟨hno, hbP, hb, hge⟩, hB⟩ hK
    have hc := hb.cell
    have hf := hb.frozen
    gi_wp2
    have hb' := hb.set (.int .i64 0)
    have hK' := (KeepsOthers.setCell W ⟨w.heap.size + 1, 0, none⟩ (.int .i64 0)).same D _ hK rfl
    refine ⟨by simp, .inl ⟨_, _, rfl, run_takeDeferred hK', ?_⟩⟩
    have hc5 := cell_kept hb'.cell (grownBy_putObj' _ D (.deferred none)) (fun r e => by cases e; exact ⟨_, hK', rfl⟩)
    have hh : pgHd L page = 0 := by
      unfold pgHd
      rw [← hys, hno]
    refine ⟨.int .i64 0, ?_, by rw [hh], (hB.setCell (p := ⟨w.heap.size + 1, 0, none⟩) (by simp) _).trans (belowK_b (w := w) (Nat.le_refl _) _ D _ _ (by omega) hK' rfl rfl)⟩
    simp [results, Tryz.f147, go_sem, hc5]
  case stop =>
    rintro D c pre W hD hpre ⟨⟨rfl, v, ⟨p, x, rfl, hno, hx, rfl⟩, hb⟩, hB⟩ hK
    have hh : pgHd L page = x.1.1 := by
      obtain ⟨post, hp⟩ := hpre
      have t := pgHdIn_hit post hno hx
      rw [List.map_append, List.map_cons, List.map_nil] at hp
      rw [hp] at t
      unfold pgHd
      rw [t]
    have HH := Lib.hid hh
    clear hh
    have hc := hb.cell
    have hf := hb.frozen
    gi_wp2
    refine ⟨by simp, .inl ⟨_, _, rfl, run_takeDeferred hK, ?_⟩⟩
    have hc5 := cell_kept hc (grownBy_putObj' _ D (.deferred none)) (fun r e => by cases e; exact ⟨_, hK, rfl⟩)
    refine ⟨.int .i64 x.1.1, ?_, by rw [HH.out], hB.trans (belowK_b (w := w) (Nat.le_refl _) W D _ _ (by omega) hK rfl rfl)⟩
    simp [results, Tryz.f147, go_sem, hc5]
end Go.Proofs.YtmnpccpfejgkmaaGreat

/-
  Contract: frame.Free, of any table: the loop over a table that may be.
-/
namespace Go.Proofs.YtmnpccpfejgkmaaGreat
open Go.RowKit Go.Shelf
attribute [local go_sem] Oper.semAt_some
/-- the pages of free blocks -/
def pgFreeIn (l : List (Int × Pg)) : Int := (l.map fun y => if y.2.1 = 0 then (pgSize y.2 : Int) else 0).sum
theorem pgFreeIn_snoc (l : List (Int × Pg)) (x : Int × Pg) : pgFreeIn (l ++ [x]) = pgFreeIn l + if x.2.1 = 0 then (pgSize x.2 : Int) else 0 := by simp [pgFreeIn]
theorem kept2_set {a b p : Nat} (W : World) (v : Value) (ha : a ≠ p) (hb : b ≠ p) : Kept2 a b W (W.setCell ⟨p, 0, none⟩ v).drew :=
  ⟨by simp [World.drew], Below.heap_setCell W ⟨p, 0, none⟩ v a ha, Below.heap_setCell W ⟨p, 0, none⟩ v b hb⟩
def FreeIs {L : List Pg} (pre : List (PgX L)) (n : Int) : Prop := pgFreeIn (pre.map (·.1)) = n ∧ 0 ≤ n ∧ n ≤ pre.length * 1024
/-- what Free answers -/
def pgFree (L : List Pg) : Int := if pgCheck L = 0 then pgFreeIn (pgFrom L 0) else 0
theorem pgCheck_zero {L : List Pg} (h : pgCheck L = 0) : 1 ≤ L.length ∧ L.length ≤ 1024 ∧ ∀ x ∈ pgFrom L 0, 0 ≤ x.1 := by
  unfold pgCheck at h
  split at h
  · rename_i h'
    refine ⟨h'.1, h'.2.1, fun x hx => ?_⟩
    have := h'.2.2
    unfold tabOk at this
    rw [List.all_eq_true] at this
    exact of_decide_eq_true (this x hx)
  · omega
end Go.Proofs.YtmnpccpfejgkmaaGreat

/-
  Tables of pages, in plain Lean: blocks found by a page, a row of blocks replaced by one block, and what Head, Set and Free answer.
-/
namespace Go.Proofs.YtmnpccpfejgkmaaGreat
open Go.RowKit

theorem lay_append : ∀ (a b : List Pg), lay (a ++ b) = lay a ++ lay b
  | [], b => rfl
  | p :: a, b => by simp [lay, lay_append a b]
theorem row_append : ∀ (a b : List Pg) (i : Nat), Row i (a ++ b) ↔ Row i a ∧ Row (i + (lay a).length) b
  | [], b, i => by simp [Row, lay]
  | p :: a, b, i => by
    have := lay_cons_len p a
    simp only [List.cons_append, Row, row_append a b]
    rw [show i + pgSize p + (lay a).length = i + (lay (p :: a)).length from by omega]
    constructor
    · rintro ⟨h1, h2, h3, h4⟩; exact ⟨⟨h1, h2, h3⟩, h4⟩
    · rintro ⟨⟨h1, h2, h3⟩, h4⟩; exact ⟨h1, h2, h3, h4⟩
theorem places_append : ∀ (a b : List Pg) (i : Nat), places i (a ++ b) = places i a ++ places (i + (lay a).length) b
  | [], b, i => by simp [places, lay]
  | p :: a, b, i => by
    have := lay_cons_len p a
    simp only [List.cons_append, places, places_append a b]
    rw [show i + pgSize p + (lay a).length = i + (lay (p :: a)).length from by omega]
theorem places_bound : ∀ (bs : List Pg) (i : Nat), ∀ y ∈ places i bs, (i : Int) ≤ y.1 ∧ y.1 + pgSize y.2 ≤ i + (lay bs).length ∧ y.2 ∈ bs
  | [], i, y, h => by simp [places] at h
  | p :: bs, i, y, h => by
    have hl := lay_cons_len p bs
    rw [places, List.mem_cons] at h
    rcases h with rfl | h
    · exact ⟨by simp, by simp only; omega, by simp⟩
    · have := places_bound bs (i + pgSize p) y h
      refine ⟨by omega, by omega, List.mem_cons_of_mem _ this.2.2⟩
/-- the block of a page -/
theorem row_find : ∀ (bs : List Pg) (i p : Nat), i ≤ p → p < i + (lay bs).length → ∃ b1 x b2, bs = b1 ++ x :: b2 ∧ i + (lay b1).length ≤ p ∧ p < i + (lay b1).length + pgSize x
  | [], i, p, h1, h2 => by simp [lay] at h2; omega
  | x :: bs, i, p, h1, h2 => by
    have hl := lay_cons_len x bs
    by_cases h : p < i + pgSize x
    · exact ⟨[], x, bs, rfl, by simpa [lay] using h1, by simpa [lay] using h⟩
    · obtain ⟨b1, y, b2, rfl, h3, h4⟩ := row_find bs (i + pgSize x) p (by omega) (by omega)
      have := lay_cons_len x b1
      exact ⟨x :: b1, y, b2, rfl, by omega, by omega⟩
theorem pow_dvd_of_le {a b : Nat} (h : a ≤ b) : 2 ^ a ∣ 2 ^ b := Nat.pow_dvd_pow 2 h
theorem pgSize_dvd {p q : Pg} (h : pgSize p ≤ pgSize q) : pgSize p ∣ pgSize q := by
  unfold pgSize at *
  exact pow_dvd_of_le ((Nat.pow_le_pow_iff_right (by omega)).1 h)
theorem dvd_lt_eq {n a b : Nat} (ha : a % n = 0) (hb : b % n = 0) (h1 : a ≤ b) (h2 : b < a + n) : b = a := by
  obtain ⟨k, rfl⟩ := Nat.dvd_of_mod_eq_zero ha
  obtain ⟨l, rfl⟩ := Nat.dvd_of_mod_eq_zero hb
  rcases Nat.lt_or_ge k l with h | h
  · have : n * (k + 1) ≤ n * l := Nat.mul_le_mul_left _ h
    rw [Nat.mul_succ] at this
    omega
  · have : n * l ≤ n * k := Nat.mul_le_mul_left _ h
    omega
theorem mod_of_dvd {n m a : Nat} (h : n ∣ m) (ha : a % m = 0) : a % n = 0 := Nat.mod_eq_zero_of_dvd (Nat.dvd_trans h (Nat.dvd_of_mod_eq_zero ha))
theorem row_cut (x : Pg) (a : Nat) (ha : a % pgSize x = 0) : ∀ (c : List Pg) (i : Nat), a ≤ i → i < a + pgSize x → Row i c → (i = a → ∀ y ∈ c.head?, pgSize y ≤ pgSize x) → a + pgSize x ≤ i + (lay c).length →
    ∃ c1 c2, c = c1 ++ c2 ∧ i + (lay c1).length = a + pgSize x
  | [], i, h1, h2, _, _, h => by simp [lay] at h; omega
  | y :: c, i, h1, h2, hr, h0, h => by
    have hl := lay_cons_len y c
    obtain ⟨hy1, hy2, hy3⟩ := hr
    have hpos := pgSize_pos y
    have hs : pgSize y ≤ pgSize x := by
      rcases Nat.lt_or_ge (pgSize x) (pgSize y) with hgt | hle
      · have hd := pgSize_dvd (Nat.le_of_lt hgt)
        have := dvd_lt_eq ha (mod_of_dvd hd hy2) h1 h2
        exact h0 this y rfl
      · exact hle
    have hd := pgSize_dvd hs
    have hi : i + pgSize y ≤ a + pgSize x := by
      have h3 : (a + pgSize x) % pgSize y = 0 := Nat.mod_eq_zero_of_dvd (Nat.dvd_add (Nat.dvd_trans hd (Nat.dvd_of_mod_eq_zero ha)) hd)
      rcases Nat.lt_or_ge (a + pgSize x) (i + pgSize y) with hgt | hle
      · have := dvd_lt_eq hy2 h3 (by omega) hgt
        omega
      · exact hle
    rcases Nat.lt_or_ge (i + pgSize y) (a + pgSize x) with hlt | hge
    · obtain ⟨c1, c2, rfl, h5⟩ := row_cut x a ha c (i + pgSize y) (by omega) hlt hy3 (fun e => by omega) (by omega)
      have := lay_cons_len y c1
      exact ⟨y :: c1, c2, rfl, by omega⟩
    · exact ⟨[y], c, rfl, by have := lay_cons_len y []; simp [lay] at this ⊢; omega⟩
/-- the head of a page's block -/
theorem pgHd_at {L b1 b2 : List Pg} {x : Pg} (h : Tab L (b1 ++ x :: b2)) {page : Int} (h1 : ((lay b1).length : Int) ≤ page) (h2 : page < (lay b1).length + pgSize x) : pgHd L page = (lay b1).length ∧ L[(lay b1).length]? = some x := by
  constructor
  · unfold pgHd
    rw [tab_from h, places_append]
    simp only [Nat.zero_add, places]
    have hn : pgHdIn page (places 0 b1) = none := by
      unfold pgHdIn
      rw [List.find?_eq_none]
      intro y hy
      have := places_bound b1 0 y hy
      simp
      omega
    have := pgHdIn_hit (x := (((lay b1).length : Int), x)) (places ((lay b1).length + pgSize x) b2) hn h2
    rw [List.append_assoc, List.singleton_append] at this
    rw [this]
  · obtain ⟨rfl, _⟩ := h
    rw [lay_append]
    simp [lay]
theorem tab_len {L bs : List Pg} (h : Tab L bs) : L.length = (lay bs).length := by rw [h.1]
theorem pgCheck_tab {L : List Pg} (h : pgCheck L = 0) : ∃ bs, Tab L bs := (tab_iff L).2 (pgCheck_zero h).2.2
theorem pgCheck_of_tab {L bs : List Pg} (h : Tab L bs) (h1 : 1 ≤ L.length) (h2 : L.length ≤ 1024) : pgCheck L = 0 := pgCheck_yes h1 h2 ((tab_iff L).1 ⟨bs, h⟩)
theorem pgCheck_cases (L : List Pg) : pgCheck L = 0 ∨ pgCheck L = 50 := by unfold pgCheck; split <;> simp
/-- a table with a block laid at a place -/
def pgPut (L : List Pg) (p : Nat) (x : Pg) : List Pg := L.take p ++ (x :: List.replicate (pgSize x - 1) pgIn ++ L.drop (p + pgSize x))
theorem pgPut_len {L : List Pg} {p : Nat} {x : Pg} (h : p + pgSize x ≤ L.length) : (pgPut L p x).length = L.length := by
  have := pgSize_pos x
  simp [pgPut]
  omega
/-- what Set tells -/
def pgSetE (L : List Pg) (page : Int) (x : Pg) : Int :=
  if pgCheck L ≠ 0 then 50 else if pgHead x = false then 2 else if page < 0 ∨ page % pgSize x ≠ 0 ∨ (L.length : Int) < page + pgSize x then 9
  else if x.2.1 < (L.getD (pgHd L page).toNat pgIn).2.1 then 50 else 0
theorem pgSize_mono {x y : Pg} (h : x.2.1 ≤ y.2.1) : pgSize x ≤ pgSize y := Nat.pow_le_pow_right (by omega) (by omega)
/-- where Set tells no error a row of blocks is replaced by one -/
theorem pgSet_ok {L : List Pg} {page : Int} {x : Pg} (h : pgSetE L page x = 0) : ∃ (p : Nat) (b1 c1 c2 : List Pg), page = p ∧ p + pgSize x ≤ L.length ∧ pgCheck L = 0 ∧ pgHead x = true ∧ p % pgSize x = 0 ∧
    Tab L (b1 ++ (c1 ++ c2)) ∧ (lay b1).length = p ∧ (lay c1).length = pgSize x ∧ Tab (pgPut L p x) (b1 ++ (x :: c2)) := by
  unfold pgSetE at h
  split at h
  · cases h
  · rename_i hck
    have hck : pgCheck L = 0 := Decidable.not_not.1 hck
    split at h
    · cases h
    · rename_i hh
      have hh : pgHead x = true := by simpa using hh
      split at h
      · cases h
      · rename_i hr
        split at h
        · cases h
        · rename_i ho
          obtain ⟨p, rfl⟩ : ∃ p : Nat, page = p := ⟨page.toNat, by omega⟩
          have hr1 : p % pgSize x = 0 := by
            have : ((p % pgSize x : Nat) : Int) = 0 := by
              rw [Int.natCast_emod]
              exact Decidable.not_not.1 fun h0 => hr (.inr (.inl h0))
            omega
          have hr2 : p + pgSize x ≤ L.length := by omega
          have hpos := pgSize_pos x
          obtain ⟨bs, hT⟩ := pgCheck_tab hck
          have hlen := tab_len hT
          obtain ⟨b1, y, b2, rfl, h3, h4⟩ := row_find bs 0 p (by omega) (by omega)
          rw [Nat.zero_add] at h3 h4
          obtain ⟨e1, e2⟩ := pgHd_at hT (page := (p : Int)) (by omega) (by omega)
          have hyx : pgSize y ≤ pgSize x := by
            apply pgSize_mono
            rw [e1] at ho
            rw [Int.toNat_natCast, List.getD_eq_getElem?_getD, e2] at ho
            simp at ho
            omega
          have hrow := (row_append b1 (y :: b2) 0).1 hT.2
          rw [Nat.zero_add] at hrow
          have hbp : (lay b1).length = p := by
            have := hrow.2.2.1
            exact (dvd_lt_eq this (mod_of_dvd (pgSize_dvd hyx) hr1) h3 h4).symm
          have hll : (lay (b1 ++ y :: b2)).length = (lay b1).length + (lay (y :: b2)).length := by rw [lay_append, List.length_append]
          obtain ⟨c1, c2, hc, h5⟩ := row_cut x p hr1 (y :: b2) p (Nat.le_refl _) (by omega) (by rw [← hbp]; exact hrow.2) (fun _ z hz => by simp at hz; subst hz; exact hyx) (by omega)
          rw [hc] at hT hrow
          have hc1 : (lay c1).length = pgSize x := by omega
          refine ⟨p, b1, c1, c2, rfl, hr2, hck, hh, hr1, hT, hbp, hc1, ?_, ?_⟩
          · have e : L = lay b1 ++ (lay c1 ++ lay c2) := by rw [hT.1, lay_append, lay_append]
            have ed : L.drop (p + pgSize x) = lay c2 := by rw [e, ← List.append_assoc, List.drop_left' (by rw [List.length_append]; omega)]
            have et : L.take p = lay b1 := by rw [e, List.take_left' hbp]
            rw [pgPut, ed, et, lay_append]
            simp [lay]
          · rw [row_append]
            refine ⟨hrow.1, hh, by rw [Nat.zero_add, hbp]; exact hr1, ?_⟩
            have := ((row_append c1 c2 _).1 hrow.2).2
            rw [hc1] at this
            rw [Nat.zero_add]
            exact this
theorem pgPut_get {L : List Pg} {p : Nat} {x : Pg} (h : p + pgSize x ≤ L.length) (i : Nat) : (pgPut L p x)[i]? = if i = p then some x else if p < i ∧ i < p + pgSize x then some pgIn else L[i]? := by
  have hpos := pgSize_pos x
  unfold pgPut
  have ht : (L.take p).length = p := by rw [List.length_take]; omega
  by_cases h1 : i < p
  · rw [List.getElem?_append_left (by omega), List.getElem?_take, if_pos h1, if_neg (by omega), if_neg (by omega)]
  · rw [List.getElem?_append_right (by omega), ht]
    by_cases h2 : i = p
    · subst h2; simp
    · rw [if_neg h2]
      obtain ⟨j, hj⟩ : ∃ j, i - p = j + 1 := ⟨i - p - 1, by omega⟩
      rw [hj, List.cons_append, List.getElem?_cons_succ]
      by_cases h3 : i < p + pgSize x
      · rw [if_pos ⟨by omega, h3⟩, List.getElem?_append_left (by simp; omega), List.getElem?_replicate, if_pos (by omega)]
      · rw [if_neg (by omega), List.getElem?_append_right (by simp; omega), List.getElem?_drop]
        congr 1
        simp
        omega
theorem pgPut_again {L : List Pg} {p : Nat} {x : Pg} (h : p + pgSize x ≤ L.length) : pgPut (pgPut L p x) p x = pgPut L p x := by
  apply List.ext_getElem?
  intro i
  rw [pgPut_get (by rw [pgPut_len h]; exact h), pgPut_get h]
  split
  · rfl
  · split <;> rfl
/-- .. set again it is the same -/
theorem pgSet_again {L : List Pg} {page : Int} {x : Pg} (h : pgSetE L page x = 0) : pgSetE (pgPut L page.toNat x) page x = 0 ∧ pgCheck (pgPut L page.toNat x) = 0 ∧ (pgPut L page.toNat x).length = L.length ∧
    pgPut (pgPut L page.toNat x) page.toNat x = pgPut L page.toNat x ∧ (∀ q : Int, page ≤ q → q < page + pgSize x → pgHd (pgPut L page.toNat x) q = page) ∧ page = page.toNat ∧ page.toNat + pgSize x ≤ L.length ∧ pgHead x = true ∧ pgCheck L = 0 := by
  obtain ⟨p, b1, c1, c2, rfl, hl, hck, hh, hm, hT, hb, hc, hT'⟩ := pgSet_ok h
  rw [Int.toNat_natCast]
  have hlen := pgPut_len hl
  have hpos := pgSize_pos x
  have hcz := pgCheck_zero hck
  have hck' := pgCheck_of_tab hT' (by omega) (by omega)
  have hhd : ∀ q : Int, (p : Int) ≤ q → q < p + pgSize x → pgHd (pgPut L p x) q = p ∧ (pgPut L p x)[p]? = some x := by
    intro q h1 h2
    have := pgHd_at hT' (page := q) (by omega) (by omega)
    rw [hb] at this
    exact this
  refine ⟨?_, hck', hlen, pgPut_again hl, fun q h1 h2 => (hhd q h1 h2).1, rfl, hl, hh, hck⟩
  unfold pgSetE
  rw [if_neg (by rw [hck']; simp), if_neg (by rw [hh]; simp), if_neg, if_neg]
  · obtain ⟨e1, e2⟩ := hhd p (by omega) (by omega)
    rw [e1, Int.toNat_natCast, List.getD_eq_getElem?_getD, e2]
    simp
  · rw [hlen]
    have : ((p : Int) % (pgSize x : Int)) = 0 := by rw [← Int.natCast_emod, hm]; rfl
    omega
end Go.Proofs.YtmnpccpfejgkmaaGreat

/-
  Contracts: frame.Check, frame.Head, frame.Free, of any table; slices.Clone of pages.
-/
namespace Go.Proofs.YtmnpccpfejgkmaaGreat
open Go.RowKit
/-- a slice reads as pages -/
def PgS (w : World) (v : Value) (L : List Pg) : Prop := ∃ A c, v = .slice A L.length c ∧ L.length ≤ c ∧ c ≤ maxLen ∧ (0 < L.length → ∃ g o, A = some ⟨g, o, none⟩ ∧ PgAt w g o L)
section
variable {W w : World} {m bs : List (Nat × Obj)} {v : Value} {L : List Pg}
theorem PgS.own (h : PgS W v L) (hO : Own W m w) : PgS w v L := by
  obtain ⟨A, c, rfl, h1, h2, h3⟩ := h
  exact ⟨A, c, rfl, h1, h2, fun hp => by obtain ⟨g, o, rfl, hA⟩ := h3 hp; exact ⟨g, o, rfl, hA.own hO⟩⟩
theorem PgS.below (h : PgS w v L) {w' : World} (hb : Below w.heap.size w w') : PgS w' v L := h.own (m := []) ⟨hb, by simp, by simp⟩
theorem own_of_below (h : Own W m w) {w' : World} (hb : Below w.heap.size w w') : Own W m w' := h.then_below hb
theorem pgCheck_short {L : List Pg} (h : L.length = 0 ∨ 1024 < L.length) : pgCheck L = 50 := by
  unfold pgCheck
  rw [if_neg]
  omega
set_option maxHeartbeats 1000000 in
theorem check_spec (h : Own W m w) (hs : PgS w v L) :
    Calls Tryz.prog 146 #[v] w fun e w' => e = .returned (.int .i64 (pgCheck L)) ∧ Own W m w' := by
  obtain ⟨A, c, rfl, h1, h2, h3⟩ := hs
  unfold maxLen at h2
  by_cases hz : L.length = 0 ∨ 1024 < L.length
  · have HC := Lib.hid (pgCheck_short hz)
    have h0 := h.alloc (.cells #[.int .i64 50] 54)
    obtain ⟨N, hN⟩ : ∃ N, L.length = N := ⟨_, rfl⟩
    rw [hN] at hz h1 ⊢
    clear h3 hN
    rcases hz with rfl | hz
    · go_enter Tryz.func146, Tryz.ntmps146
      go_wp2_with fail
      exact bodyPost_ret (v := .int .i64 50) (by simp [results, Tryz.f146, go_sem]) rfl ⟨by rw [HC.out], h0⟩
    · have hn0 : ((N : Int) == 0) = false := by rw [beq_eq_false_iff_ne]; omega
      have hn2 : decide (1024 < (N : Int)) = true := decide_eq_true (by omega)
      go_enter Tryz.func146, Tryz.ntmps146
      go_wp2_with fail
      exact bodyPost_ret (v := .int .i64 50) (by simp [results, Tryz.f146, go_sem]) rfl ⟨by rw [HC.out], h0⟩
  · obtain ⟨g, o, rfl, hA⟩ := h3 (by omega)
    exact (callsIn_wide.1 (check_loop g o c L.length L rfl (by omega) (by omega) h1 (by omega) w hA)).mono fun _ _ ⟨he, hb⟩ => ⟨he, h.then_below hb⟩
theorem head_spec (h : Own W m w) (hs : PgS w v L) (hc : pgCheck L = 0) (page : Int) :
    Calls Tryz.prog 147 #[v, .int .i64 page] w fun e w' => e = .returned (.int .i64 (pgHd L page)) ∧ Own W m w' := by
  obtain ⟨A, c, rfl, h1, h2, h3⟩ := hs
  unfold maxLen at h2
  obtain ⟨z1, z2, z3⟩ := pgCheck_zero hc
  obtain ⟨g, o, rfl, hA⟩ := h3 (by omega)
  exact (callsIn_wide.1 (head_in g o c L.length L rfl (by omega) h1 (by omega) page z3 w hA)).mono fun _ _ ⟨he, hb⟩ => ⟨he, h.then_below hb⟩
/-- what Head answers -/
def pgHeadE (L : List Pg) (page : Int) : Int × Int := if pgCheck L ≠ 0 then (0, 50) else if page < 0 ∨ (L.length : Int) ≤ page then (0, 9) else (pgHd L page, 0)
set_option maxHeartbeats 1000000 in
theorem Head_spec (h : Own W m w) (hs : PgS w v L) (page : Int) :
    Calls Tryz.prog 110 #[v, .int .i64 page] w fun e w' => e = .returned (.tuple #[.int .i64 (pgHeadE L page).1, .int .i64 (pgHeadE L page).2]) ∧ Own W m w' := by
  have hs' := hs
  obtain ⟨A, c, rfl, h1, h2, h3⟩ := hs'
  unfold maxLen at h2
  obtain ⟨N, hN⟩ : ∃ N, L.length = N := ⟨_, rfl⟩
  have HN := Lib.hid hN
  rw [hN] at hs h1 ⊢
  clear h3 hN
  by_cases hc : pgCheck L = 0
  · have HC := Lib.hid hc
    clear hc
    by_cases hp : page < 0 ∨ (N : Int) ≤ page
    · have hr : pgHeadE L page = (0, 9) := by unfold pgHeadE; rw [if_neg (by rw [HC.out]; simp), if_pos (by rw [HN.out]; exact hp)]
      rw [hr]
      clear hr
      rcases hp with hp | hp
      all_goals
        have hp0 : page < 0 ∨ 0 ≤ page := by omega
        rcases hp0 with hp0 | hp0
        all_goals
          go_enter Tryz.func110, Tryz.ntmps110
          go_wp2_with (go_at_call 146; refine (check_spec h hs).mono ?_; rintro e w' ⟨rfl, h1⟩; rw [HC.out])
          go_ret2
          exact ⟨rfl, h1⟩
    · have hr : pgHeadE L page = (pgHd L page, 0) := by unfold pgHeadE; rw [if_neg (by rw [HC.out]; simp), if_neg (by rw [HN.out]; exact hp)]
      rw [hr]
      have hp1 : 0 ≤ page := by omega
      have hp2 : page < N := by omega
      clear hr hp
      go_enter Tryz.func110, Tryz.ntmps110
      go_wp2_with (first | (go_at_call 146; refine (check_spec (Own.self w) hs).mono ?_; rintro e w1 ⟨rfl, h0⟩; rw [HC.out]; have hs1 := hs.own h0; have h1 := h.of_self h0) | (go_at_call 147; refine (head_spec h1 hs1 HC.out page).mono ?_; rintro e w' ⟨rfl, h2⟩))
      go_ret2
      exact ⟨rfl, h2⟩
  · have hr : pgHeadE L page = (0, 50) := by unfold pgHeadE; rw [if_pos hc]
    rw [hr]
    have hc : pgCheck L = 50 := (pgCheck_cases L).resolve_left hc
    have HC := Lib.hid hc
    clear hc hr
    go_enter Tryz.func110, Tryz.ntmps110
    go_wp2_with (go_at_call 146; refine (check_spec h hs).mono ?_; rintro e w' ⟨rfl, h1⟩; rw [HC.out])
    go_ret2
    exact ⟨rfl, h1⟩
end
end Go.Proofs.YtmnpccpfejgkmaaGreat

/-
  Arguments opened to cells: flat types (numbers, bools, structs and arrays of such), and slices of them. No condition.
-/
namespace Go.Proofs.YtmnpccpfejgkmaaGreat
open Go.ChangeShapes Go.WideShapes Go.ChangeAt Go.RowKit

/-- a cell of a kind: 'none': a bool -/
def CellIs : Option IntKind → Value → Prop
  | none, v => ∃ b, v = .bool b
  | some k, v => ∃ n, v = .int k n ∧ (Lit.int k n).wf = true

/-- the kinds of a struct's cells, from an offset on -/
def flatFields (P : Program) (K : TypeId → Option (List (Option IntKind))) : Nat → List Field → Option (List (Option IntKind))
  | _, [] => some []
  | off, f :: fs =>
    match K f.type with
    | some l => if f.offset = off ∧ l.length = P.cellsOf f.type then (flatFields P K (off + l.length) fs).map (l ++ ·) else none
    | none => none
/-- the kinds of a flat type's cells -/
def flatKinds (P : Program) : Nat → TypeId → Option (List (Option IntKind))
  | 0, _ => none
  | n + 1, t =>
    match P.underlying t with
    | some .bool => some [none]
    | some (.int k) => some [some k]
    | some (.struct fs) => flatFields P (flatKinds P n) 0 fs.toList
    | some (.array m e) =>
      match flatKinds P n e with
      | some l => if l.length = P.cellsOf e then some (List.replicate m l).flatten else none
      | none => none
    | _ => none

section
variable {H : Type} {enc : TypeId × Value → H} {P : Program} {w : World} {base : Nat} {spare : Nat → Bool} {held : Bool}

theorem flat_rep {l : List (Option IntKind)} {cs : List Value} : ∀ (m off : Nat) (_h : ∀ i, i < m → ∀ (j : Nat) (k : Option IntKind), l[j]? = some k → ∃ v, cs[off + i * l.length + j]? = some v ∧ CellIs k v) (i : Nat) (k : Option IntKind),
    (List.replicate m l).flatten[i]? = some k → ∃ v, cs[off + i]? = some v ∧ CellIs k v
  | 0, _, _, i, k, hk => by simp at hk
  | m + 1, off, h, i, k, hk => by
    rw [List.replicate_succ, List.flatten_cons] at hk
    by_cases hi : i < l.length
    · rw [List.getElem?_append_left hi] at hk
      have := h 0 (by omega) i k hk
      simpa using this
    · rw [List.getElem?_append_right (by omega)] at hk
      have h' : ∀ i, i < m → ∀ (j : Nat) (k : Option IntKind), l[j]? = some k → ∃ v, cs[(off + l.length) + i * l.length + j]? = some v ∧ CellIs k v := fun i' hi' j k' hk' => by
        have := h (i' + 1) (by omega) j k' hk'
        rwa [show off + (i' + 1) * l.length + j = off + l.length + i' * l.length + j from by rw [Nat.succ_mul]; omega] at this
      have := flat_rep m (off + l.length) h' (i - l.length) k hk
      rwa [show off + l.length + (i - l.length) = off + i from by omega] at this

theorem flat_fields {cs : List Value} {K : TypeId → Option (List (Option IntKind))} : ∀ (fs : List Field) (off : Nat) (ks : List (Option IntKind)), flatFields P K off fs = some ks →
    (∀ f ∈ fs, ∀ l, K f.type = some l → l.length = P.cellsOf f.type → ∀ (j : Nat) (k : Option IntKind), l[j]? = some k → ∃ v, cs[f.offset + j]? = some v ∧ CellIs k v) →
    ∀ (i : Nat) (k : Option IntKind), ks[i]? = some k → ∃ v, cs[off + i]? = some v ∧ CellIs k v
  | [], off, ks, hks, _, i, k, hk => by
    simp only [flatFields, Option.some.injEq] at hks
    subst hks
    simp at hk
  | f :: fs, off, ks, hks, hf, i, k, hk => by
    simp only [flatFields] at hks
    split at hks
    · rename_i l hl
      split at hks
      · rename_i hc
        obtain ⟨r, hr, rfl⟩ := Option.map_eq_some_iff.1 hks
        by_cases hi : i < l.length
        · rw [List.getElem?_append_left hi] at hk
          have := hf f List.mem_cons_self l hl hc.2 i k hk
          rwa [hc.1] at this
        · rw [List.getElem?_append_right (by omega)] at hk
          have := flat_fields fs (off + l.length) r hr (fun g hg => hf g (List.mem_cons_of_mem _ hg)) (i - l.length) k hk
          rwa [show off + l.length + (i - l.length) = off + i from by omega] at this
      · cases hks
    · cases hks

theorem take_drop_get {cs : List Value} {a n j : Nat} {v : Value} (h : ((cs.drop a).take n)[j]? = some v) : cs[a + j]? = some v := by
  rw [List.getElem?_take] at h
  split at h
  · rwa [List.getElem?_drop] at h
  · cases h

/-- what is read of a flat type: each cell is of its kind -/
theorem trod_flat : ∀ (fuel n : Nat) (t : TypeId) (cs : List Value) (x : DataW H × List MemPlace) (ks : List (Option IntKind)), DataW.trod enc P w base spare held fuel t cs = some x → flatKinds P n t = some ks →
    ∀ (i : Nat) (k : Option IntKind), ks[i]? = some k → ∃ v, cs[i]? = some v ∧ CellIs k v
  | 0, _, _, _, _, _, h, _ => by simp [DataW.trod] at h
  | fuel + 1, 0, _, _, _, _, _, hk => by simp [flatKinds] at hk
  | fuel + 1, n + 1, t, cs, x, ks, h, hks => by
    intro i k hk
    unfold flatKinds at hks
    split at hks
    · rename_i hu
      simp only [Option.some.injEq] at hks
      subst hks
      unfold DataW.trod at h
      rw [hu] at h
      match cs, h with
      | [.bool b], _ =>
        match i, hk with
        | 0, hk => simp at hk; subst hk; exact ⟨_, rfl, b, rfl⟩
        | i + 1, hk => simp at hk
    · rename_i q hu
      simp only [Option.some.injEq] at hks
      subst hks
      unfold DataW.trod at h
      rw [hu] at h
      match cs, h with
      | [.int k' z], h =>
        simp only at h
        split at h
        · rename_i hc
          match i, hk with
          | 0, hk => simp at hk; subst hk; exact ⟨_, rfl, z, by rw [hc.1], hc.2⟩
          | i + 1, hk => simp at hk
        · cases h
    · rename_i fs hu
      obtain ⟨xs, m, hm, _, hcl, _, hf⟩ := DataW.trod_struct hu h
      obtain rfl : fuel = m := by omega
      have := flat_fields (cs := cs) fs.toList 0 ks hks (fun f hfm l hl hlc j k' hk' => by
        obtain ⟨i', hi', hfi⟩ := List.getElem_of_mem hfm
        have hfi' : fs[i']? = some f := by rw [← Array.getElem?_toList, List.getElem?_eq_getElem hi', hfi]
        have ht := hf i' f hfi'
        have hlt : i' < xs.length := by have : i' < fs.size := by simpa using hi'
                                        omega
        rw [List.getElem?_eq_getElem hlt] at ht
        obtain ⟨v, hv, hc⟩ := trod_flat fuel n f.type _ _ l ht hl j k' hk'
        exact ⟨v, take_drop_get hv, hc⟩) i k hk
      simpa using this
    · rename_i m e hu
      split at hks
      · rename_i l hl
        split at hks
        · rename_i hlc
          simp only [Option.some.injEq] at hks
          subst hks
          unfold DataW.trod at h
          rw [hu] at h
          have h2 : ∃ xs, (List.range m).mapM (fun i => DataW.trod enc P w base spare held fuel e ((cs.drop (i * P.cellsOf e)).take (P.cellsOf e))) = some xs := by
            split at h <;> simp_all
            obtain ⟨_, xs, hx, _⟩ := h
            exact ⟨xs, hx⟩
          obtain ⟨xs, hx⟩ := h2
          have := flat_rep (l := l) (cs := cs) m 0 (fun i' hi' j k' hk' => by
            have hg := mapM_some_get hx i' i' (by simp [hi'])
            have hlen := mapM_some_length hx
            have hlt : i' < xs.length := by simpa [hlen] using hi'
            rw [List.getElem?_eq_getElem hlt] at hg
            obtain ⟨v, hv, hc⟩ := trod_flat fuel n e _ _ l hg hl j k' hk'
            refine ⟨v, ?_, hc⟩
            rw [hlc]
            simpa using take_drop_get hv) i k hk
          simpa using this
        · cases hks
      · cases hks
    · cases hks

/-- an argument of a struct's or an array's type is an aggregate of so many cells -/
theorem arg_agg {r : Reach} {b0 : Nat} {t : TypeId} {v : Value} (hu : (match P.underlying t with | some (.struct _) | some (.array _ _) => true | _ => false) = true) (hv : Value.okWide P w r b0 t v) :
    ∃ cs : Array Value, v = .agg cs ∧ cs.size = P.cellsOf t := by
  unfold Value.okWide at hv
  split at hv
  · obtain ⟨cs, h1, h2, _⟩ := hv; exact ⟨cs, h1, h2⟩
  · obtain ⟨cs, h1, h2, _⟩ := hv; exact ⟨cs, h1, h2⟩
  · rename_i h1 h2
    split at hu
    · rename_i q hq; exact absurd hq (h1 q)
    · rename_i q r hq; exact absurd hq (h2 q r)
    · cases hu
/-- ... each of its cells is of its kind -/
theorem open_flat {r : Reach} {b0 : Nat} {t : TypeId} {v : Value} {d : DataW H} {p : List MemPlace} (n : Nat) {ks : List (Option IntKind)} (hu : (match P.underlying t with | some (.struct _) | some (.array _ _) => true | _ => false) = true)
    (hks : flatKinds P n t = some ks) (hv : Value.okWide P w r b0 t v) (h : DataW.Trod enc P w base spare held t v d p) :
    ∃ cs : Array Value, v = .agg cs ∧ cs.size = P.cellsOf t ∧ ∀ (i : Nat) (k : Option IntKind), ks[i]? = some k → ∃ u, cs[i]? = some u ∧ CellIs k u := by
  obtain ⟨cs, rfl, hs⟩ := arg_agg hu hv
  obtain ⟨fuel, hf⟩ := h
  refine ⟨cs, rfl, hs, fun i k hk => ?_⟩
  obtain ⟨u, h1, h2⟩ := trod_flat fuel n t _ _ ks hf hks i k hk
  exact ⟨u, by simpa [Value.cells] using h1, h2⟩
/-- a slice of a flat type: each cell of each element is of its kind -/
theorem open_slice_flat {t e : TypeId} {v : Value} {d : DataW H} {p : List MemPlace} (n : Nat) {ks : List (Option IntKind)} (ht : P.underlying t = some (.slice e)) (hks : flatKinds P n e = some ks) (hone : v.cells.toList = [v])
    (h : DataW.Trod enc P w base spare held t v d p) (_hlt : ∀ x ∈ p, x.block < w.heap.size) (hpos : 0 < P.cellsOf e) :
    v = .slice none 0 0 ∨ ∃ (a : Addr) (len cap : Nat), v = .slice (some a) len cap ∧ len ≤ cap ∧ cap ≤ maxLen ∧ (0 < len → a.block < w.heap.size) ∧
      ∀ i, i < len → ∀ (j : Nat) (k : Option IntKind), ks[j]? = some k → ∃ u, w.cell? (a.add (i * P.cellsOf e + j)) = some u ∧ CellIs k u := by
  obtain ⟨fuel, hf⟩ := h
  rw [hone] at hf
  rcases Deep.open_slice ht hf with ⟨h0, _⟩ | ⟨a, len, cap, m, n', D, Pl, hcs, hb, hl, hm, hmm, hx, hi⟩
  · left; simpa using h0
  · right
    refine ⟨a, len, cap, by simpa using hcs, hl, hm, ?_, ?_⟩
    · intro hpos'
      have hml : len ≤ m := by rw [hmm]; split <;> omega
      obtain ⟨cs', hc, _⟩ := hi 0 (by omega)
      obtain ⟨_, hcl, hat⟩ := World.cells?_some hc
      have h0 := hat 0 (by omega)
      have h1 : cs'[0]? = some (cs'[0]'(by omega)) := List.getElem?_eq_getElem (by omega)
      rw [h1] at h0
      have := block_lt_of_cell h0
      simpa [Addr.add] using this
    · intro i hil j k hk
      have hml : len ≤ m := by rw [hmm]; split <;> omega
      obtain ⟨cs', hc, ht'⟩ := hi i (by omega)
      obtain ⟨u, hu, hcell⟩ := trod_flat n' n e cs' _ ks ht' hks j k hk
      obtain ⟨_, hcl, hat⟩ := World.cells?_some hc
      have hj : j < P.cellsOf e := by
        have := (List.getElem?_eq_some_iff.1 hu).1
        omega
      have := hat j hj
      rw [← Go.Deep.add_add, this, hu]
      exact ⟨u, rfl, hcell⟩

/-- a slice's elements, cell by cell, are of their kinds -/
def FlatAt (W : World) (ks : List (Option IntKind)) (A : Option Addr) (len : Nat) : Prop :=
  0 < len → ∃ B o, A = some ⟨B, o, none⟩ ∧ B < W.heap.size ∧ ∀ i, i < len → ∀ (j : Nat) (k : Option IntKind), ks[j]? = some k → ∃ u, W.cell? ⟨B, o + i * ks.length + j, none⟩ = some u ∧ CellIs k u
theorem open_slice_at {t e : TypeId} {v : Value} {d : DataW H} {p : List MemPlace} (n : Nat) {ks : List (Option IntKind)} (ht : P.underlying t = some (.slice e)) (hks : flatKinds P n e = some ks) (hlen : P.cellsOf e = ks.length) (hpos : 0 < ks.length) (hone : v.cells.toList = [v])
    (h : DataW.Trod enc P w base spare held t v d p) (hlt : ∀ x ∈ p, x.block < w.heap.size) :
    ∃ (A : Option Addr) (len cap : Nat), v = .slice A len cap ∧ len ≤ cap ∧ cap ≤ maxLen ∧ FlatAt w ks A len := by
  rcases open_slice_flat n ht hks hone h hlt (by omega) with rfl | ⟨a, len, cap, rfl, hl, hm, hb, hc⟩
  · exact ⟨none, 0, 0, rfl, Nat.le_refl _, by unfold maxLen; omega, fun h => absurd h (by omega)⟩
  · refine ⟨some a, len, cap, rfl, hl, hm, fun hp => ?_⟩
    obtain ⟨u, hu, _⟩ := hc 0 hp 0 (ks[0]'(by omega)) (List.getElem?_eq_getElem (by omega))
    have hs : a.spot = none := by
      have h0 : a.add (0 * P.cellsOf e + 0) = a := by simp [Addr.add]
      rw [h0] at hu
      unfold World.cell? at hu
      split at hu
      · split at hu
        · cases hu
        · simpa using ‹¬ a.spot.isSome = true›
      · cases hu
    obtain ⟨B, o, s⟩ := a
    simp only at hs
    subst hs
    refine ⟨B, o, rfl, hb hp, fun i hi j k hk => ?_⟩
    obtain ⟨u, hu, hk'⟩ := hc i hi j k hk
    refine ⟨u, ?_, hk'⟩
    rw [← hlen]
    have e1 : (⟨B, o, none⟩ : Addr).add (i * P.cellsOf e + j) = ⟨B, o + (i * P.cellsOf e + j), none⟩ := by
      unfold Addr.add
      split
      · rename_i h0; rw [h0]; rfl
      · rfl
    rw [e1] at hu
    rw [show o + i * P.cellsOf e + j = o + (i * P.cellsOf e + j) from by omega]
    exact hu
/-- an argument of a slice's type is one cell -/
theorem arg_slice {r : Reach} {b0 : Nat} {t e : TypeId} {v : Value} (ht : P.underlying t = some (.slice e)) (hv : Value.okWide P w r b0 t v) : v.cells.toList = [v] := by
  unfold Value.okWide at hv
  rw [ht] at hv
  simp only at hv
  unfold Cell.okWide at hv
  rw [ht] at hv
  cases v <;> first | rfl | (simp [Cell.ok, ht] at hv)
/-- a block of numbers is a slice of structs of numbers -/
theorem flatAt_of {W : World} {g : Nat} {T : TypeId} {l : List Int} {n len : Nat} (hg : W.heap[g]? = some (.cells (l.map fun x => Value.int .i64 x).toArray T (0, 0))) (hl : len * n ≤ l.length) (hwf : ∀ x ∈ l, (Lit.int .i64 x).wf = true) :
    FlatAt W (List.replicate n (some .i64)) (some ⟨g, 0, none⟩) len := by
  intro _
  refine ⟨g, 0, rfl, heap_lt hg, fun i hi j k hk => ?_⟩
  have hj : j < n := by have := (List.getElem?_eq_some_iff.1 hk).1; simpa using this
  have hk' : k = some .i64 := by
    rw [List.getElem?_replicate, if_pos hj] at hk
    exact (Option.some.inj hk).symm
  subst hk'
  rw [List.length_replicate]
  have hlt : 0 + i * n + j < l.length := by
    have : (i + 1) * n ≤ len * n := Nat.mul_le_mul_right _ hi
    rw [Nat.succ_mul] at this
    omega
  refine ⟨.int .i64 l[0 + i * n + j], ?_, _, rfl, hwf _ (List.getElem_mem hlt)⟩
  simp [World.cell?, hg, List.getElem?_eq_getElem (show i * n + j < l.length by omega)]
end
end Go.Proofs.YtmnpccpfejgkmaaGreat

/-
  What the texts of JudgeKnown stand on. No condition.
-/
