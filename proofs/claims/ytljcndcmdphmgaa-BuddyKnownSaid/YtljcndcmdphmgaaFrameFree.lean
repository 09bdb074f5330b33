/-
  Contract: frame.Free, of any table: the loop over a table that may be.
-/
import Derived.Test.YtljcndcmdphmgaaFrameHead
namespace Go.Proofs.Ytljcndcmdphmgaa
open Go.RowKit Go.Shelf
attribute [local go_sem] Oper.semAt_some
/-- the pages of free blocks -/
def pgFreeIn (l : List (Int × Pg)) : Int := (l.map fun y => if y.2.1 = 0 then (pgSize y.2 : Int) else 0).sum
theorem pgFreeIn_snoc (l : List (Int × Pg)) (x : Int × Pg) : pgFreeIn (l ++ [x]) = pgFreeIn l + if x.2.1 = 0 then (pgSize x.2 : Int) else 0 := by simp [pgFreeIn]
theorem kept2_set {a b p : Nat} (W : World) (v : Value) (ha : a ≠ p) (hb : b ≠ p) : Kept2 a b W (W.setCell ⟨p, 0, none⟩ v).drew :=
  ⟨by simp [World.drew], Below.heap_setCell W ⟨p, 0, none⟩ v a ha, Below.heap_setCell W ⟨p, 0, none⟩ v b hb⟩
def FreeIs {L : List Pg} (pre : List (PgX L)) (n : Int) : Prop := pgFreeIn (pre.map (·.1)) = n ∧ 0 ≤ n ∧ n ≤ pre.length * 1024
/-- what Free answers -/
def pgFree (L : List Pg) : Int := if pgCheck L = 0 then pgFreeIn (pgFrom L 0) else 0
theorem pgCheck_zero {L : List Pg} (h : pgCheck L = 0) : 1 ≤ L.length ∧ L.length ≤ 1024 ∧ ∀ x ∈ pgFrom L 0, 0 ≤ x.1 := by
  unfold pgCheck at h
  split at h
  · rename_i h'
    refine ⟨h'.1, h'.2.1, fun x hx => ?_⟩
    have := h'.2.2
    unfold tabOk at this
    rw [List.all_eq_true] at this
    exact of_decide_eq_true (this x hx)
  · omega
set_option maxRecDepth 100000 in
set_option maxHeartbeats 4000000 in
theorem free_in (g o c N : Nat) (L : List Pg) (hN : Hid (L.length = N)) (hL1 : 1 ≤ N) (hL : N ≤ 1024) (hLc : N ≤ c) (hcm : c ≤ 9223372036854775807) (hT : Hid (∀ x ∈ pgFrom L 0, 0 ≤ x.1)) (hCk : Hid (pgCheck L = 0)) (w : World) (hA : PgAt w g o L) :
    CallsIn Fence.wide 20 Try.prog 19 #[.slice (some ⟨g, o, none⟩) N c] w fun e W' => e = .returned (.int .i64 (pgFree L)) ∧ Below w.heap.size w W' := by
  refine callsIn_of_wp_marks Try.func19 rfl trivial ?_ rfl
  simp only [Try.ntmps19, List.size_toArray, List.length_cons, List.length_nil, Nat.reduceAdd, Nat.reduceSub, Array.replicate_succ, Array.replicate_zero, List.push_toArray, List.append_toArray, List.nil_append, List.cons_append]
  have hw : Fence.wide.fn 51 := trivial
  have hw2 : Fence.wide.fn 16 := trivial
  have hn1 : 1 ≤ 20 := by omega
  have b0 := Boxed.new w 3 (.int .i64 0)
  obtain ⟨w1, hw1⟩ : ∃ w1, w.alloc (.cells #[.int .i64 0] 3) = w1 := ⟨_, rfl⟩
  have hz1 : w1.heap.size = w.heap.size + 1 := by rw [← hw1]; simp
  have hb1 : Below w.heap.size w w1 := by rw [← hw1]; exact (Below.refl _ w).alloc (Nat.le_refl _) _
  have hA1 : PgAt w1 g o L := (Kept2.below hb1 hA.1 hA.1).pg hA
  rw [hw1] at b0
  gi_wp2_with (first | (gi_at_call 16; refine (callsIn_wide.2 (callsIn_wide.1 (check_loop g o c N L hN hL1 hL hLc hcm w1 hA1))).mono ?_; rintro e w2 ⟨rfl, hb2⟩; rw [hCk.out]) | (gi_at_call 51; refine (blocks_in _ _ _ _ _).mono ?_; rintro e w' ⟨rfl, rfl⟩))
  clear hw1
  have hz2 := hb2.size
  have bN : Boxed w2 w.heap.size 3 (.int .i64 0) := (hb2.block _ (by omega)).trans b0
  have b0 := bN.alloc (.cells #[.slice (some ⟨g, o, none⟩) N c] 22)
  have b1 := Boxed.new w2 22 (.slice (some ⟨g, o, none⟩) N c)
  have hB0 : Below w.heap.size w (w2.alloc (.cells #[.slice (some ⟨g, o, none⟩) N c] 22)) := (hb1.trans (hb2.mono (by omega))).alloc (by omega) _
  have hgl := hA.1
  have hA0 := (Kept2.below hB0 hgl hgl).pg hA
  have hsz : (w2.alloc (.cells #[.slice (some ⟨g, o, none⟩) N c] 22)).heap.size = w2.heap.size + 1 := by simp
  obtain ⟨W0, hW0⟩ : ∃ W0, w2.alloc (.cells #[.slice (some ⟨g, o, none⟩) N c] 22) = W0 := ⟨_, rfl⟩
  rw [hW0] at b0 b1 hB0 hsz hA0 ⊢
  clear hW0 bN
  obtain ⟨Bn, hBn⟩ : ∃ Bn, w2.heap.size = Bn := ⟨_, rfl⟩
  rw [hBn] at b1 hsz hz2 ⊢
  refine wpIn_rangeFunc_ownH rfl hn1 (gf := 85) (lb := #[.pointer (some ⟨Bn, 0, none⟩)]) rfl trivial (enters_of Try.func85 (by kernel_rfl) rfl)
    (blocks_stopsN 19 (by omega) Bn g o c N L hN.out (by omega) hLc hcm W0 b1.cell hA0) (fun h k => h.trans k) (kept2_b (by omega) (by omega)) (Below.refl _ _) (fun _ => rfl)
    (fun pre W => (∃ k, FreeIs pre k ∧ Boxed W w.heap.size 3 (.int .i64 k) ∧ W0.heap.size ≤ W.heap.size) ∧ Below w.heap.size w W)
    (fun c pre W => False)
    (OwnFrom.and (fun s X Y row hs hg hr => by obtain ⟨v, h1, h2, h3⟩ := hs; exact ⟨v, h1, boxed_own _ _ (fun (_ : Unit) => Value.int .i64 v) () X Y row h2 hg (fun r e => (hr r e).2), Nat.le_trans h3 hg.size⟩) (ownFrom_below (Nat.le_refl _) (by omega)))
    (fun c => ownFrom_pure _ (fun _ => False))
    ⟨⟨0, ⟨rfl, by omega, by simp⟩, b0, Nat.le_refl _⟩, hB0⟩
    (fun x a' W => ∃ Bx, w.heap.size < Bx ∧ Box3 W Bx 24 x.1.2 ∧ a' = { tmps := #[.slice (some ⟨g, o, none⟩) N c, undef, .pointer (some ⟨w.heap.size, 0, none⟩), undef, .pointer (some ⟨Bx, 0, none⟩), .slice (some ⟨g, o, none⟩) N c, .int .i64 0, .bool false, .slice (some ⟨g, o, none⟩) N c, .func (.func 85) #[] #[.pointer (some ⟨Bn, 0, none⟩)], .int .i64 x.1.1, .agg #[.int .i64 x.1.2.1, .int .i64 x.1.2.2.1, .int .i64 x.1.2.2.2], undef, undef, undef, undef, undef, undef, undef, undef, undef], defers := [] })
    (fun x a' s X Y row hs hg hr => by obtain ⟨Bx, h1, h2, h3⟩ := hs; exact ⟨Bx, h1, box3_own Bx _ x.1.2 _ () X Y row h2 hg hr, h3⟩)
    ?assign ?body ?done ?stop
  case assign =>
    rintro l pre x W K ⟨⟨k, hk, hb, hge⟩, hB⟩ hK
    gi_wp2
    exact hK _ _ ((KeepsOthers.alloc _ _).from _) (Kept2.below ((Below.refl _ W).alloc (Nat.le_refl _) _) (by omega) (by omega)) ⟨⟨k, hk, hb.alloc _, by simp; omega⟩, hB.alloc (by have := hB.size; omega) _⟩ ⟨W.heap.size, by omega, World.alloc_heap_new W _, rfl⟩
  case body =>
    rintro l pre x a' W hl ⟨r, hr⟩ ⟨⟨k, hk, hb, hge⟩, hB⟩ ⟨Bx, hBx, b3, rfl⟩ hlt
    obtain ⟨⟨at0, p0, p1, p2⟩, hxm⟩ := x
    obtain ⟨hpo, hple⟩ := tab_mem hT.out _ hxm
    have hpa := hT.out _ hxm
    rw [hN.out] at hple
    have hord := pgHead_order hpo
    simp only at hord hpa hple
    obtain ⟨s, rfl⟩ : ∃ s : Nat, p1 = (s : Int) := ⟨p1.toNat, by omega⟩
    have hpw : (2 : Nat) ^ s ≤ 2 ^ 10 := Nat.pow_le_pow_right (by omega) (by omega)
    have hmin : min s 64 = s := by omega
    obtain ⟨M, hM⟩ : ∃ M : Nat, 2 ^ s = M := ⟨_, rfl⟩
    have hMi : (2 : Int) ^ s = (M : Int) := by rw [← hM]; simp
    have hM1 : 1 ≤ M := by rw [← hM]; exact Nat.one_le_two_pow
    have hs0 : (0 : Int) ≤ s := by omega
    have hszx : pgSize (p0, ((s : Nat) : Int), p2) = M := by simp [pgSize, hM]
    have HSZ := Lib.hid hszx
    rw [hszx] at hple
    obtain ⟨hk1, hk2, hk3⟩ := hk
    have HK1 := Lib.hid hk1
    have hM2 : M ≤ 1024 := by omega
    have hpl : (pre.length : Int) ≤ N := by omega
    have hk4 : k ≤ 1048576 := by omega
    clear hM hszx hpw hk1
    obtain ⟨c0, c1, c2⟩ := b3.cells
    have cP := hb.cell
    have fR := hb.frozen
    simp only at c0 c1 c2 cP fR
    have hw1 : IntKind.i64.wrap (M : Int) = (M : Int) := by rw [IntWalk.i64_in] <;> omega
    have hw3 : IntKind.i64.wrap (k + M) = k + M := by rw [IntWalk.i64_in] <;> omega
    by_cases hp0 : p0 = 0
    · subst hp0
      have his : FreeIs (pre ++ [⟨(at0, 0, ((s : Nat) : Int), p2), hxm⟩]) (k + M) := by
        refine ⟨?_, by omega, by simp; omega⟩
        rw [List.map_append, List.map_cons, List.map_nil, pgFreeIn_snoc, HK1.out, HSZ.out]
        simp
      clear hord
      gi_wp2
      gi_region
      all_goals
        gi_wp2
        exact ⟨((KeepsOthers.setCell W ⟨w.heap.size, 0, none⟩ (.int .i64 (k + M))).trans (KeepsOthers.drew _)).from _, kept2_set W _ (by omega) (by omega), ⟨_, his, hb.set _, by simp [World.drew]; omega⟩, (hB.setCell (p := ⟨w.heap.size, 0, none⟩) (by simp) _).drew⟩
    · have hp0b : (p0 == 0) = false := beq_eq_false_iff_ne.2 hp0
      have his : FreeIs (pre ++ [⟨(at0, p0, ((s : Nat) : Int), p2), hxm⟩]) k := by
        refine ⟨?_, by omega, by simp; omega⟩
        rw [List.map_append, List.map_cons, List.map_nil, pgFreeIn_snoc, HK1.out, HSZ.out]
        simp [hp0]
      gi_wp2
      exact ⟨(KeepsOthers.refl _).from _, Kept2.refl _ _ _, ⟨k, his, hb, by omega⟩, hB⟩
  case done =>
    rintro D ys W hD hys ⟨⟨k, hk, hb, hge⟩, hB⟩ hK
    have hc := hb.cell
    have hf := hb.frozen
    gi_wp2
    have hb' := hb.set (.int .i64 k)
    have hK' := (KeepsOthers.setCell W ⟨w.heap.size, 0, none⟩ (.int .i64 k)).same D _ hK rfl
    refine ⟨by simp, .inl ⟨_, _, rfl, run_takeDeferred hK', ?_⟩⟩
    have hc5 := cell_kept hb'.cell (grownBy_putObj' _ D (.deferred none)) (fun r e => by cases e; exact ⟨_, hK', rfl⟩)
    have hh : pgFree L = k := by
      unfold pgFree
      rw [if_pos hCk.out, ← hys]
      exact hk.1
    refine ⟨.int .i64 k, ?_, by rw [hh], (hB.setCell (p := ⟨w.heap.size, 0, none⟩) (by simp) _).trans (belowK_b (w := w) (Nat.le_refl _) _ D _ _ (by omega) hK' rfl rfl)⟩
    simp [results, Try.f19, go_sem, hc5]
  case stop =>
    rintro D c pre W hD hpre h _
    exact h.elim
end Go.Proofs.Ytljcndcmdphmgaa
