/-
  Contract: frame.Check, of any table.
-/
import Derived.Test.YtljcndcmdphmgaaFrameIter
import Derived.RangeFuncFrom
import Derived.RangeFuncBox
namespace Go.Proofs.Ytljcndcmdphmgaa
open Go.RowKit Go.Shelf
attribute [local go_sem] Oper.semAt_some
/-- what the iterator may hand on -/
abbrev PgX (L : List Pg) := { x : Int × Pg // x ∈ pgFrom L 0 }
theorem kept2_b {a b : Nat} {w : World} (ha : a < w.heap.size) (hb : b < w.heap.size) (W : World) (l : Nat) (o o' : Obj) (hl : w.heap.size ≤ l) (h : W.heap[l]? = some o) (_ : o.isCells = false) (_ : o.isWalk = false) : Kept2 a b W (W.putObj l o') := by
  have h1 := (Array.getElem?_eq_some_iff.1 h).1
  exact ⟨(grownBy_putObj' W l o').size, World.putObj_heap_other (by omega), World.putObj_heap_other (by omega)⟩
theorem blocks_in (n : Nat) (A : Option Addr) (k c : Nat) (w : World) :
    CallsIn Fence.wide n Try.prog 51 #[.slice A k c] w fun e w' => e = .returned (.func (.func 85) #[] #[.pointer (some ⟨w.heap.size, 0, none⟩)]) ∧ w' = w.alloc (.cells #[.slice A k c] 22) := by
  refine callsIn_of_wp Try.func51 rfl trivial ?_ rfl
  simp only [Try.ntmps51, List.size_toArray, List.length_cons, List.length_nil, Nat.reduceAdd, Nat.reduceSub, Array.replicate_succ, Array.replicate_zero, List.push_toArray, List.append_toArray, List.nil_append, List.cons_append]
  gi_wp2
  go_ret
  exact ⟨rfl, rfl⟩
theorem blocks_stops (n : Nat) (hn : 3 ≤ n) (Bn g o c : Nat) (L : List Pg) (hL : L.length ≤ 60000) (hLc : L.length ≤ c) (hcm : c ≤ 9223372036854775807) (w : World)
    (hc : w.cell? ⟨Bn, 0, none⟩ = some (.slice (some ⟨g, o, none⟩) L.length c)) (hA : PgAt w g o L) :
    SeqStopsK Fence.wide n Try.prog 85 #[.pointer (some ⟨Bn, 0, none⟩)] (fun x : PgX L => pgEnc x.1) (Kept2 Bn g) (fun ys => ys.map (·.1) = pgFrom L 0) (fun pre => pre.map (·.1) <+: pgFrom L 0) (L.length + 1) w := by
  intro l J Jx W hW aJ aJx hY h0
  have kk : Kept2 Bn g w W := Kept2.below hW (cell_lt hc) hA.1
  refine (blocks1_in n hn l Bn g o c L hL hLc hcm (fun pre W => ∃ ys : List (PgX L), ys.map (·.1) = pre ∧ J ys W) (fun pre W => ∃ ys : List (PgX L), ys.map (·.1) = pre ∧ Jx ys W) W ?_ ?_ ?_ (kk.cell hc) (kk.pg hA) ⟨[], rfl, h0⟩).mono ?_
  · rintro s A B row ⟨ys, hy, hj⟩ hg hr
    exact ⟨ys, hy, aJ ys A B row hj hg hr⟩
  · rintro s A B row ⟨ys, hy, hj⟩ hg hr
    exact ⟨ys, hy, aJx ys A B row hj hg hr⟩
  · rintro pre x W1 ⟨ys, rfl, hj⟩ hlen hx
    refine YieldAt.mono (hY ys ⟨x, hx⟩ W1 hj (by simpa using hlen)) ?_
    rintro e W' (⟨rfl, hj', hk⟩ | ⟨rfl, hj'⟩)
    · exact .inl ⟨rfl, ⟨_, by simp, hj'⟩, hk⟩
    · exact .inr ⟨rfl, ⟨_, by simp, hj'⟩⟩
  · rintro e W' ⟨hv, (⟨_, rfl, ys, hy, hj⟩ | ⟨_, hp, ys, rfl, hj⟩)⟩
    · exact ⟨hv, .inl ⟨ys, hy, hj⟩⟩
    · exact ⟨hv, .inr ⟨ys, hp, hj⟩⟩
theorem blocks_stopsN (n : Nat) (hn : 3 ≤ n) (Bn g o c N : Nat) (L : List Pg) (hN : L.length = N) (hL : N ≤ 60000) (hLc : N ≤ c) (hcm : c ≤ 9223372036854775807) (w : World)
    (hc : w.cell? ⟨Bn, 0, none⟩ = some (.slice (some ⟨g, o, none⟩) N c)) (hA : PgAt w g o L) :
    SeqStopsK Fence.wide n Try.prog 85 #[.pointer (some ⟨Bn, 0, none⟩)] (fun x : PgX L => pgEnc x.1) (Kept2 Bn g) (fun ys => ys.map (·.1) = pgFrom L 0) (fun pre => pre.map (·.1) <+: pgFrom L 0) (N + 1) w := by
  subst hN
  exact blocks_stops n hn Bn g o c L hL hLc hcm w hc hA
def AllNN {L : List Pg} (pre : List (PgX L)) : Prop := ∀ y ∈ pre, 0 ≤ y.1.1
def SomeNeg {L : List Pg} (pre : List (PgX L)) : Prop := ∃ y ∈ pre, y.1.1 < 0
def tabOk (L : List Pg) : Bool := (pgFrom L 0).all fun x => decide (0 ≤ x.1)
/-- what Check answers -/
def pgCheck (L : List Pg) : Int := if 1 ≤ L.length ∧ L.length ≤ 1024 ∧ tabOk L = true then 0 else 50
theorem pgCheck_yes {L : List Pg} (h1 : 1 ≤ L.length) (h2 : L.length ≤ 1024) (h : ∀ x ∈ pgFrom L 0, 0 ≤ x.1) : pgCheck L = 0 := by
  unfold pgCheck
  rw [if_pos ⟨h1, h2, by unfold tabOk; rw [List.all_eq_true]; intro x hx; exact decide_eq_true (h x hx)⟩]
theorem pgCheck_no {L : List Pg} {x : Int × Pg} (h : x ∈ pgFrom L 0) (hx : x.1 < 0) : pgCheck L = 50 := by
  unfold pgCheck
  rw [if_neg]
  rintro ⟨_, _, h3⟩
  unfold tabOk at h3
  rw [List.all_eq_true] at h3
  have := of_decide_eq_true (h3 x h)
  omega
set_option maxRecDepth 100000 in
set_option maxHeartbeats 2000000 in
theorem check_loop (g o c N : Nat) (L : List Pg) (hN : Hid (L.length = N)) (hL1 : 1 ≤ N) (hL : N ≤ 1024) (hLc : N ≤ c) (hcm : c ≤ 9223372036854775807) (w : World) (hA : PgAt w g o L) :
    CallsIn Fence.wide 10 Try.prog 16 #[.slice (some ⟨g, o, none⟩) N c] w fun e W' => e = .returned (.int .i64 (pgCheck L)) ∧ Below w.heap.size w W' := by
  have hn0 : ((N : Int) == 0) = false := by rw [beq_eq_false_iff_ne]; omega
  have hn2 : decide (1024 < (N : Int)) = false := decide_eq_false (by omega)
  refine callsIn_of_wp_marks Try.func16 rfl trivial ?_ rfl
  simp only [Try.ntmps16, List.size_toArray, List.length_cons, List.length_nil, Nat.reduceAdd, Nat.reduceSub, Array.replicate_succ, Array.replicate_zero, List.push_toArray, List.append_toArray, List.nil_append, List.cons_append]
  have hw : Fence.wide.fn 51 := trivial
  have hn1 : 1 ≤ 10 := by omega
  gi_wp2_with (gi_at_call 51; refine (blocks_in 9 _ _ _ _).mono ?_; rintro e w' ⟨rfl, rfl⟩)
  have b0 := (Boxed.new w 26 (.int .i64 0)).alloc (.cells #[.slice (some ⟨g, o, none⟩) N c] 22)
  have b1 := Boxed.new (w.alloc (.cells #[.int .i64 0] 26)) 22 (.slice (some ⟨g, o, none⟩) N c)
  simp only [World.size_alloc] at b1
  have hB0 : Below w.heap.size w ((w.alloc (.cells #[.int .i64 0] 26)).alloc (.cells #[.slice (some ⟨g, o, none⟩) N c] 22)) := ((Below.refl _ w).alloc (Nat.le_refl _) _).alloc (by simp) _
  have hgl := hA.1
  have hk0 : Kept2 g g w _ := Kept2.below hB0 hgl hgl
  have hA0 := hk0.pg hA
  have hsz : ((w.alloc (.cells #[.int .i64 0] 26)).alloc (.cells #[.slice (some ⟨g, o, none⟩) N c] 22)).heap.size = w.heap.size + 2 := by simp
  obtain ⟨W0, hW0⟩ : ∃ W0, (w.alloc (.cells #[.int .i64 0] 26)).alloc (.cells #[.slice (some ⟨g, o, none⟩) N c] 22) = W0 := ⟨_, rfl⟩
  rw [hW0] at b0 b1 hB0 hsz hk0 hA0 ⊢
  clear hW0
  refine wpIn_rangeFunc_ownF rfl hn1 (gf := 85) (lb := #[.pointer (some ⟨w.heap.size + 1, 0, none⟩)]) rfl trivial (enters_of Try.func85 (by kernel_rfl) rfl)
    (blocks_stopsN 9 (by omega) (w.heap.size + 1) g o c N L hN.out (by omega) hLc hcm W0 b1.cell hA0) (fun h k => h.trans k) (kept2_b (by omega) (by omega)) (Below.refl _ _) (fun _ => rfl)
    (fun pre W => (AllNN pre ∧ Boxed W w.heap.size 26 (.int .i64 0)) ∧ Below w.heap.size w W)
    (fun c pre W => (c = .ret ∧ SomeNeg pre ∧ Boxed W w.heap.size 26 (.int .i64 50)) ∧ Below w.heap.size w W)
    (OwnFrom.and (OwnFrom.and (ownFrom_pure _ _) (Own.from (boxed_own _ _ _) _)) (ownFrom_below (Nat.le_refl _) (by omega)))
    (fun c => OwnFrom.and (OwnFrom.and (ownFrom_pure _ _) (OwnFrom.and (ownFrom_pure _ _) (Own.from (boxed_own _ _ _) _))) (ownFrom_below (Nat.le_refl _) (by omega)))
    ⟨⟨fun y hy => by simp at hy, b0⟩, hB0⟩
    (fun x => { tmps := #[.slice (some ⟨g, o, none⟩) N c, undef, .pointer (some ⟨w.heap.size, 0, none⟩), .int .i64 x.1.1, .slice (some ⟨g, o, none⟩) N c, .int .i64 N, .bool false, .bool false, .slice (some ⟨g, o, none⟩) N c, .int .i64 N, .bool false, .bool false, .slice (some ⟨g, o, none⟩) N c, .func (.func 85) #[] #[.pointer (some ⟨w.heap.size + 1, 0, none⟩)], .int .i64 x.1.1, .agg #[.int .i64 x.1.2.1, .int .i64 x.1.2.2.1, .int .i64 x.1.2.2.2], undef, undef], defers := [] }) ?assign ?body ?done ?stop
  case assign =>
    intro l x W K hK
    gi_wp2
    exact hK
  case body =>
    rintro l pre x W ⟨⟨hp, hb⟩, hB⟩ _
    have hc := hb.cell
    have hf := hb.frozen
    by_cases hx : x.1.1 < 0
    · gi_wp2
      exact ⟨KeepsOthers.setCell _ _ _, ⟨rfl, ⟨x, by simp, hx⟩, hb.set _⟩, hB.setCell (p := ⟨w.heap.size, 0, none⟩) (by simp) _⟩
    · gi_wp2
      exact ⟨KeepsOthers.refl _, Kept2.refl _ _ _, ⟨fun y hy => (List.mem_append.1 hy).elim (hp y) (fun h => by simp at h; subst h; omega), hb⟩, hB⟩
  case done =>
    rintro D ys W hD hys ⟨⟨hne, hb⟩, hB⟩ hK
    have hc := hb.cell
    have hf := hb.frozen
    gi_wp2
    have hb' := hb.set (.int .i64 0)
    have hK' := (KeepsOthers.setCell W ⟨w.heap.size, 0, none⟩ (.int .i64 0)).same D _ hK rfl
    refine ⟨by simp, .inl ⟨_, _, rfl, run_takeDeferred hK', ?_⟩⟩
    have hc5 := cell_kept hb'.cell (grownBy_putObj' _ D (.deferred none)) (fun r e => by cases e; exact ⟨_, hK', rfl⟩)
    have hall : ∀ x ∈ pgFrom L 0, 0 ≤ x.1 := fun x hx => by
      rw [← hys] at hx
      obtain ⟨y, hy, rfl⟩ := List.mem_map.1 hx
      exact hne y hy
    refine ⟨.int .i64 0, ?_, by rw [pgCheck_yes (by rw [hN.out]; exact hL1) (by rw [hN.out]; exact hL) hall], (hB.setCell (p := ⟨w.heap.size, 0, none⟩) (by simp) _).trans (belowK_b (w := w) (Nat.le_refl _) _ D _ _ (by omega) hK' rfl rfl)⟩
    simp [results, Try.f16, go_sem, hc5]
  case stop =>
    rintro D c pre W hD hpre ⟨⟨rfl, ⟨y, hy, hy0⟩, hb⟩, hB⟩ hK
    have hc := hb.cell
    have hf := hb.frozen
    gi_wp2
    refine ⟨by simp, .inl ⟨_, _, rfl, run_takeDeferred hK, ?_⟩⟩
    have hc5 := cell_kept hc (grownBy_putObj' _ D (.deferred none)) (fun r e => by cases e; exact ⟨_, hK, rfl⟩)
    refine ⟨.int .i64 50, ?_, by rw [pgCheck_no (hpre.subset (List.mem_map_of_mem hy)) hy0], hB.trans (belowK_b (w := w) (Nat.le_refl _) W D _ _ (by omega) hK rfl rfl)⟩
    simp [results, Try.f16, go_sem, hc5]
end Go.Proofs.Ytljcndcmdphmgaa
