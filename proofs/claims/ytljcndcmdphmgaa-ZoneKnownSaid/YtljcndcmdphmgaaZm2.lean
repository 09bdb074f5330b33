/-
  Texts of this claim, joined. No condition.
-/
import Derived.Test.YtljcndcmdphmgaaZm1
import Derived.RangeFuncFrom
import Derived.RangeFuncBox
import Derived.Deep.QuietTactic
import Derived.BigQuiet
/-
  Contract: frame.Check, of any table.
-/
namespace Go.Proofs.Ytljcndcmdphmgaa
open Go.RowKit Go.Shelf
attribute [local go_sem] Oper.semAt_some
/-- what the iterator may hand on -/
abbrev PgX (L : List Pg) := { x : Int × Pg // x ∈ pgFrom L 0 }
theorem kept2_b {a b : Nat} {w : World} (ha : a < w.heap.size) (hb : b < w.heap.size) (W : World) (l : Nat) (o o' : Obj) (hl : w.heap.size ≤ l) (h : W.heap[l]? = some o) (_ : o.isCells = false) (_ : o.isWalk = false) : Kept2 a b W (W.putObj l o') := by
  have h1 := (Array.getElem?_eq_some_iff.1 h).1
  exact ⟨(grownBy_putObj' W l o').size, World.putObj_heap_other (by omega), World.putObj_heap_other (by omega)⟩
theorem blocks_in (n : Nat) (A : Option Addr) (k c : Nat) (w : World) :
    CallsIn Fence.wide n Try.prog 51 #[.slice A k c] w fun e w' => e = .returned (.func (.func 85) #[] #[.pointer (some ⟨w.heap.size, 0, none⟩)]) ∧ w' = w.alloc (.cells #[.slice A k c] 22) := by
  refine callsIn_of_wp Try.func51 rfl trivial ?_ rfl
  simp only [Try.ntmps51, List.size_toArray, List.length_cons, List.length_nil, Nat.reduceAdd, Nat.reduceSub, Array.replicate_succ, Array.replicate_zero, List.push_toArray, List.append_toArray, List.nil_append, List.cons_append]
  gi_wp2
  go_ret
  exact ⟨rfl, rfl⟩
theorem blocks_stops (n : Nat) (hn : 3 ≤ n) (Bn g o c : Nat) (L : List Pg) (hL : L.length ≤ 60000) (hLc : L.length ≤ c) (hcm : c ≤ 9223372036854775807) (w : World)
    (hc : w.cell? ⟨Bn, 0, none⟩ = some (.slice (some ⟨g, o, none⟩) L.length c)) (hA : PgAt w g o L) :
    SeqStopsK Fence.wide n Try.prog 85 #[.pointer (some ⟨Bn, 0, none⟩)] (fun x : PgX L => pgEnc x.1) (Kept2 Bn g) (fun ys => ys.map (·.1) = pgFrom L 0) (fun pre => pre.map (·.1) <+: pgFrom L 0) (L.length + 1) w := by
  intro l J Jx W hW aJ aJx hY h0
  have kk : Kept2 Bn g w W := Kept2.below hW (cell_lt hc) hA.1
  refine (blocks1_in n hn l Bn g o c L hL hLc hcm (fun pre W => ∃ ys : List (PgX L), ys.map (·.1) = pre ∧ J ys W) (fun pre W => ∃ ys : List (PgX L), ys.map (·.1) = pre ∧ Jx ys W) W ?_ ?_ ?_ (kk.cell hc) (kk.pg hA) ⟨[], rfl, h0⟩).mono ?_
  · rintro s A B row ⟨ys, hy, hj⟩ hg hr
    exact ⟨ys, hy, aJ ys A B row hj hg hr⟩
  · rintro s A B row ⟨ys, hy, hj⟩ hg hr
    exact ⟨ys, hy, aJx ys A B row hj hg hr⟩
  · rintro pre x W1 ⟨ys, rfl, hj⟩ hlen hx
    refine YieldAt.mono (hY ys ⟨x, hx⟩ W1 hj (by simpa using hlen)) ?_
    rintro e W' (⟨rfl, hj', hk⟩ | ⟨rfl, hj'⟩)
    · exact .inl ⟨rfl, ⟨_, by simp, hj'⟩, hk⟩
    · exact .inr ⟨rfl, ⟨_, by simp, hj'⟩⟩
  · rintro e W' ⟨hv, (⟨_, rfl, ys, hy, hj⟩ | ⟨_, hp, ys, rfl, hj⟩)⟩
    · exact ⟨hv, .inl ⟨ys, hy, hj⟩⟩
    · exact ⟨hv, .inr ⟨ys, hp, hj⟩⟩
theorem blocks_stopsN (n : Nat) (hn : 3 ≤ n) (Bn g o c N : Nat) (L : List Pg) (hN : L.length = N) (hL : N ≤ 60000) (hLc : N ≤ c) (hcm : c ≤ 9223372036854775807) (w : World)
    (hc : w.cell? ⟨Bn, 0, none⟩ = some (.slice (some ⟨g, o, none⟩) N c)) (hA : PgAt w g o L) :
    SeqStopsK Fence.wide n Try.prog 85 #[.pointer (some ⟨Bn, 0, none⟩)] (fun x : PgX L => pgEnc x.1) (Kept2 Bn g) (fun ys => ys.map (·.1) = pgFrom L 0) (fun pre => pre.map (·.1) <+: pgFrom L 0) (N + 1) w := by
  subst hN
  exact blocks_stops n hn Bn g o c L hL hLc hcm w hc hA
def AllNN {L : List Pg} (pre : List (PgX L)) : Prop := ∀ y ∈ pre, 0 ≤ y.1.1
def SomeNeg {L : List Pg} (pre : List (PgX L)) : Prop := ∃ y ∈ pre, y.1.1 < 0
def tabOk (L : List Pg) : Bool := (pgFrom L 0).all fun x => decide (0 ≤ x.1)
/-- what Check answers -/
def pgCheck (L : List Pg) : Int := if 1 ≤ L.length ∧ L.length ≤ 1024 ∧ tabOk L = true then 0 else 50
theorem pgCheck_yes {L : List Pg} (h1 : 1 ≤ L.length) (h2 : L.length ≤ 1024) (h : ∀ x ∈ pgFrom L 0, 0 ≤ x.1) : pgCheck L = 0 := by
  unfold pgCheck
  rw [if_pos ⟨h1, h2, by unfold tabOk; rw [List.all_eq_true]; intro x hx; exact decide_eq_true (h x hx)⟩]
theorem pgCheck_no {L : List Pg} {x : Int × Pg} (h : x ∈ pgFrom L 0) (hx : x.1 < 0) : pgCheck L = 50 := by
  unfold pgCheck
  rw [if_neg]
  rintro ⟨_, _, h3⟩
  unfold tabOk at h3
  rw [List.all_eq_true] at h3
  have := of_decide_eq_true (h3 x h)
  omega
set_option maxRecDepth 100000 in
set_option maxHeartbeats 2000000 in
theorem check_loop (g o c N : Nat) (L : List Pg) (hN : Hid (L.length = N)) (hL1 : 1 ≤ N) (hL : N ≤ 1024) (hLc : N ≤ c) (hcm : c ≤ 9223372036854775807) (w : World) (hA : PgAt w g o L) :
    CallsIn Fence.wide 10 Try.prog 16 #[.slice (some ⟨g, o, none⟩) N c] w fun e W' => e = .returned (.int .i64 (pgCheck L)) ∧ Below w.heap.size w W' := by
  have hn0 : ((N : Int) == 0) = false := by rw [beq_eq_false_iff_ne]; omega
  have hn2 : decide (1024 < (N : Int)) = false := decide_eq_false (by omega)
  refine callsIn_of_wp_marks Try.func16 rfl trivial ?_ rfl
  simp only [Try.ntmps16, List.size_toArray, List.length_cons, List.length_nil, Nat.reduceAdd, Nat.reduceSub, Array.replicate_succ, Array.replicate_zero, List.push_toArray, List.append_toArray, List.nil_append, List.cons_append]
  have hw : Fence.wide.fn 51 := trivial
  have hn1 : 1 ≤ 10 := by omega
  gi_wp2_with (gi_at_call 51; refine (blocks_in 9 _ _ _ _).mono ?_; rintro e w' ⟨rfl, rfl⟩)
  have b0 := (Boxed.new w 26 (.int .i64 0)).alloc (.cells #[.slice (some ⟨g, o, none⟩) N c] 22)
  have b1 := Boxed.new (w.alloc (.cells #[.int .i64 0] 26)) 22 (.slice (some ⟨g, o, none⟩) N c)
  simp only [World.size_alloc] at b1
  have hB0 : Below w.heap.size w ((w.alloc (.cells #[.int .i64 0] 26)).alloc (.cells #[.slice (some ⟨g, o, none⟩) N c] 22)) := ((Below.refl _ w).alloc (Nat.le_refl _) _).alloc (by simp) _
  have hgl := hA.1
  have hk0 : Kept2 g g w _ := Kept2.below hB0 hgl hgl
  have hA0 := hk0.pg hA
  have hsz : ((w.alloc (.cells #[.int .i64 0] 26)).alloc (.cells #[.slice (some ⟨g, o, none⟩) N c] 22)).heap.size = w.heap.size + 2 := by simp
  obtain ⟨W0, hW0⟩ : ∃ W0, (w.alloc (.cells #[.int .i64 0] 26)).alloc (.cells #[.slice (some ⟨g, o, none⟩) N c] 22) = W0 := ⟨_, rfl⟩
  rw [hW0] at b0 b1 hB0 hsz hk0 hA0 ⊢
  clear hW0
  refine wpIn_rangeFunc_ownF rfl hn1 (gf := 85) (lb := #[.pointer (some ⟨w.heap.size + 1, 0, none⟩)]) rfl trivial (enters_of Try.func85 (by kernel_rfl) rfl)
    (blocks_stopsN 9 (by omega) (w.heap.size + 1) g o c N L hN.out (by omega) hLc hcm W0 b1.cell hA0) (fun h k => h.trans k) (kept2_b (by omega) (by omega)) (Below.refl _ _) (fun _ => rfl)
    (fun pre W => (AllNN pre ∧ Boxed W w.heap.size 26 (.int .i64 0)) ∧ Below w.heap.size w W)
    (fun c pre W => (c = .ret ∧ SomeNeg pre ∧ Boxed W w.heap.size 26 (.int .i64 50)) ∧ Below w.heap.size w W)
    (OwnFrom.and (OwnFrom.and (ownFrom_pure _ _) (Own.from (boxed_own _ _ _) _)) (ownFrom_below (Nat.le_refl _) (by omega)))
    (fun c => OwnFrom.and (OwnFrom.and (ownFrom_pure _ _) (OwnFrom.and (ownFrom_pure _ _) (Own.from (boxed_own _ _ _) _))) (ownFrom_below (Nat.le_refl _) (by omega)))
    ⟨⟨fun y hy => by simp at hy, b0⟩, hB0⟩
    (fun x => { tmps := #[.slice (some ⟨g, o, none⟩) N c, undef, .pointer (some ⟨w.heap.size, 0, none⟩), .int .i64 x.1.1, .slice (some ⟨g, o, none⟩) N c, .int .i64 N, .bool false, .bool false, .slice (some ⟨g, o, none⟩) N c, .int .i64 N, .bool false, .bool false, .slice (some ⟨g, o, none⟩) N c, .func (.func 85) #[] #[.pointer (some ⟨w.heap.size + 1, 0, none⟩)], .int .i64 x.1.1, .agg #[.int .i64 x.1.2.1, .int .i64 x.1.2.2.1, .int .i64 x.1.2.2.2], undef, undef], defers := [] }) ?assign ?body ?done ?stop
  case assign =>
    intro l x W K hK
    gi_wp2
    exact hK
  case body =>
    rintro l pre x W ⟨⟨hp, hb⟩, hB⟩ _
    have hc := hb.cell
    have hf := hb.frozen
    by_cases hx : x.1.1 < 0
    · gi_wp2
      exact ⟨KeepsOthers.setCell _ _ _, ⟨rfl, ⟨x, by simp, hx⟩, hb.set _⟩, hB.setCell (p := ⟨w.heap.size, 0, none⟩) (by simp) _⟩
    · gi_wp2
      exact ⟨KeepsOthers.refl _, Kept2.refl _ _ _, ⟨fun y hy => (List.mem_append.1 hy).elim (hp y) (fun h => by simp at h; subst h; omega), hb⟩, hB⟩
  case done =>
    rintro D ys W hD hys ⟨⟨hne, hb⟩, hB⟩ hK
    have hc := hb.cell
    have hf := hb.frozen
    gi_wp2
    have hb' := hb.set (.int .i64 0)
    have hK' := (KeepsOthers.setCell W ⟨w.heap.size, 0, none⟩ (.int .i64 0)).same D _ hK rfl
    refine ⟨by simp, .inl ⟨_, _, rfl, run_takeDeferred hK', ?_⟩⟩
    have hc5 := cell_kept hb'.cell (grownBy_putObj' _ D (.deferred none)) (fun r e => by cases e; exact ⟨_, hK', rfl⟩)
    have hall : ∀ x ∈ pgFrom L 0, 0 ≤ x.1 := fun x hx => by
      rw [← hys] at hx
      obtain ⟨y, hy, rfl⟩ := List.mem_map.1 hx
      exact hne y hy
    refine ⟨.int .i64 0, ?_, by rw [pgCheck_yes (by rw [hN.out]; exact hL1) (by rw [hN.out]; exact hL) hall], (hB.setCell (p := ⟨w.heap.size, 0, none⟩) (by simp) _).trans (belowK_b (w := w) (Nat.le_refl _) _ D _ _ (by omega) hK' rfl rfl)⟩
    simp [results, Try.f16, go_sem, hc5]
  case stop =>
    rintro D c pre W hD hpre ⟨⟨rfl, ⟨y, hy, hy0⟩, hb⟩, hB⟩ hK
    have hc := hb.cell
    have hf := hb.frozen
    gi_wp2
    refine ⟨by simp, .inl ⟨_, _, rfl, run_takeDeferred hK, ?_⟩⟩
    have hc5 := cell_kept hc (grownBy_putObj' _ D (.deferred none)) (fun r e => by cases e; exact ⟨_, hK, rfl⟩)
    refine ⟨.int .i64 50, ?_, by rw [pgCheck_no (hpre.subset (List.mem_map_of_mem hy)) hy0], hB.trans (belowK_b (w := w) (Nat.le_refl _) W D _ _ (by omega) hK rfl rfl)⟩
    simp [results, Try.f16, go_sem, hc5]
end Go.Proofs.Ytljcndcmdphmgaa

/-
  Contract: frame.head, of a table that may be.
-/
namespace Go.Proofs.Ytljcndcmdphmgaa
open Go.RowKit Go.Shelf
attribute [local go_sem] Oper.semAt_some
/-- the head of a page's block -/
def pgHdIn (page : Int) (l : List (Int × Pg)) : Option (Int × Pg) := l.find? fun y => decide (page < y.1 + pgSize y.2)
def pgHd (L : List Pg) (page : Int) : Int := match pgHdIn page (pgFrom L 0) with | some y => y.1 | none => 0
theorem pgHdIn_hit {page : Int} {pre : List (Int × Pg)} {x : Int × Pg} (post : List (Int × Pg)) (h : pgHdIn page pre = none) (hx : page < x.1 + pgSize x.2) : pgHdIn page (pre ++ [x] ++ post) = some x := by
  unfold pgHdIn at *
  rw [List.append_assoc, List.find?_append, h]
  simp [hx]
theorem pgHdIn_miss {page : Int} {pre : List (Int × Pg)} {x : Int × Pg} (h : pgHdIn page pre = none) (hx : ¬ page < x.1 + pgSize x.2) : pgHdIn page (pre ++ [x]) = none := by
  unfold pgHdIn at *
  rw [List.find?_append, h]
  simp
  omega
theorem tab_mem_aux (L : List Pg) : ∀ (f i : Nat), (∀ x ∈ pgYields L f i, 0 ≤ x.1) → ∀ x ∈ pgYields L f i, pgHead x.2 = true ∧ x.1 + pgSize x.2 ≤ L.length
  | 0, i, _, x, hx => by simp [pgYields] at hx
  | f + 1, i, h0, x, hx => by
    unfold pgYields at hx h0
    cases hp : L[i]? with
    | none => simp [hp] at hx
    | some p =>
      simp only [hp] at hx h0
      cases ho : pgOk L i p with
      | false =>
        rw [ho] at h0
        have := h0 _ List.mem_cons_self
        simp at this
      | true =>
        rw [ho] at hx h0
        simp only [if_true, List.mem_cons] at hx
        rcases hx with rfl | hx
        · unfold pgOk at ho
          simp only [Bool.and_eq_true, decide_eq_true_eq] at ho
          exact ⟨ho.1.1.1, by have := ho.1.2; simp only; omega⟩
        · exact tab_mem_aux L f _ (fun y hy => h0 y (by simp [hy])) x hx
theorem tab_mem {L : List Pg} (h : ∀ x ∈ pgFrom L 0, 0 ≤ x.1) : ∀ x ∈ pgFrom L 0, pgHead x.2 = true ∧ x.1 + pgSize x.2 ≤ L.length := tab_mem_aux L _ _ h
theorem pgHead_order {p : Pg} (h : pgHead p = true) : 0 ≤ p.2.1 ∧ p.2.1 ≤ 10 := by
  have := of_decide_eq_true h
  omega
def NoHit {L : List Pg} (page : Int) (pre : List (PgX L)) : Prop := pgHdIn page (pre.map (·.1)) = none
def Hit {L : List Pg} (page : Int) (pre : List (PgX L)) (v : Int) : Prop := ∃ p x, pre = p ++ [x] ∧ NoHit page p ∧ page < x.1.1 + pgSize x.1.2 ∧ v = x.1.1
/-- a box of a page -/
def Box3 (W : World) (B : Nat) (t : TypeId) (p : Pg) : Prop := W.heap[B]? = some (.cells #[.int .i64 p.1, .int .i64 p.2.1, .int .i64 p.2.2] t (0, 0))
theorem Box3.cells {W : World} {B : Nat} {t : TypeId} {p : Pg} (h : Box3 W B t p) : W.cell? ⟨B, 0, none⟩ = some (.int .i64 p.1) ∧ W.cell? ⟨B, 1, none⟩ = some (.int .i64 p.2.1) ∧ W.cell? ⟨B, 2, none⟩ = some (.int .i64 p.2.2) := by
  simp [World.cell?, show W.heap[B]? = _ from h]
theorem box3_own (B : Nat) (t : TypeId) (p : Pg) (n : Nat) : OwnFrom n (fun (_ : Unit) W => Box3 W B t p) := by
  intro s X Y row hs hg hr
  refine (hg.block B (Array.getElem?_eq_some_iff.1 hs).1 fun e => ?_).trans hs
  obtain ⟨_, o, ho, hc⟩ := hr B e.symm
  rw [show X.heap[B]? = _ from hs] at ho; cases ho; cases hc
set_option maxRecDepth 100000 in
set_option maxHeartbeats 4000000 in
theorem head_in (g o c N : Nat) (L : List Pg) (hN : Hid (L.length = N)) (hL : N ≤ 1024) (hLc : N ≤ c) (hcm : c ≤ 9223372036854775807) (page : Int) (hT : Hid (∀ x ∈ pgFrom L 0, 0 ≤ x.1)) (w : World) (hA : PgAt w g o L) :
    CallsIn Fence.wide 10 Try.prog 49 #[.slice (some ⟨g, o, none⟩) N c, .int .i64 page] w fun e W' => e = .returned (.int .i64 (pgHd L page)) ∧ Below w.heap.size w W' := by
  refine callsIn_of_wp_marks Try.func49 rfl trivial ?_ rfl
  simp only [Try.ntmps49, List.size_toArray, List.length_cons, List.length_nil, Nat.reduceAdd, Nat.reduceSub, Array.replicate_succ, Array.replicate_zero, List.push_toArray, List.append_toArray, List.nil_append, List.cons_append]
  have hw : Fence.wide.fn 51 := trivial
  have hn1 : 1 ≤ 10 := by omega
  gi_wp2_with (gi_at_call 51; refine (blocks_in 9 _ _ _ _).mono ?_; rintro e w' ⟨rfl, rfl⟩)
  have bP := ((Boxed.new w 3 (.int .i64 page)).alloc (.cells #[.int .i64 0] 3)).alloc (.cells #[.slice (some ⟨g, o, none⟩) N c] 22)
  have b0 := (Boxed.new (w.alloc (.cells #[.int .i64 page] 3)) 3 (.int .i64 0)).alloc (.cells #[.slice (some ⟨g, o, none⟩) N c] 22)
  have b1 := Boxed.new ((w.alloc (.cells #[.int .i64 page] 3)).alloc (.cells #[.int .i64 0] 3)) 22 (.slice (some ⟨g, o, none⟩) N c)
  simp only [World.size_alloc] at b0 b1
  have hB0 : Below w.heap.size w (((w.alloc (.cells #[.int .i64 page] 3)).alloc (.cells #[.int .i64 0] 3)).alloc (.cells #[.slice (some ⟨g, o, none⟩) N c] 22)) := (((Below.refl _ w).alloc (Nat.le_refl _) _).alloc (by simp) _).alloc (by simp; omega) _
  have hgl := hA.1
  have hk0 : Kept2 g g w _ := Kept2.below hB0 hgl hgl
  have hA0 := hk0.pg hA
  have hsz : (((w.alloc (.cells #[.int .i64 page] 3)).alloc (.cells #[.int .i64 0] 3)).alloc (.cells #[.slice (some ⟨g, o, none⟩) N c] 22)).heap.size = w.heap.size + 3 := by simp
  obtain ⟨W0, hW0⟩ : ∃ W0, ((w.alloc (.cells #[.int .i64 page] 3)).alloc (.cells #[.int .i64 0] 3)).alloc (.cells #[.slice (some ⟨g, o, none⟩) N c] 22) = W0 := ⟨_, rfl⟩
  rw [hW0] at bP b0 b1 hB0 hsz hk0 hA0 ⊢
  clear hW0
  refine wpIn_rangeFunc_ownH rfl hn1 (gf := 85) (lb := #[.pointer (some ⟨w.heap.size + 1 + 1, 0, none⟩)]) rfl trivial (enters_of Try.func85 (by kernel_rfl) rfl)
    (blocks_stopsN 9 (by omega) (w.heap.size + 1 + 1) g o c N L hN.out (by omega) hLc hcm W0 b1.cell hA0) (fun h k => h.trans k) (kept2_b (by omega) (by omega)) (Below.refl _ _) (fun _ => rfl)
    (fun pre W => (NoHit page pre ∧ Boxed W w.heap.size 3 (.int .i64 page) ∧ Boxed W (w.heap.size + 1) 3 (.int .i64 0) ∧ W0.heap.size ≤ W.heap.size) ∧ Below w.heap.size w W)
    (fun c pre W => (c = .ret ∧ ∃ v, Hit page pre v ∧ Boxed W (w.heap.size + 1) 3 (.int .i64 v)) ∧ Below w.heap.size w W)
    (OwnFrom.and (OwnFrom.and (ownFrom_pure _ _) (OwnFrom.and (Own.from (boxed_own _ _ _) _) (OwnFrom.and (Own.from (boxed_own _ _ _) _) (fun _ _ _ _ hs hg _ => Nat.le_trans hs hg.size)))) (ownFrom_below (Nat.le_refl _) (by omega)))
    (fun c => OwnFrom.and (OwnFrom.and (ownFrom_pure _ _) (fun s X Y row hs hg hr => by obtain ⟨v, h1, h2⟩ := hs; exact ⟨v, h1, boxed_own _ _ (fun (_ : Unit) => Value.int .i64 v) () X Y row h2 hg (fun r e => (hr r e).2)⟩)) (ownFrom_below (Nat.le_refl _) (by omega)))
    ⟨⟨rfl, bP, b0, Nat.le_refl _⟩, hB0⟩
    (fun x a' W => ∃ Bx, w.heap.size + 2 < Bx ∧ Box3 W Bx 24 x.1.2 ∧ a' = { tmps := #[.slice (some ⟨g, o, none⟩) N c, .int .i64 page, undef, .pointer (some ⟨w.heap.size, 0, none⟩), .pointer (some ⟨w.heap.size + 1, 0, none⟩), .int .i64 x.1.1, .pointer (some ⟨Bx, 0, none⟩), .slice (some ⟨g, o, none⟩) N c, .func (.func 85) #[] #[.pointer (some ⟨w.heap.size + 1 + 1, 0, none⟩)], .int .i64 x.1.1, .agg #[.int .i64 x.1.2.1, .int .i64 x.1.2.2.1, .int .i64 x.1.2.2.2], undef, undef, undef, undef, undef, undef, undef, undef], defers := [] })
    (fun x a' s X Y row hs hg hr => by obtain ⟨Bx, h1, h2, h3⟩ := hs; exact ⟨Bx, h1, box3_own Bx _ x.1.2 _ () X Y row h2 hg hr, h3⟩)
    ?assign ?body ?done ?stop
  case assign =>
    rintro l pre x W K ⟨⟨hno, hbP, hb0, hge⟩, hB⟩ hK
    gi_wp2
    exact hK _ _ ((KeepsOthers.alloc _ _).from _) (Kept2.below ((Below.refl _ W).alloc (Nat.le_refl _) _) (by omega) (by omega)) ⟨⟨hno, hbP.alloc _, hb0.alloc _, by simp; omega⟩, hB.alloc (by have := hB.size; omega) _⟩ ⟨W.heap.size, by omega, World.alloc_heap_new W _, rfl⟩
  case body =>
    rintro l pre x a' W hl ⟨r, hr⟩ ⟨⟨hno, hbP, hb0, hge⟩, hB⟩ ⟨Bx, hBx, b3, rfl⟩ hlt
    obtain ⟨⟨at0, p0, p1, p2⟩, hxm⟩ := x
    obtain ⟨hpo, hple⟩ := tab_mem hT.out _ hxm
    have hpa := hT.out _ hxm
    rw [hN.out] at hple
    have hord := pgHead_order hpo
    simp only at hord hpa hple
    have hat : at0 ≤ 1024 := by have := pgSize_pos (p0, p1, p2); omega
    obtain ⟨s, rfl⟩ : ∃ s : Nat, p1 = (s : Int) := ⟨p1.toNat, by omega⟩
    have hpw : (2 : Nat) ^ s ≤ 2 ^ 10 := Nat.pow_le_pow_right (by omega) (by omega)
    have hmin : min s 64 = s := by omega
    obtain ⟨M, hM⟩ : ∃ M : Nat, 2 ^ s = M := ⟨_, rfl⟩
    have hMi : (2 : Int) ^ s = (M : Int) := by rw [← hM]; simp
    have hM1 : 1 ≤ M := by rw [← hM]; exact Nat.one_le_two_pow
    have hs0 : (0 : Int) ≤ s := by omega
    have hszx : pgSize (p0, ((s : Nat) : Int), p2) = M := by simp [pgSize, hM]
    have HSZ := Lib.hid hszx
    rw [hszx] at hple
    clear hM hszx hpw
    obtain ⟨c0, c1, c2⟩ := b3.cells
    have cP := hbP.cell
    have cR := hb0.cell
    have fR := hb0.frozen
    simp only at c0 c1 c2 cP cR fR
    have hw1 : IntKind.i64.wrap (M : Int) = (M : Int) := by rw [IntWalk.i64_in] <;> omega
    have hw2 : IntKind.i64.wrap (at0 + M) = at0 + M := by rw [IntWalk.i64_in] <;> omega
    by_cases hlt : page < at0 + M
    · gi_wp2
      gi_region
      all_goals
        gi_wp2
        exact ⟨((KeepsOthers.drew _).trans (KeepsOthers.setCell _ _ _)).from _, ⟨rfl, at0, ⟨pre, _, rfl, hno, by rw [HSZ.out]; exact hlt, rfl⟩, Boxed.set _ (show Boxed W.drew _ _ _ from hb0)⟩, hB.drew.setCell (p := ⟨w.heap.size + 1, 0, none⟩) (by simp) _⟩
    · have hno' : NoHit page (pre ++ [⟨(at0, p0, ((s : Nat) : Int), p2), hxm⟩]) := by
        unfold NoHit
        rw [List.map_append]
        exact pgHdIn_miss hno (by rw [HSZ.out]; exact hlt)
      gi_wp2
      gi_region
      all_goals
        gi_wp2
        exact ⟨(KeepsOthers.drew _).from _, Kept2.below ((Below.refl _ W).drew) (by omega) (by omega), ⟨hno', hbP, hb0, hge⟩, hB.drew⟩
  case done =>
    rintro D ys W hD hys ⟨⟨hno, hbP, hb, hge⟩, hB⟩ hK
    have hc := hb.cell
    have hf := hb.frozen
    gi_wp2
    have hb' := hb.set (.int .i64 0)
    have hK' := (KeepsOthers.setCell W ⟨w.heap.size + 1, 0, none⟩ (.int .i64 0)).same D _ hK rfl
    refine ⟨by simp, .inl ⟨_, _, rfl, run_takeDeferred hK', ?_⟩⟩
    have hc5 := cell_kept hb'.cell (grownBy_putObj' _ D (.deferred none)) (fun r e => by cases e; exact ⟨_, hK', rfl⟩)
    have hh : pgHd L page = 0 := by
      unfold pgHd
      rw [← hys, hno]
    refine ⟨.int .i64 0, ?_, by rw [hh], (hB.setCell (p := ⟨w.heap.size + 1, 0, none⟩) (by simp) _).trans (belowK_b (w := w) (Nat.le_refl _) _ D _ _ (by omega) hK' rfl rfl)⟩
    simp [results, Try.f49, go_sem, hc5]
  case stop =>
    rintro D c pre W hD hpre ⟨⟨rfl, v, ⟨p, x, rfl, hno, hx, rfl⟩, hb⟩, hB⟩ hK
    have hh : pgHd L page = x.1.1 := by
      obtain ⟨post, hp⟩ := hpre
      have t := pgHdIn_hit post hno hx
      rw [List.map_append, List.map_cons, List.map_nil] at hp
      rw [hp] at t
      unfold pgHd
      rw [t]
    have HH := Lib.hid hh
    clear hh
    have hc := hb.cell
    have hf := hb.frozen
    gi_wp2
    refine ⟨by simp, .inl ⟨_, _, rfl, run_takeDeferred hK, ?_⟩⟩
    have hc5 := cell_kept hc (grownBy_putObj' _ D (.deferred none)) (fun r e => by cases e; exact ⟨_, hK, rfl⟩)
    refine ⟨.int .i64 x.1.1, ?_, by rw [HH.out], hB.trans (belowK_b (w := w) (Nat.le_refl _) W D _ _ (by omega) hK rfl rfl)⟩
    simp [results, Try.f49, go_sem, hc5]
end Go.Proofs.Ytljcndcmdphmgaa

/-
  Contract: frame.Free, of any table: the loop over a table that may be.
-/
namespace Go.Proofs.Ytljcndcmdphmgaa
open Go.RowKit Go.Shelf
attribute [local go_sem] Oper.semAt_some
/-- the pages of free blocks -/
def pgFreeIn (l : List (Int × Pg)) : Int := (l.map fun y => if y.2.1 = 0 then (pgSize y.2 : Int) else 0).sum
theorem pgFreeIn_snoc (l : List (Int × Pg)) (x : Int × Pg) : pgFreeIn (l ++ [x]) = pgFreeIn l + if x.2.1 = 0 then (pgSize x.2 : Int) else 0 := by simp [pgFreeIn]
theorem kept2_set {a b p : Nat} (W : World) (v : Value) (ha : a ≠ p) (hb : b ≠ p) : Kept2 a b W (W.setCell ⟨p, 0, none⟩ v).drew :=
  ⟨by simp [World.drew], Below.heap_setCell W ⟨p, 0, none⟩ v a ha, Below.heap_setCell W ⟨p, 0, none⟩ v b hb⟩
def FreeIs {L : List Pg} (pre : List (PgX L)) (n : Int) : Prop := pgFreeIn (pre.map (·.1)) = n ∧ 0 ≤ n ∧ n ≤ pre.length * 1024
/-- what Free answers -/
def pgFree (L : List Pg) : Int := if pgCheck L = 0 then pgFreeIn (pgFrom L 0) else 0
theorem pgCheck_zero {L : List Pg} (h : pgCheck L = 0) : 1 ≤ L.length ∧ L.length ≤ 1024 ∧ ∀ x ∈ pgFrom L 0, 0 ≤ x.1 := by
  unfold pgCheck at h
  split at h
  · rename_i h'
    refine ⟨h'.1, h'.2.1, fun x hx => ?_⟩
    have := h'.2.2
    unfold tabOk at this
    rw [List.all_eq_true] at this
    exact of_decide_eq_true (this x hx)
  · omega
set_option maxRecDepth 100000 in
set_option maxHeartbeats 4000000 in
theorem free_in (g o c N : Nat) (L : List Pg) (hN : Hid (L.length = N)) (hL1 : 1 ≤ N) (hL : N ≤ 1024) (hLc : N ≤ c) (hcm : c ≤ 9223372036854775807) (hT : Hid (∀ x ∈ pgFrom L 0, 0 ≤ x.1)) (hCk : Hid (pgCheck L = 0)) (w : World) (hA : PgAt w g o L) :
    CallsIn Fence.wide 20 Try.prog 19 #[.slice (some ⟨g, o, none⟩) N c] w fun e W' => e = .returned (.int .i64 (pgFree L)) ∧ Below w.heap.size w W' := by
  refine callsIn_of_wp_marks Try.func19 rfl trivial ?_ rfl
  simp only [Try.ntmps19, List.size_toArray, List.length_cons, List.length_nil, Nat.reduceAdd, Nat.reduceSub, Array.replicate_succ, Array.replicate_zero, List.push_toArray, List.append_toArray, List.nil_append, List.cons_append]
  have hw : Fence.wide.fn 51 := trivial
  have hw2 : Fence.wide.fn 16 := trivial
  have hn1 : 1 ≤ 20 := by omega
  have b0 := Boxed.new w 3 (.int .i64 0)
  obtain ⟨w1, hw1⟩ : ∃ w1, w.alloc (.cells #[.int .i64 0] 3) = w1 := ⟨_, rfl⟩
  have hz1 : w1.heap.size = w.heap.size + 1 := by rw [← hw1]; simp
  have hb1 : Below w.heap.size w w1 := by rw [← hw1]; exact (Below.refl _ w).alloc (Nat.le_refl _) _
  have hA1 : PgAt w1 g o L := (Kept2.below hb1 hA.1 hA.1).pg hA
  rw [hw1] at b0
  gi_wp2_with (first | (gi_at_call 16; refine (callsIn_wide.2 (callsIn_wide.1 (check_loop g o c N L hN hL1 hL hLc hcm w1 hA1))).mono ?_; rintro e w2 ⟨rfl, hb2⟩; rw [hCk.out]) | (gi_at_call 51; refine (blocks_in _ _ _ _ _).mono ?_; rintro e w' ⟨rfl, rfl⟩))
  clear hw1
  have hz2 := hb2.size
  have bN : Boxed w2 w.heap.size 3 (.int .i64 0) := (hb2.block _ (by omega)).trans b0
  have b0 := bN.alloc (.cells #[.slice (some ⟨g, o, none⟩) N c] 22)
  have b1 := Boxed.new w2 22 (.slice (some ⟨g, o, none⟩) N c)
  have hB0 : Below w.heap.size w (w2.alloc (.cells #[.slice (some ⟨g, o, none⟩) N c] 22)) := (hb1.trans (hb2.mono (by omega))).alloc (by omega) _
  have hgl := hA.1
  have hA0 := (Kept2.below hB0 hgl hgl).pg hA
  have hsz : (w2.alloc (.cells #[.slice (some ⟨g, o, none⟩) N c] 22)).heap.size = w2.heap.size + 1 := by simp
  obtain ⟨W0, hW0⟩ : ∃ W0, w2.alloc (.cells #[.slice (some ⟨g, o, none⟩) N c] 22) = W0 := ⟨_, rfl⟩
  rw [hW0] at b0 b1 hB0 hsz hA0 ⊢
  clear hW0 bN
  obtain ⟨Bn, hBn⟩ : ∃ Bn, w2.heap.size = Bn := ⟨_, rfl⟩
  rw [hBn] at b1 hsz hz2 ⊢
  refine wpIn_rangeFunc_ownH rfl hn1 (gf := 85) (lb := #[.pointer (some ⟨Bn, 0, none⟩)]) rfl trivial (enters_of Try.func85 (by kernel_rfl) rfl)
    (blocks_stopsN 19 (by omega) Bn g o c N L hN.out (by omega) hLc hcm W0 b1.cell hA0) (fun h k => h.trans k) (kept2_b (by omega) (by omega)) (Below.refl _ _) (fun _ => rfl)
    (fun pre W => (∃ k, FreeIs pre k ∧ Boxed W w.heap.size 3 (.int .i64 k) ∧ W0.heap.size ≤ W.heap.size) ∧ Below w.heap.size w W)
    (fun c pre W => False)
    (OwnFrom.and (fun s X Y row hs hg hr => by obtain ⟨v, h1, h2, h3⟩ := hs; exact ⟨v, h1, boxed_own _ _ (fun (_ : Unit) => Value.int .i64 v) () X Y row h2 hg (fun r e => (hr r e).2), Nat.le_trans h3 hg.size⟩) (ownFrom_below (Nat.le_refl _) (by omega)))
    (fun c => ownFrom_pure _ (fun _ => False))
    ⟨⟨0, ⟨rfl, by omega, by simp⟩, b0, Nat.le_refl _⟩, hB0⟩
    (fun x a' W => ∃ Bx, w.heap.size < Bx ∧ Box3 W Bx 24 x.1.2 ∧ a' = { tmps := #[.slice (some ⟨g, o, none⟩) N c, undef, .pointer (some ⟨w.heap.size, 0, none⟩), undef, .pointer (some ⟨Bx, 0, none⟩), .slice (some ⟨g, o, none⟩) N c, .int .i64 0, .bool false, .slice (some ⟨g, o, none⟩) N c, .func (.func 85) #[] #[.pointer (some ⟨Bn, 0, none⟩)], .int .i64 x.1.1, .agg #[.int .i64 x.1.2.1, .int .i64 x.1.2.2.1, .int .i64 x.1.2.2.2], undef, undef, undef, undef, undef, undef, undef, undef, undef], defers := [] })
    (fun x a' s X Y row hs hg hr => by obtain ⟨Bx, h1, h2, h3⟩ := hs; exact ⟨Bx, h1, box3_own Bx _ x.1.2 _ () X Y row h2 hg hr, h3⟩)
    ?assign ?body ?done ?stop
  case assign =>
    rintro l pre x W K ⟨⟨k, hk, hb, hge⟩, hB⟩ hK
    gi_wp2
    exact hK _ _ ((KeepsOthers.alloc _ _).from _) (Kept2.below ((Below.refl _ W).alloc (Nat.le_refl _) _) (by omega) (by omega)) ⟨⟨k, hk, hb.alloc _, by simp; omega⟩, hB.alloc (by have := hB.size; omega) _⟩ ⟨W.heap.size, by omega, World.alloc_heap_new W _, rfl⟩
  case body =>
    rintro l pre x a' W hl ⟨r, hr⟩ ⟨⟨k, hk, hb, hge⟩, hB⟩ ⟨Bx, hBx, b3, rfl⟩ hlt
    obtain ⟨⟨at0, p0, p1, p2⟩, hxm⟩ := x
    obtain ⟨hpo, hple⟩ := tab_mem hT.out _ hxm
    have hpa := hT.out _ hxm
    rw [hN.out] at hple
    have hord := pgHead_order hpo
    simp only at hord hpa hple
    obtain ⟨s, rfl⟩ : ∃ s : Nat, p1 = (s : Int) := ⟨p1.toNat, by omega⟩
    have hpw : (2 : Nat) ^ s ≤ 2 ^ 10 := Nat.pow_le_pow_right (by omega) (by omega)
    have hmin : min s 64 = s := by omega
    obtain ⟨M, hM⟩ : ∃ M : Nat, 2 ^ s = M := ⟨_, rfl⟩
    have hMi : (2 : Int) ^ s = (M : Int) := by rw [← hM]; simp
    have hM1 : 1 ≤ M := by rw [← hM]; exact Nat.one_le_two_pow
    have hs0 : (0 : Int) ≤ s := by omega
    have hszx : pgSize (p0, ((s : Nat) : Int), p2) = M := by simp [pgSize, hM]
    have HSZ := Lib.hid hszx
    rw [hszx] at hple
    obtain ⟨hk1, hk2, hk3⟩ := hk
    have HK1 := Lib.hid hk1
    have hM2 : M ≤ 1024 := by omega
    have hpl : (pre.length : Int) ≤ N := by omega
    have hk4 : k ≤ 1048576 := by omega
    clear hM hszx hpw hk1
    obtain ⟨c0, c1, c2⟩ := b3.cells
    have cP := hb.cell
    have fR := hb.frozen
    simp only at c0 c1 c2 cP fR
    have hw1 : IntKind.i64.wrap (M : Int) = (M : Int) := by rw [IntWalk.i64_in] <;> omega
    have hw3 : IntKind.i64.wrap (k + M) = k + M := by rw [IntWalk.i64_in] <;> omega
    by_cases hp0 : p0 = 0
    · subst hp0
      have his : FreeIs (pre ++ [⟨(at0, 0, ((s : Nat) : Int), p2), hxm⟩]) (k + M) := by
        refine ⟨?_, by omega, by simp; omega⟩
        rw [List.map_append, List.map_cons, List.map_nil, pgFreeIn_snoc, HK1.out, HSZ.out]
        simp
      clear hord
      gi_wp2
      gi_region
      all_goals
        gi_wp2
        exact ⟨((KeepsOthers.setCell W ⟨w.heap.size, 0, none⟩ (.int .i64 (k + M))).trans (KeepsOthers.drew _)).from _, kept2_set W _ (by omega) (by omega), ⟨_, his, hb.set _, by simp [World.drew]; omega⟩, (hB.setCell (p := ⟨w.heap.size, 0, none⟩) (by simp) _).drew⟩
    · have hp0b : (p0 == 0) = false := beq_eq_false_iff_ne.2 hp0
      have his : FreeIs (pre ++ [⟨(at0, p0, ((s : Nat) : Int), p2), hxm⟩]) k := by
        refine ⟨?_, by omega, by simp; omega⟩
        rw [List.map_append, List.map_cons, List.map_nil, pgFreeIn_snoc, HK1.out, HSZ.out]
        simp [hp0]
      gi_wp2
      exact ⟨(KeepsOthers.refl _).from _, Kept2.refl _ _ _, ⟨k, his, hb, by omega⟩, hB⟩
  case done =>
    rintro D ys W hD hys ⟨⟨k, hk, hb, hge⟩, hB⟩ hK
    have hc := hb.cell
    have hf := hb.frozen
    gi_wp2
    have hb' := hb.set (.int .i64 k)
    have hK' := (KeepsOthers.setCell W ⟨w.heap.size, 0, none⟩ (.int .i64 k)).same D _ hK rfl
    refine ⟨by simp, .inl ⟨_, _, rfl, run_takeDeferred hK', ?_⟩⟩
    have hc5 := cell_kept hb'.cell (grownBy_putObj' _ D (.deferred none)) (fun r e => by cases e; exact ⟨_, hK', rfl⟩)
    have hh : pgFree L = k := by
      unfold pgFree
      rw [if_pos hCk.out, ← hys]
      exact hk.1
    refine ⟨.int .i64 k, ?_, by rw [hh], (hB.setCell (p := ⟨w.heap.size, 0, none⟩) (by simp) _).trans (belowK_b (w := w) (Nat.le_refl _) _ D _ _ (by omega) hK' rfl rfl)⟩
    simp [results, Try.f19, go_sem, hc5]
  case stop =>
    rintro D c pre W hD hpre h _
    exact h.elim
end Go.Proofs.Ytljcndcmdphmgaa

/-
  Tables of pages, in plain Lean: blocks found by a page, a row of blocks replaced by one block, and what Head, Set and Free answer.
-/
namespace Go.Proofs.Ytljcndcmdphmgaa
open Go.RowKit

theorem lay_append : ∀ (a b : List Pg), lay (a ++ b) = lay a ++ lay b
  | [], b => rfl
  | p :: a, b => by simp [lay, lay_append a b]
theorem row_append : ∀ (a b : List Pg) (i : Nat), Row i (a ++ b) ↔ Row i a ∧ Row (i + (lay a).length) b
  | [], b, i => by simp [Row, lay]
  | p :: a, b, i => by
    have := lay_cons_len p a
    simp only [List.cons_append, Row, row_append a b]
    rw [show i + pgSize p + (lay a).length = i + (lay (p :: a)).length from by omega]
    constructor
    · rintro ⟨h1, h2, h3, h4⟩; exact ⟨⟨h1, h2, h3⟩, h4⟩
    · rintro ⟨⟨h1, h2, h3⟩, h4⟩; exact ⟨h1, h2, h3, h4⟩
theorem places_append : ∀ (a b : List Pg) (i : Nat), places i (a ++ b) = places i a ++ places (i + (lay a).length) b
  | [], b, i => by simp [places, lay]
  | p :: a, b, i => by
    have := lay_cons_len p a
    simp only [List.cons_append, places, places_append a b]
    rw [show i + pgSize p + (lay a).length = i + (lay (p :: a)).length from by omega]
theorem places_bound : ∀ (bs : List Pg) (i : Nat), ∀ y ∈ places i bs, (i : Int) ≤ y.1 ∧ y.1 + pgSize y.2 ≤ i + (lay bs).length ∧ y.2 ∈ bs
  | [], i, y, h => by simp [places] at h
  | p :: bs, i, y, h => by
    have hl := lay_cons_len p bs
    rw [places, List.mem_cons] at h
    rcases h with rfl | h
    · exact ⟨by simp, by simp only; omega, by simp⟩
    · have := places_bound bs (i + pgSize p) y h
      refine ⟨by omega, by omega, List.mem_cons_of_mem _ this.2.2⟩
/-- the block of a page -/
theorem row_find : ∀ (bs : List Pg) (i p : Nat), i ≤ p → p < i + (lay bs).length → ∃ b1 x b2, bs = b1 ++ x :: b2 ∧ i + (lay b1).length ≤ p ∧ p < i + (lay b1).length + pgSize x
  | [], i, p, h1, h2 => by simp [lay] at h2; omega
  | x :: bs, i, p, h1, h2 => by
    have hl := lay_cons_len x bs
    by_cases h : p < i + pgSize x
    · exact ⟨[], x, bs, rfl, by simpa [lay] using h1, by simpa [lay] using h⟩
    · obtain ⟨b1, y, b2, rfl, h3, h4⟩ := row_find bs (i + pgSize x) p (by omega) (by omega)
      have := lay_cons_len x b1
      exact ⟨x :: b1, y, b2, rfl, by omega, by omega⟩
theorem pow_dvd_of_le {a b : Nat} (h : a ≤ b) : 2 ^ a ∣ 2 ^ b := Nat.pow_dvd_pow 2 h
theorem pgSize_dvd {p q : Pg} (h : pgSize p ≤ pgSize q) : pgSize p ∣ pgSize q := by
  unfold pgSize at *
  exact pow_dvd_of_le ((Nat.pow_le_pow_iff_right (by omega)).1 h)
theorem dvd_lt_eq {n a b : Nat} (ha : a % n = 0) (hb : b % n = 0) (h1 : a ≤ b) (h2 : b < a + n) : b = a := by
  obtain ⟨k, rfl⟩ := Nat.dvd_of_mod_eq_zero ha
  obtain ⟨l, rfl⟩ := Nat.dvd_of_mod_eq_zero hb
  rcases Nat.lt_or_ge k l with h | h
  · have : n * (k + 1) ≤ n * l := Nat.mul_le_mul_left _ h
    rw [Nat.mul_succ] at this
    omega
  · have : n * l ≤ n * k := Nat.mul_le_mul_left _ h
    omega
theorem mod_of_dvd {n m a : Nat} (h : n ∣ m) (ha : a % m = 0) : a % n = 0 := Nat.mod_eq_zero_of_dvd (Nat.dvd_trans h (Nat.dvd_of_mod_eq_zero ha))
theorem row_cut (x : Pg) (a : Nat) (ha : a % pgSize x = 0) : ∀ (c : List Pg) (i : Nat), a ≤ i → i < a + pgSize x → Row i c → (i = a → ∀ y ∈ c.head?, pgSize y ≤ pgSize x) → a + pgSize x ≤ i + (lay c).length →
    ∃ c1 c2, c = c1 ++ c2 ∧ i + (lay c1).length = a + pgSize x
  | [], i, h1, h2, _, _, h => by simp [lay] at h; omega
  | y :: c, i, h1, h2, hr, h0, h => by
    have hl := lay_cons_len y c
    obtain ⟨hy1, hy2, hy3⟩ := hr
    have hpos := pgSize_pos y
    have hs : pgSize y ≤ pgSize x := by
      rcases Nat.lt_or_ge (pgSize x) (pgSize y) with hgt | hle
      · have hd := pgSize_dvd (Nat.le_of_lt hgt)
        have := dvd_lt_eq ha (mod_of_dvd hd hy2) h1 h2
        exact h0 this y rfl
      · exact hle
    have hd := pgSize_dvd hs
    have hi : i + pgSize y ≤ a + pgSize x := by
      have h3 : (a + pgSize x) % pgSize y = 0 := Nat.mod_eq_zero_of_dvd (Nat.dvd_add (Nat.dvd_trans hd (Nat.dvd_of_mod_eq_zero ha)) hd)
      rcases Nat.lt_or_ge (a + pgSize x) (i + pgSize y) with hgt | hle
      · have := dvd_lt_eq hy2 h3 (by omega) hgt
        omega
      · exact hle
    rcases Nat.lt_or_ge (i + pgSize y) (a + pgSize x) with hlt | hge
    · obtain ⟨c1, c2, rfl, h5⟩ := row_cut x a ha c (i + pgSize y) (by omega) hlt hy3 (fun e => by omega) (by omega)
      have := lay_cons_len y c1
      exact ⟨y :: c1, c2, rfl, by omega⟩
    · exact ⟨[y], c, rfl, by have := lay_cons_len y []; simp [lay] at this ⊢; omega⟩
/-- the head of a page's block -/
theorem pgHd_at {L b1 b2 : List Pg} {x : Pg} (h : Tab L (b1 ++ x :: b2)) {page : Int} (h1 : ((lay b1).length : Int) ≤ page) (h2 : page < (lay b1).length + pgSize x) : pgHd L page = (lay b1).length ∧ L[(lay b1).length]? = some x := by
  constructor
  · unfold pgHd
    rw [tab_from h, places_append]
    simp only [Nat.zero_add, places]
    have hn : pgHdIn page (places 0 b1) = none := by
      unfold pgHdIn
      rw [List.find?_eq_none]
      intro y hy
      have := places_bound b1 0 y hy
      simp
      omega
    have := pgHdIn_hit (x := (((lay b1).length : Int), x)) (places ((lay b1).length + pgSize x) b2) hn h2
    rw [List.append_assoc, List.singleton_append] at this
    rw [this]
  · obtain ⟨rfl, _⟩ := h
    rw [lay_append]
    simp [lay]
theorem tab_len {L bs : List Pg} (h : Tab L bs) : L.length = (lay bs).length := by rw [h.1]
theorem pgCheck_tab {L : List Pg} (h : pgCheck L = 0) : ∃ bs, Tab L bs := (tab_iff L).2 (pgCheck_zero h).2.2
theorem pgCheck_of_tab {L bs : List Pg} (h : Tab L bs) (h1 : 1 ≤ L.length) (h2 : L.length ≤ 1024) : pgCheck L = 0 := pgCheck_yes h1 h2 ((tab_iff L).1 ⟨bs, h⟩)
theorem pgCheck_cases (L : List Pg) : pgCheck L = 0 ∨ pgCheck L = 50 := by unfold pgCheck; split <;> simp
/-- a table with a block laid at a place -/
def pgPut (L : List Pg) (p : Nat) (x : Pg) : List Pg := L.take p ++ (x :: List.replicate (pgSize x - 1) pgIn ++ L.drop (p + pgSize x))
theorem pgPut_len {L : List Pg} {p : Nat} {x : Pg} (h : p + pgSize x ≤ L.length) : (pgPut L p x).length = L.length := by
  have := pgSize_pos x
  simp [pgPut]
  omega
/-- what Set tells -/
def pgSetE (L : List Pg) (page : Int) (x : Pg) : Int :=
  if pgCheck L ≠ 0 then 50 else if pgHead x = false then 2 else if page < 0 ∨ page % pgSize x ≠ 0 ∨ (L.length : Int) < page + pgSize x then 9
  else if x.2.1 < (L.getD (pgHd L page).toNat pgIn).2.1 then 50 else 0
theorem pgSize_mono {x y : Pg} (h : x.2.1 ≤ y.2.1) : pgSize x ≤ pgSize y := Nat.pow_le_pow_right (by omega) (by omega)
/-- where Set tells no error a row of blocks is replaced by one -/
theorem pgSet_ok {L : List Pg} {page : Int} {x : Pg} (h : pgSetE L page x = 0) : ∃ (p : Nat) (b1 c1 c2 : List Pg), page = p ∧ p + pgSize x ≤ L.length ∧ pgCheck L = 0 ∧ pgHead x = true ∧ p % pgSize x = 0 ∧
    Tab L (b1 ++ (c1 ++ c2)) ∧ (lay b1).length = p ∧ (lay c1).length = pgSize x ∧ Tab (pgPut L p x) (b1 ++ (x :: c2)) := by
  unfold pgSetE at h
  split at h
  · cases h
  · rename_i hck
    have hck : pgCheck L = 0 := Decidable.not_not.1 hck
    split at h
    · cases h
    · rename_i hh
      have hh : pgHead x = true := by simpa using hh
      split at h
      · cases h
      · rename_i hr
        split at h
        · cases h
        · rename_i ho
          obtain ⟨p, rfl⟩ : ∃ p : Nat, page = p := ⟨page.toNat, by omega⟩
          have hr1 : p % pgSize x = 0 := by
            have : ((p % pgSize x : Nat) : Int) = 0 := by
              rw [Int.natCast_emod]
              exact Decidable.not_not.1 fun h0 => hr (.inr (.inl h0))
            omega
          have hr2 : p + pgSize x ≤ L.length := by omega
          have hpos := pgSize_pos x
          obtain ⟨bs, hT⟩ := pgCheck_tab hck
          have hlen := tab_len hT
          obtain ⟨b1, y, b2, rfl, h3, h4⟩ := row_find bs 0 p (by omega) (by omega)
          rw [Nat.zero_add] at h3 h4
          obtain ⟨e1, e2⟩ := pgHd_at hT (page := (p : Int)) (by omega) (by omega)
          have hyx : pgSize y ≤ pgSize x := by
            apply pgSize_mono
            rw [e1] at ho
            rw [Int.toNat_natCast, List.getD_eq_getElem?_getD, e2] at ho
            simp at ho
            omega
          have hrow := (row_append b1 (y :: b2) 0).1 hT.2
          rw [Nat.zero_add] at hrow
          have hbp : (lay b1).length = p := by
            have := hrow.2.2.1
            exact (dvd_lt_eq this (mod_of_dvd (pgSize_dvd hyx) hr1) h3 h4).symm
          have hll : (lay (b1 ++ y :: b2)).length = (lay b1).length + (lay (y :: b2)).length := by rw [lay_append, List.length_append]
          obtain ⟨c1, c2, hc, h5⟩ := row_cut x p hr1 (y :: b2) p (Nat.le_refl _) (by omega) (by rw [← hbp]; exact hrow.2) (fun _ z hz => by simp at hz; subst hz; exact hyx) (by omega)
          rw [hc] at hT hrow
          have hc1 : (lay c1).length = pgSize x := by omega
          refine ⟨p, b1, c1, c2, rfl, hr2, hck, hh, hr1, hT, hbp, hc1, ?_, ?_⟩
          · have e : L = lay b1 ++ (lay c1 ++ lay c2) := by rw [hT.1, lay_append, lay_append]
            have ed : L.drop (p + pgSize x) = lay c2 := by rw [e, ← List.append_assoc, List.drop_left' (by rw [List.length_append]; omega)]
            have et : L.take p = lay b1 := by rw [e, List.take_left' hbp]
            rw [pgPut, ed, et, lay_append]
            simp [lay]
          · rw [row_append]
            refine ⟨hrow.1, hh, by rw [Nat.zero_add, hbp]; exact hr1, ?_⟩
            have := ((row_append c1 c2 _).1 hrow.2).2
            rw [hc1] at this
            rw [Nat.zero_add]
            exact this
theorem pgPut_get {L : List Pg} {p : Nat} {x : Pg} (h : p + pgSize x ≤ L.length) (i : Nat) : (pgPut L p x)[i]? = if i = p then some x else if p < i ∧ i < p + pgSize x then some pgIn else L[i]? := by
  have hpos := pgSize_pos x
  unfold pgPut
  have ht : (L.take p).length = p := by rw [List.length_take]; omega
  by_cases h1 : i < p
  · rw [List.getElem?_append_left (by omega), List.getElem?_take, if_pos h1, if_neg (by omega), if_neg (by omega)]
  · rw [List.getElem?_append_right (by omega), ht]
    by_cases h2 : i = p
    · subst h2; simp
    · rw [if_neg h2]
      obtain ⟨j, hj⟩ : ∃ j, i - p = j + 1 := ⟨i - p - 1, by omega⟩
      rw [hj, List.cons_append, List.getElem?_cons_succ]
      by_cases h3 : i < p + pgSize x
      · rw [if_pos ⟨by omega, h3⟩, List.getElem?_append_left (by simp; omega), List.getElem?_replicate, if_pos (by omega)]
      · rw [if_neg (by omega), List.getElem?_append_right (by simp; omega), List.getElem?_drop]
        congr 1
        simp
        omega
theorem pgPut_again {L : List Pg} {p : Nat} {x : Pg} (h : p + pgSize x ≤ L.length) : pgPut (pgPut L p x) p x = pgPut L p x := by
  apply List.ext_getElem?
  intro i
  rw [pgPut_get (by rw [pgPut_len h]; exact h), pgPut_get h]
  split
  · rfl
  · split <;> rfl
/-- .. set again it is the same -/
theorem pgSet_again {L : List Pg} {page : Int} {x : Pg} (h : pgSetE L page x = 0) : pgSetE (pgPut L page.toNat x) page x = 0 ∧ pgCheck (pgPut L page.toNat x) = 0 ∧ (pgPut L page.toNat x).length = L.length ∧
    pgPut (pgPut L page.toNat x) page.toNat x = pgPut L page.toNat x ∧ (∀ q : Int, page ≤ q → q < page + pgSize x → pgHd (pgPut L page.toNat x) q = page) ∧ page = page.toNat ∧ page.toNat + pgSize x ≤ L.length ∧ pgHead x = true ∧ pgCheck L = 0 := by
  obtain ⟨p, b1, c1, c2, rfl, hl, hck, hh, hm, hT, hb, hc, hT'⟩ := pgSet_ok h
  rw [Int.toNat_natCast]
  have hlen := pgPut_len hl
  have hpos := pgSize_pos x
  have hcz := pgCheck_zero hck
  have hck' := pgCheck_of_tab hT' (by omega) (by omega)
  have hhd : ∀ q : Int, (p : Int) ≤ q → q < p + pgSize x → pgHd (pgPut L p x) q = p ∧ (pgPut L p x)[p]? = some x := by
    intro q h1 h2
    have := pgHd_at hT' (page := q) (by omega) (by omega)
    rw [hb] at this
    exact this
  refine ⟨?_, hck', hlen, pgPut_again hl, fun q h1 h2 => (hhd q h1 h2).1, rfl, hl, hh, hck⟩
  unfold pgSetE
  rw [if_neg (by rw [hck']; simp), if_neg (by rw [hh]; simp), if_neg, if_neg]
  · obtain ⟨e1, e2⟩ := hhd p (by omega) (by omega)
    rw [e1, Int.toNat_natCast, List.getD_eq_getElem?_getD, e2]
    simp
  · rw [hlen]
    have : ((p : Int) % (pgSize x : Int)) = 0 := by rw [← Int.natCast_emod, hm]; rfl
    omega
end Go.Proofs.Ytljcndcmdphmgaa

/-
  Buddies, in plain Lean: what a split and a join do to a table of blocks.
-/
namespace Go.Proofs.Ytljcndcmdphmgaa
open Go.RowKit

/-- a free block of an order -/
def fb (o : Nat) : Pg := (0, (o : Int), 0)
theorem fb_size (o : Nat) : pgSize (fb o) = 2 ^ o := by simp [pgSize, fb]
theorem fb_head {o : Nat} (h : o ≤ 10) : pgHead (fb o) = true := by
  refine decide_eq_true ⟨?_, ?_, .inl ⟨rfl, rfl⟩⟩ <;> simp [fb] <;> omega
/-- the places of the blocks that are out -/
def outPl : Nat → List Pg → List Nat
  | _, [] => []
  | i, p :: bs => (if p.1 = 2 then [i] else []) ++ outPl (i + pgSize p) bs
theorem outPl_append : ∀ (a b : List Pg) (i : Nat), outPl i (a ++ b) = outPl i a ++ outPl (i + (lay a).length) b
  | [], b, i => by simp [outPl, lay]
  | p :: a, b, i => by
    have := lay_cons_len p a
    simp only [List.cons_append, outPl, outPl_append a b]
    rw [show i + pgSize p + (lay a).length = i + (lay (p :: a)).length from by omega, List.append_assoc]
/-- the pages of free blocks -/
def freeSum : List Pg → Int
  | [] => 0
  | p :: bs => (if p.1 = 0 then (pgSize p : Int) else 0) + freeSum bs
theorem freeSum_append : ∀ (a b : List Pg), freeSum (a ++ b) = freeSum a + freeSum b
  | [], b => by simp [freeSum]
  | p :: a, b => by simp only [List.cons_append, freeSum, freeSum_append a b]; omega
theorem freeSum_places : ∀ (bs : List Pg) (i : Nat), pgFreeIn (places i bs) = freeSum bs
  | [], i => rfl
  | p :: bs, i => by
    have := freeSum_places bs (i + pgSize p)
    simp only [pgFreeIn] at this
    simp [pgFreeIn, places, freeSum, this]
theorem pgFree_tab {L bs : List Pg} (h : Tab L bs) (h1 : 1 ≤ L.length) (h2 : L.length ≤ 1024) : pgFree L = freeSum bs := by
  unfold pgFree
  rw [if_pos (pgCheck_of_tab h h1 h2), tab_from h, freeSum_places]
/-- the rests of a split -/
def rests (order : Nat) : Nat → List Pg
  | 0 => []
  | k + 1 => rests order k ++ [fb (order + k)]
theorem lay_one (x : Pg) : lay [x] = x :: List.replicate (pgSize x - 1) pgIn := by simp [lay]
theorem lay_one_len (x : Pg) : (lay [x]).length = pgSize x := by
  have := lay_cons_len x []
  simpa [lay] using this
theorem rests_len (order : Nat) : ∀ k, (lay (rests order k)).length + 2 ^ order = 2 ^ (order + k)
  | 0 => by simp [rests, lay]
  | k + 1 => by
    have := rests_len order k
    rw [rests, lay_append, List.length_append, lay_one_len, fb_size]
    rw [show order + (k + 1) = (order + k) + 1 from by omega, Nat.pow_succ]
    omega
theorem rests_free (order : Nat) : ∀ k, freeSum (rests order k) + 2 ^ order = 2 ^ (order + k)
  | 0 => by simp [rests, freeSum]
  | k + 1 => by
    have := rests_free order k
    rw [rests, freeSum_append]
    have e : freeSum [fb (order + k)] = 2 ^ (order + k) := by simp [freeSum, fb_size]; simp [fb]
    rw [e, show order + (k + 1) = (order + k) + 1 from by omega, Int.pow_succ]
    omega
theorem rests_out (order : Nat) : ∀ (k i : Nat), outPl i (rests order k) = []
  | 0, i => rfl
  | k + 1, i => by
    rw [rests, outPl_append, rests_out order k]
    simp [outPl, fb]
/-- what Alloc makes of a table before the last store: a is the block's place, its order is order + k -/
def bSplit (a order : Nat) : Nat → List Pg → List Pg
  | 0, L => L
  | k + 1, L => bSplit a order k (pgPut L (a + 2 ^ (order + k)) (fb (order + k)))
theorem pgPut_take {L : List Pg} {p a : Nat} {x : Pg} (h : p ≤ L.length) (ha : a ≤ p) : (pgPut L p x).take a = L.take a := by
  unfold pgPut
  rw [List.take_append_of_le_length (by rw [List.length_take]; omega), List.take_take, Nat.min_eq_left ha]
theorem pgPut_drop {L : List Pg} {p : Nat} {x : Pg} (h : p ≤ L.length) : (pgPut L p x).drop p = lay [x] ++ L.drop (p + pgSize x) := by
  unfold pgPut
  rw [List.drop_left' (by rw [List.length_take]; omega), lay_one]
theorem pgPut_eq (L : List Pg) (p : Nat) (x : Pg) : pgPut L p x = L.take p ++ (lay [x] ++ L.drop (p + pgSize x)) := by rw [lay_one]; rfl
theorem split_eq (a order : Nat) (x : Pg) (hx : pgSize x = 2 ^ order) : ∀ (k : Nat) (L : List Pg), a + 2 ^ (order + k) ≤ L.length →
    pgPut (bSplit a order k L) a x = L.take a ++ (lay [x] ++ (lay (rests order k) ++ L.drop (a + 2 ^ (order + k)))) ∧ (bSplit a order k L).length = L.length
  | 0, L, h => by
    refine ⟨?_, rfl⟩
    rw [bSplit, pgPut_eq, hx]
    simp [rests, lay, hx]
  | k + 1, L, h => by
    have hp : 2 ^ (order + (k + 1)) = 2 ^ (order + k) + 2 ^ (order + k) := by rw [show order + (k + 1) = (order + k) + 1 from by omega, Nat.pow_succ]; omega
    have hq := Nat.two_pow_pos (order + k)
    have hl : (pgPut L (a + 2 ^ (order + k)) (fb (order + k))).length = L.length := pgPut_len (by rw [fb_size]; omega)
    obtain ⟨h1, h2⟩ := split_eq a order x hx k (pgPut L (a + 2 ^ (order + k)) (fb (order + k))) (by rw [hl]; omega)
    refine ⟨?_, by rw [bSplit, h2, hl]⟩
    rw [bSplit, h1, pgPut_take (by omega) (by omega), pgPut_drop (by omega), fb_size, rests, lay_append]
    rw [show a + 2 ^ (order + k) + 2 ^ (order + k) = a + 2 ^ (order + (k + 1)) from by omega]
    simp
theorem rests_row (a order : Nat) : ∀ (k : Nat), order + k ≤ 10 → a % 2 ^ (order + k) = 0 → Row (a + 2 ^ order) (rests order k)
  | 0, _, _ => trivial
  | k + 1, h, ha => by
    have hd : 2 ^ (order + k) ∣ 2 ^ (order + (k + 1)) := Nat.pow_dvd_pow 2 (by omega)
    have ha' := mod_of_dvd hd ha
    rw [rests, row_append]
    refine ⟨rests_row a order k (by omega) ha', fb_head (by omega), ?_, trivial⟩
    have := rests_len order k
    rw [fb_size, show a + 2 ^ order + (lay (rests order k)).length = a + 2 ^ (order + k) from by omega]
    rw [Nat.add_mod_right]
    exact ha'
/-- ALLOC -/
theorem alloc_tab {L b1 b2 : List Pg} {order k : Nat} {c : Int} (h : Tab L (b1 ++ fb (order + k) :: b2)) (hk : order + k ≤ 10) (hc : 0 ≤ c ∧ c ≤ 8) :
    Tab (pgPut (bSplit (lay b1).length order k L) (lay b1).length (2, (order : Int), c)) (b1 ++ ((2, (order : Int), c) :: (rests order k ++ b2))) ∧
    (lay b1).length % 2 ^ (order + k) = 0 ∧ (lay b1).length + 2 ^ (order + k) ≤ L.length := by
  obtain ⟨rfl, hr⟩ := h
  have hr' := (row_append b1 _ 0).1 hr
  rw [Nat.zero_add] at hr'
  obtain ⟨h1, h2, h3, h4⟩ := hr'
  rw [fb_size] at h3 h4
  have hx : pgSize ((2 : Int), (order : Int), c) = 2 ^ order := by simp [pgSize]
  have hlen : (lay (b1 ++ fb (order + k) :: b2)).length = (lay b1).length + (2 ^ (order + k) + (lay b2).length) := by
    rw [lay_append, List.length_append, lay_cons_len, fb_size]
  have hd : (lay (b1 ++ fb (order + k) :: b2)).drop ((lay b1).length + 2 ^ (order + k)) = lay b2 := by
    rw [show b1 ++ fb (order + k) :: b2 = (b1 ++ [fb (order + k)]) ++ b2 from by simp, lay_append, List.drop_left']
    rw [lay_append, List.length_append, lay_one_len, fb_size]
  have ht : (lay (b1 ++ fb (order + k) :: b2)).take (lay b1).length = lay b1 := by rw [lay_append, List.take_left' rfl]
  have hl := rests_len order k
  refine ⟨⟨?_, ?_⟩, h3, by omega⟩
  · rw [(split_eq _ order _ hx k _ (by omega)).1, hd, ht]
    rw [show b1 ++ ((2, (order : Int), c) :: (rests order k ++ b2)) = b1 ++ ([(2, (order : Int), c)] ++ (rests order k ++ b2)) from rfl, lay_append, lay_append, lay_append]
  · rw [row_append]
    refine ⟨h1, ?_, ?_, ?_⟩
    · exact decide_eq_true ⟨by simp only; omega, by simp only; omega, .inr ⟨rfl, hc.1, hc.2⟩⟩
    · rw [Nat.zero_add, hx]
      exact mod_of_dvd (Nat.pow_dvd_pow 2 (by omega)) h3
    · rw [Nat.zero_add, hx, row_append]
      refine ⟨rests_row _ order k hk h3, ?_⟩
      rw [show (lay b1).length + 2 ^ order + (lay (rests order k)).length = (lay b1).length + 2 ^ (order + k) from by omega]
      exact h4
/-- a block of a table -/
theorem tab_block {L bs : List Pg} (h : Tab L bs) {a : Nat} {p : Pg} (hp : L[a]? = some p) (hk : p.1 ≠ 1) : ∃ b1 b2, bs = b1 ++ p :: b2 ∧ (lay b1).length = a := by
  have hlen := tab_len h
  have ha := (List.getElem?_eq_some_iff.1 hp).1
  obtain ⟨b1, x, b2, rfl, h1, h2⟩ := row_find bs 0 a (by omega) (by omega)
  rw [Nat.zero_add] at h1 h2
  refine ⟨b1, b2, ?_, ?_⟩
  all_goals
    have e : L = lay b1 ++ (lay [x] ++ lay b2) := by rw [h.1, ← lay_append, ← lay_append]; rfl
    have h3 : L[a]? = (lay [x])[a - (lay b1).length]? := by
      rw [e, List.getElem?_append_right h1, List.getElem?_append_left (by rw [lay_one_len]; omega)]
    rw [h3, lay_one] at hp
    by_cases h4 : a - (lay b1).length = 0
    · rw [h4] at hp
      simp at hp
      first | (subst hp; rfl) | omega
    · obtain ⟨j, hj⟩ : ∃ j, a - (lay b1).length = j + 1 := ⟨a - (lay b1).length - 1, by omega⟩
      rw [hj, List.getElem?_cons_succ, List.getElem?_replicate] at hp
      split at hp
      · exact absurd (by rw [← Option.some.inj hp]; rfl) hk
      · cases hp
theorem head_kind {p : Pg} (h : pgHead p = true) : p.1 = 0 ∨ p.1 = 2 := by
  have := of_decide_eq_true h
  omega
theorem tab_at {L b1 b2 : List Pg} {p : Pg} (h : Tab L (b1 ++ p :: b2)) : L[(lay b1).length]? = some p := by
  rw [h.1, lay_append]
  simp [lay]
end Go.Proofs.Ytljcndcmdphmgaa

/-
  Buddies, in plain Lean: joins, no two free buddies, new pages.
-/
namespace Go.Proofs.Ytljcndcmdphmgaa
open Go.RowKit

/-- the place of a block's buddy -/
def other (a o : Nat) : Nat := if a % (2 * 2 ^ o) = 0 then a + 2 ^ o else a - 2 ^ o
/-- the block that Free makes: of at most so many joins -/
def bJoin (L : List Pg) : Nat → Nat → Nat → Nat × Nat
  | 0, a, o => (a, o)
  | k + 1, a, o => if L[other a o]? = some (fb o) then bJoin L k (min a (other a o)) (o + 1) else (a, o)
theorem other_cases (a o : Nat) (h : a % 2 ^ o = 0) : (a % (2 * 2 ^ o) = 0 ∧ other a o = a + 2 ^ o ∧ min a (other a o) = a) ∨
    (a % (2 * 2 ^ o) ≠ 0 ∧ 2 ^ o ≤ a ∧ other a o = a - 2 ^ o ∧ min a (other a o) = a - 2 ^ o ∧ (a - 2 ^ o) % (2 * 2 ^ o) = 0) := by
  unfold other
  by_cases h0 : a % (2 * 2 ^ o) = 0
  · left
    rw [if_pos h0]
    exact ⟨h0, rfl, by omega⟩
  · right
    rw [if_neg h0]
    obtain ⟨q, rfl⟩ := Nat.dvd_of_mod_eq_zero h
    have hp := Nat.two_pow_pos o
    have hq : q % 2 = 1 := by
      rcases Nat.mod_two_eq_zero_or_one q with h1 | h1
      · exfalso
        apply h0
        obtain ⟨r, rfl⟩ := Nat.dvd_of_mod_eq_zero h1
        rw [show 2 ^ o * (2 * r) = 2 * 2 ^ o * r from by rw [Nat.mul_left_comm, Nat.mul_assoc]]
        exact Nat.mul_mod_right _ _
      · exact h1
    obtain ⟨r, hr⟩ : ∃ r, q = 2 * r + 1 := ⟨q / 2, by omega⟩
    subst hr
    have e : 2 ^ o * (2 * r + 1) - 2 ^ o = 2 * 2 ^ o * r := by
      rw [Nat.mul_succ, Nat.add_sub_cancel, Nat.mul_left_comm, Nat.mul_assoc]
    have hle : 2 ^ o ≤ 2 ^ o * (2 * r + 1) := Nat.le_mul_of_pos_right _ (by omega)
    exact ⟨h0, hle, rfl, by omega, by rw [e]; exact Nat.mul_mod_right _ _⟩
theorem put_tab {L b1 c1 c2 : List Pg} {x : Pg} (h : Tab L (b1 ++ (c1 ++ c2))) (hc : (lay c1).length = pgSize x) (hx : pgHead x = true) (ha : (lay b1).length % pgSize x = 0) :
    Tab (pgPut L (lay b1).length x) (b1 ++ x :: c2) := by
  have e : L = lay b1 ++ (lay c1 ++ lay c2) := by rw [h.1, lay_append, lay_append]
  have ed : L.drop ((lay b1).length + pgSize x) = lay c2 := by rw [e, ← List.append_assoc, List.drop_left' (by rw [List.length_append]; omega)]
  have et : L.take (lay b1).length = lay b1 := by rw [e, List.take_left' rfl]
  have hrow := (row_append b1 _ 0).1 h.2
  rw [Nat.zero_add] at hrow
  constructor
  · rw [pgPut_eq, ed, et, show b1 ++ x :: c2 = b1 ++ ([x] ++ c2) from rfl, lay_append, lay_append]
  · rw [row_append, Nat.zero_add]
    refine ⟨hrow.1, hx, ha, ?_⟩
    have := ((row_append c1 c2 _).1 hrow.2).2
    rwa [hc] at this
theorem lay_nil {bs : List Pg} (h : (lay bs).length = 0) : bs = [] := by
  cases bs with
  | nil => rfl
  | cons p bs =>
    have := lay_cons_len p bs
    have := pgSize_pos p
    omega
theorem fb_kind (o : Nat) : (fb o).1 ≠ 1 := by simp [fb]
/-- JOINS -/
theorem join_tab {L : List Pg} {page o0 : Nat} : ∀ (k a o : Nat) (b1 c1 c2 : List Pg), o + k = 10 → Tab L (b1 ++ (c1 ++ c2)) → (lay b1).length = a → (lay c1).length = 2 ^ o → a % 2 ^ o = 0 →
    freeSum c1 + 2 ^ o0 = 2 ^ o → outPl a c1 = [page] →
    ∃ b1' c1' c2', Tab L (b1' ++ (c1' ++ c2')) ∧ (lay b1').length = (bJoin L k a o).1 ∧ (lay c1').length = 2 ^ (bJoin L k a o).2 ∧ (bJoin L k a o).1 % 2 ^ (bJoin L k a o).2 = 0 ∧ (bJoin L k a o).2 ≤ 10 ∧
      freeSum c1' + 2 ^ o0 = 2 ^ (bJoin L k a o).2 ∧ outPl (bJoin L k a o).1 c1' = [page] ∧ ((bJoin L k a o).2 < 10 → L[other (bJoin L k a o).1 (bJoin L k a o).2]? ≠ some (fb (bJoin L k a o).2))
  | 0, a, o, b1, c1, c2, hk, hT, h1, h2, h3, h4, h5 => ⟨b1, c1, c2, hT, h1, h2, h3, by simp [bJoin]; omega, h4, h5, fun h => by simp [bJoin] at h; omega⟩
  | k + 1, a, o, b1, c1, c2, hk, hT, h1, h2, h3, h4, h5 => by
    unfold bJoin
    by_cases hf : L[other a o]? = some (fb o)
    · rw [if_pos hf]
      have hp2 : 2 ^ (o + 1) = 2 ^ o + 2 ^ o := by rw [Nat.pow_succ]; omega
      have hp3 : (2 : Int) ^ (o + 1) = 2 ^ o + 2 ^ o := by rw [Int.pow_succ]; omega
      have hfs : freeSum [fb o] = 2 ^ o := by simp [freeSum, fb_size]; simp [fb]
      have e : L = lay b1 ++ (lay c1 ++ lay c2) := by rw [hT.1, lay_append, lay_append]
      rcases other_cases a o h3 with ⟨g1, g2, g3⟩ | ⟨g1, g2, g3, g4, g5⟩
      · rw [g3]
        rw [g2, e, List.getElem?_append_right (by omega), List.getElem?_append_right (by omega)] at hf
        cases c2 with
        | nil => simp [lay] at hf
        | cons y c2 =>
          have hy : y = fb o := by
            rw [show a + 2 ^ o - (lay b1).length - (lay c1).length = 0 from by omega] at hf
            simpa [lay] using hf
          subst hy
          refine join_tab k a (o + 1) b1 (c1 ++ [fb o]) c2 (by omega) (by simpa using hT) h1 ?_ ?_ ?_ ?_
          · rw [lay_append, List.length_append, lay_one_len, fb_size, h2, hp2]
          · rw [hp2, show 2 ^ o + 2 ^ o = 2 * 2 ^ o from by omega]; exact g1
          · rw [freeSum_append, hfs]; omega
          · rw [outPl_append, h5]; simp [outPl, fb]
      · rw [g4]
        rw [g3] at hf
        have hT1 : Tab (lay b1) b1 := ⟨rfl, ((row_append b1 _ 0).1 hT.2).1⟩
        have hp := Nat.two_pow_pos o
        rw [e, List.getElem?_append_left (by omega)] at hf
        obtain ⟨d1, d2, rfl, hd⟩ := tab_block hT1 hf (fb_kind o)
        have hl : (lay (d1 ++ fb o :: d2)).length = (lay d1).length + (2 ^ o + (lay d2).length) := by rw [lay_append, List.length_append, lay_cons_len, fb_size]
        obtain rfl := lay_nil (bs := d2) (by omega)
        refine join_tab k (a - 2 ^ o) (o + 1) d1 (fb o :: c1) c2 (by omega) (by simpa using hT) hd ?_ ?_ ?_ ?_
        · rw [lay_cons_len, fb_size, h2, hp2]
        · rw [hp2, show 2 ^ o + 2 ^ o = 2 * 2 ^ o from by omega]; exact g5
        · rw [show fb o :: c1 = [fb o] ++ c1 from rfl, freeSum_append, hfs]; omega
        · rw [show fb o :: c1 = [fb o] ++ c1 from rfl, outPl_append, lay_one_len, fb_size, show a - 2 ^ o + 2 ^ o = a from by omega, h5]
          simp [outPl, fb]
    · rw [if_neg hf]
      exact ⟨b1, c1, c2, hT, h1, h2, h3, by simp only; omega, h4, h5, fun _ => hf⟩
/-- no two free buddies -/
def NoBud (L : List Pg) : Prop := ∀ a o : Nat, o < 10 → a % (2 * 2 ^ o) = 0 → L[a]? = some (fb o) → L[a + 2 ^ o]? = some (fb o) → False
theorem fb_inj {o o' : Nat} (h : fb o = fb o') : o = o' := by
  have : (o : Int) = o' := by simpa [fb] using h
  omega
theorem fb_ne_in (o : Nat) : fb o ≠ pgIn := by simp [fb, pgIn]
theorem nobud_free {L : List Pg} {a o : Nat} (h : NoBud L) (hl : a + 2 ^ o ≤ L.length) (ha : a % 2 ^ o = 0) (hf : o < 10 → L[other a o]? ≠ some (fb o)) : NoBud (pgPut L a (fb o)) := by
  intro p q hq hp h1 h2
  have hpos := Nat.two_pow_pos q
  rw [pgPut_get (by rw [fb_size]; exact hl)] at h1 h2
  rw [fb_size] at h1 h2
  by_cases e1 : p = a
  · subst e1
    rw [if_pos rfl] at h1
    have := fb_inj (Option.some.inj h1)
    subst this
    rw [if_neg (by omega), if_neg (by omega)] at h2
    exact hf hq (by unfold other; rw [if_pos hp]; exact h2)
  · rw [if_neg e1] at h1
    split at h1
    · exact absurd (Option.some.inj h1).symm (fb_ne_in q)
    · by_cases e2 : p + 2 ^ q = a
      · rw [if_pos e2] at h2
        have := fb_inj (Option.some.inj h2)
        subst this
        refine hf hq ?_
        have : ¬ a % (2 * 2 ^ o) = 0 := by
          rw [← e2]
          intro h0
          have h3 := Nat.dvd_of_mod_eq_zero h0
          have h4 : 2 * 2 ^ o ∣ 2 ^ o := (Nat.dvd_add_right (Nat.dvd_of_mod_eq_zero hp)).1 h3
          have := Nat.le_of_dvd hpos h4
          omega
        unfold other
        rw [if_neg this, show a - 2 ^ o = p from by omega]
        exact h1
      · rw [if_neg e2] at h2
        split at h2
        · exact absurd (Option.some.inj h2).symm (fb_ne_in q)
        · exact h p q hq hp h1 h2
theorem rests_get (order : Nat) : ∀ (k i o : Nat), (lay (rests order k))[i]? = some (fb o) → ∃ j, j < k ∧ i + 2 ^ order = 2 ^ (order + j) ∧ o = order + j
  | 0, i, o, h => by simp [rests, lay] at h
  | k + 1, i, o, h => by
    have hl := rests_len order k
    rw [rests, lay_append] at h
    by_cases hi : i < (lay (rests order k)).length
    · rw [List.getElem?_append_left hi] at h
      obtain ⟨j, h1, h2, h3⟩ := rests_get order k i o h
      exact ⟨j, by omega, h2, h3⟩
    · rw [List.getElem?_append_right (by omega), lay_one] at h
      refine ⟨k, by omega, ?_⟩
      by_cases h0 : i - (lay (rests order k)).length = 0
      · rw [h0] at h
        simp at h
        exact ⟨by omega, (fb_inj h).symm⟩
      · obtain ⟨j, hj⟩ : ∃ j, i - (lay (rests order k)).length = j + 1 := ⟨i - (lay (rests order k)).length - 1, by omega⟩
        rw [hj, List.getElem?_cons_succ, List.getElem?_replicate] at h
        split at h
        · exact absurd (Option.some.inj h).symm (fb_ne_in o)
        · cases h
theorem nobud_alloc {L b1 b2 : List Pg} {order k : Nat} {c : Int} (hN : NoBud L) (h : Tab L (b1 ++ fb (order + k) :: b2)) (hk : order + k ≤ 10) (hc : 0 ≤ c ∧ c ≤ 8) :
    NoBud (pgPut (bSplit (lay b1).length order k L) (lay b1).length (2, (order : Int), c)) := by
  obtain ⟨hT, hal, hle⟩ := alloc_tab h hk hc
  have hx : pgSize ((2 : Int), (order : Int), c) = 2 ^ order := by simp [pgSize]
  have hl := rests_len order k
  have ht := (split_eq (lay b1).length order _ hx k L hle).1
  generalize pgPut (bSplit (lay b1).length order k L) (lay b1).length (2, (order : Int), c) = L' at hT ht ⊢
  generalize hA : (lay b1).length = A at *
  have hpo := Nat.two_pow_pos order
  have htl : (L.take A).length = A := by rw [List.length_take]; omega
  -- what a free block of the new table is
  have key : ∀ (p q : Nat), L'[p]? = some (fb q) → ((p < A ∨ A + 2 ^ (order + k) ≤ p) ∧ L[p]? = some (fb q)) ∨ ∃ j, j < k ∧ p = A + 2 ^ (order + j) ∧ q = order + j := by
    intro p q hp
    rw [ht] at hp
    by_cases h1 : p < A
    · rw [List.getElem?_append_left (by omega), List.getElem?_take, if_pos h1] at hp
      exact .inl ⟨.inl h1, hp⟩
    · rw [List.getElem?_append_right (by omega), htl] at hp
      by_cases h2 : p - A < 2 ^ order
      · rw [List.getElem?_append_left (by rw [lay_one_len, hx]; exact h2), lay_one] at hp
        by_cases h0 : p - A = 0
        · rw [h0] at hp
          simp [fb] at hp
        · obtain ⟨j, hj⟩ : ∃ j, p - A = j + 1 := ⟨p - A - 1, by omega⟩
          rw [hj, List.getElem?_cons_succ, List.getElem?_replicate] at hp
          split at hp
          · exact absurd (Option.some.inj hp).symm (fb_ne_in q)
          · cases hp
      · rw [List.getElem?_append_right (by rw [lay_one_len, hx]; omega), lay_one_len, hx] at hp
        by_cases h3 : p - A - 2 ^ order < (lay (rests order k)).length
        · rw [List.getElem?_append_left h3] at hp
          obtain ⟨j, j1, j2, j3⟩ := rests_get order k _ _ hp
          exact .inr ⟨j, j1, by omega, j3⟩
        · rw [List.getElem?_append_right (by omega), List.getElem?_drop] at hp
          rw [show A + 2 ^ (order + k) + (p - A - 2 ^ order - (lay (rests order k)).length) = p from by omega] at hp
          exact .inl ⟨.inr (by omega), hp⟩
  have hdv : ∀ j, j < k → A % (2 * 2 ^ (order + j)) = 0 := fun j hj => by
    refine mod_of_dvd ?_ hal
    rw [show 2 * 2 ^ (order + j) = 2 ^ (order + j + 1) from by rw [Nat.pow_succ]; omega]
    exact Nat.pow_dvd_pow 2 (by omega)
  intro p q hq hp h1 h2
  rcases key _ _ h1 with ⟨r1, g1⟩ | ⟨j, j1, j2, j3⟩
  · rcases key _ _ h2 with ⟨r2, g2⟩ | ⟨j, j1, j2, j3⟩
    · exact hN p q hq hp g1 g2
    · subst j3
      have : p = A := by omega
      have hpk : 2 ^ (order + k) > 0 := Nat.two_pow_pos _
      omega
  · subst j3
    rw [j2] at hp
    have h3 := Nat.dvd_of_mod_eq_zero hp
    have h4 := (Nat.dvd_add_right (Nat.dvd_of_mod_eq_zero (hdv j j1))).1 h3
    have := Nat.le_of_dvd (Nat.two_pow_pos _) h4
    have := Nat.two_pow_pos (order + j)
    omega
end Go.Proofs.Ytljcndcmdphmgaa
