/-
  Texts of this claim, joined. No condition.
-/
import Derived.Test.YtfgomgodfcdijaaGreatDoorKn16
import Derived.RangeFuncFrom
import Derived.RangeFuncBox
import Derived.Deep.QuietTactic
import Derived.BigQuiet
/-
  Contract: frame.Check, of any table.
-/
namespace Go.Proofs.YtfgomgodfcdijaaGreatDoor
open Go.RowKit Go.Shelf
attribute [local go_sem] Oper.semAt_some
/-- what the iterator may hand on -/
abbrev PgX (L : List Pg) := { x : Int × Pg // x ∈ pgFrom L 0 }
theorem kept2_b {a b : Nat} {w : World} (ha : a < w.heap.size) (hb : b < w.heap.size) (W : World) (l : Nat) (o o' : Obj) (hl : w.heap.size ≤ l) (h : W.heap[l]? = some o) (_ : o.isCells = false) (_ : o.isWalk = false) : Kept2 a b W (W.putObj l o') := by
  have h1 := (Array.getElem?_eq_some_iff.1 h).1
  exact ⟨(grownBy_putObj' W l o').size, World.putObj_heap_other (by omega), World.putObj_heap_other (by omega)⟩
theorem blocks_in (n : Nat) (A : Option Addr) (k c : Nat) (w : World) :
    CallsIn Fence.wide n Tryz.prog 217 #[.slice A k c] w fun e w' => e = .returned (.func (.func 255) #[] #[.pointer (some ⟨w.heap.size, 0, none⟩)]) ∧ w' = w.alloc (.cells #[.slice A k c] 186) := by
  refine callsIn_of_wp Tryz.func217 rfl trivial ?_ rfl
  simp only [Tryz.ntmps217, List.size_toArray, List.length_cons, List.length_nil, Nat.reduceAdd, Nat.reduceSub, Array.replicate_succ, Array.replicate_zero, List.push_toArray, List.append_toArray, List.nil_append, List.cons_append]
  gi_wp2
  go_ret
  exact ⟨rfl, rfl⟩
theorem blocks_stops (n : Nat) (hn : 3 ≤ n) (Bn g o c : Nat) (L : List Pg) (hL : L.length ≤ 60000) (hLc : L.length ≤ c) (hcm : c ≤ 9223372036854775807) (w : World)
    (hc : w.cell? ⟨Bn, 0, none⟩ = some (.slice (some ⟨g, o, none⟩) L.length c)) (hA : PgAt w g o L) :
    SeqStopsK Fence.wide n Tryz.prog 255 #[.pointer (some ⟨Bn, 0, none⟩)] (fun x : PgX L => pgEnc x.1) (Kept2 Bn g) (fun ys => ys.map (·.1) = pgFrom L 0) (fun pre => pre.map (·.1) <+: pgFrom L 0) (L.length + 1) w := by
  intro l J Jx W hW aJ aJx hY h0
  have kk : Kept2 Bn g w W := Kept2.below hW (cell_lt hc) hA.1
  refine (blocks1_in n hn l Bn g o c L hL hLc hcm (fun pre W => ∃ ys : List (PgX L), ys.map (·.1) = pre ∧ J ys W) (fun pre W => ∃ ys : List (PgX L), ys.map (·.1) = pre ∧ Jx ys W) W ?_ ?_ ?_ (kk.cell hc) (kk.pg hA) ⟨[], rfl, h0⟩).mono ?_
  · rintro s A B row ⟨ys, hy, hj⟩ hg hr
    exact ⟨ys, hy, aJ ys A B row hj hg hr⟩
  · rintro s A B row ⟨ys, hy, hj⟩ hg hr
    exact ⟨ys, hy, aJx ys A B row hj hg hr⟩
  · rintro pre x W1 ⟨ys, rfl, hj⟩ hlen hx
    refine YieldAt.mono (hY ys ⟨x, hx⟩ W1 hj (by simpa using hlen)) ?_
    rintro e W' (⟨rfl, hj', hk⟩ | ⟨rfl, hj'⟩)
    · exact .inl ⟨rfl, ⟨_, by simp, hj'⟩, hk⟩
    · exact .inr ⟨rfl, ⟨_, by simp, hj'⟩⟩
  · rintro e W' ⟨hv, (⟨_, rfl, ys, hy, hj⟩ | ⟨_, hp, ys, rfl, hj⟩)⟩
    · exact ⟨hv, .inl ⟨ys, hy, hj⟩⟩
    · exact ⟨hv, .inr ⟨ys, hp, hj⟩⟩
theorem blocks_stopsN (n : Nat) (hn : 3 ≤ n) (Bn g o c N : Nat) (L : List Pg) (hN : L.length = N) (hL : N ≤ 60000) (hLc : N ≤ c) (hcm : c ≤ 9223372036854775807) (w : World)
    (hc : w.cell? ⟨Bn, 0, none⟩ = some (.slice (some ⟨g, o, none⟩) N c)) (hA : PgAt w g o L) :
    SeqStopsK Fence.wide n Tryz.prog 255 #[.pointer (some ⟨Bn, 0, none⟩)] (fun x : PgX L => pgEnc x.1) (Kept2 Bn g) (fun ys => ys.map (·.1) = pgFrom L 0) (fun pre => pre.map (·.1) <+: pgFrom L 0) (N + 1) w := by
  subst hN
  exact blocks_stops n hn Bn g o c L hL hLc hcm w hc hA
def AllNN {L : List Pg} (pre : List (PgX L)) : Prop := ∀ y ∈ pre, 0 ≤ y.1.1
def SomeNeg {L : List Pg} (pre : List (PgX L)) : Prop := ∃ y ∈ pre, y.1.1 < 0
def tabOk (L : List Pg) : Bool := (pgFrom L 0).all fun x => decide (0 ≤ x.1)
/-- what Check answers -/
def pgCheck (L : List Pg) : Int := if 1 ≤ L.length ∧ L.length ≤ 1024 ∧ tabOk L = true then 0 else 50
theorem pgCheck_yes {L : List Pg} (h1 : 1 ≤ L.length) (h2 : L.length ≤ 1024) (h : ∀ x ∈ pgFrom L 0, 0 ≤ x.1) : pgCheck L = 0 := by
  unfold pgCheck
  rw [if_pos ⟨h1, h2, by unfold tabOk; rw [List.all_eq_true]; intro x hx; exact decide_eq_true (h x hx)⟩]
theorem pgCheck_no {L : List Pg} {x : Int × Pg} (h : x ∈ pgFrom L 0) (hx : x.1 < 0) : pgCheck L = 50 := by
  unfold pgCheck
  rw [if_neg]
  rintro ⟨_, _, h3⟩
  unfold tabOk at h3
  rw [List.all_eq_true] at h3
  have := of_decide_eq_true (h3 x h)
  omega
set_option maxRecDepth 100000 in
set_option maxHeartbeats 2000000 in
theorem check_loop (g o c N : Nat) (L : List Pg) (hN : Hid (L.length = N)) (hL1 : 1 ≤ N) (hL : N ≤ 1024) (hLc : N ≤ c) (hcm : c ≤ 9223372036854775807) (w : World) (hA : PgAt w g o L) :
    CallsIn Fence.wide 10 Tryz.prog 149 #[.slice (some ⟨g, o, none⟩) N c] w fun e W' => e = .returned (.int .i64 (pgCheck L)) ∧ Below w.heap.size w W' := by
  have hn0 : ((N : Int) == 0) = false := by rw [beq_eq_false_iff_ne]; omega
  have hn2 : decide (1024 < (N : Int)) = false := decide_eq_false (by omega)
  refine callsIn_of_wp_marks Tryz.func149 rfl trivial ?_ rfl
  simp only [Tryz.ntmps149, List.size_toArray, List.length_cons, List.length_nil, Nat.reduceAdd, Nat.reduceSub, Array.replicate_succ, Array.replicate_zero, List.push_toArray, List.append_toArray, List.nil_append, List.cons_append]
  have hw : Fence.wide.fn 217 := trivial
  have hn1 : 1 ≤ 10 := by omega
  gi_wp2_with (gi_at_call 217; refine (blocks_in 9 _ _ _ _).mono ?_; rintro e w' ⟨rfl, rfl⟩)
  have b0 := (Boxed.new w 23 (.int .i64 0)).alloc (.cells #[.slice (some ⟨g, o, none⟩) N c] 186)
  have b1 := Boxed.new (w.alloc (.cells #[.int .i64 0] 23)) 186 (.slice (some ⟨g, o, none⟩) N c)
  simp only [World.size_alloc] at b1
  have hB0 : Below w.heap.size w ((w.alloc (.cells #[.int .i64 0] 23)).alloc (.cells #[.slice (some ⟨g, o, none⟩) N c] 186)) := ((Below.refl _ w).alloc (Nat.le_refl _) _).alloc (by simp) _
  have hgl := hA.1
  have hk0 : Kept2 g g w _ := Kept2.below hB0 hgl hgl
  have hA0 := hk0.pg hA
  have hsz : ((w.alloc (.cells #[.int .i64 0] 23)).alloc (.cells #[.slice (some ⟨g, o, none⟩) N c] 186)).heap.size = w.heap.size + 2 := by simp
  obtain ⟨W0, hW0⟩ : ∃ W0, (w.alloc (.cells #[.int .i64 0] 23)).alloc (.cells #[.slice (some ⟨g, o, none⟩) N c] 186) = W0 := ⟨_, rfl⟩
  rw [hW0] at b0 b1 hB0 hsz hk0 hA0 ⊢
  clear hW0
  refine wpIn_rangeFunc_ownF rfl hn1 (gf := 255) (lb := #[.pointer (some ⟨w.heap.size + 1, 0, none⟩)]) rfl trivial (enters_of Tryz.func255 (by kernel_rfl) rfl)
    (blocks_stopsN 9 (by omega) (w.heap.size + 1) g o c N L hN.out (by omega) hLc hcm W0 b1.cell hA0) (fun h k => h.trans k) (kept2_b (by omega) (by omega)) (Below.refl _ _) (fun _ => rfl)
    (fun pre W => (AllNN pre ∧ Boxed W w.heap.size 23 (.int .i64 0)) ∧ Below w.heap.size w W)
    (fun c pre W => (c = .ret ∧ SomeNeg pre ∧ Boxed W w.heap.size 23 (.int .i64 50)) ∧ Below w.heap.size w W)
    (OwnFrom.and (OwnFrom.and (ownFrom_pure _ _) (Own.from (boxed_own _ _ _) _)) (ownFrom_below (Nat.le_refl _) (by omega)))
    (fun c => OwnFrom.and (OwnFrom.and (ownFrom_pure _ _) (OwnFrom.and (ownFrom_pure _ _) (Own.from (boxed_own _ _ _) _))) (ownFrom_below (Nat.le_refl _) (by omega)))
    ⟨⟨fun y hy => by simp at hy, b0⟩, hB0⟩
    (fun x => { tmps := #[.slice (some ⟨g, o, none⟩) N c, undef, .pointer (some ⟨w.heap.size, 0, none⟩), .int .i64 x.1.1, .slice (some ⟨g, o, none⟩) N c, .int .i64 N, .bool false, .bool false, .slice (some ⟨g, o, none⟩) N c, .int .i64 N, .bool false, .bool false, .slice (some ⟨g, o, none⟩) N c, .func (.func 255) #[] #[.pointer (some ⟨w.heap.size + 1, 0, none⟩)], .int .i64 x.1.1, .agg #[.int .i64 x.1.2.1, .int .i64 x.1.2.2.1, .int .i64 x.1.2.2.2], undef, undef], defers := [] }) ?assign ?body ?done ?stop
  case assign =>
    intro l x W K hK
    gi_wp2
    exact hK
  case body =>
    rintro l pre x W ⟨⟨hp, hb⟩, hB⟩ _
    have hc := hb.cell
    have hf := hb.frozen
    by_cases hx : x.1.1 < 0
    · gi_wp2
      exact ⟨KeepsOthers.setCell _ _ _, ⟨rfl, ⟨x, by simp, hx⟩, hb.set _⟩, hB.setCell (p := ⟨w.heap.size, 0, none⟩) (by simp) _⟩
    · gi_wp2
      exact ⟨KeepsOthers.refl _, Kept2.refl _ _ _, ⟨fun y hy => (List.mem_append.1 hy).elim (hp y) (fun h => by simp at h; subst h; omega), hb⟩, hB⟩
  case done =>
    rintro D ys W hD hys ⟨⟨hne, hb⟩, hB⟩ hK
    have hc := hb.cell
    have hf := hb.frozen
    gi_wp2
    have hb' := hb.set (.int .i64 0)
    have hK' := (KeepsOthers.setCell W ⟨w.heap.size, 0, none⟩ (.int .i64 0)).same D _ hK rfl
    refine ⟨by simp, .inl ⟨_, _, rfl, run_takeDeferred hK', ?_⟩⟩
    have hc5 := cell_kept hb'.cell (grownBy_putObj' _ D (.deferred none)) (fun r e => by cases e; exact ⟨_, hK', rfl⟩)
    have hall : ∀ x ∈ pgFrom L 0, 0 ≤ x.1 := fun x hx => by
      rw [← hys] at hx
      obtain ⟨y, hy, rfl⟩ := List.mem_map.1 hx
      exact hne y hy
    refine ⟨.int .i64 0, ?_, by rw [pgCheck_yes (by rw [hN.out]; exact hL1) (by rw [hN.out]; exact hL) hall], (hB.setCell (p := ⟨w.heap.size, 0, none⟩) (by simp) _).trans (belowK_b (w := w) (Nat.le_refl _) _ D _ _ (by omega) hK' rfl rfl)⟩
    simp [results, Tryz.f149, go_sem, hc5]
  case stop =>
    rintro D c pre W hD hpre ⟨⟨rfl, ⟨y, hy, hy0⟩, hb⟩, hB⟩ hK
    have hc := hb.cell
    have hf := hb.frozen
    gi_wp2
    refine ⟨by simp, .inl ⟨_, _, rfl, run_takeDeferred hK, ?_⟩⟩
    have hc5 := cell_kept hc (grownBy_putObj' _ D (.deferred none)) (fun r e => by cases e; exact ⟨_, hK, rfl⟩)
    refine ⟨.int .i64 50, ?_, by rw [pgCheck_no (hpre.subset (List.mem_map_of_mem hy)) hy0], hB.trans (belowK_b (w := w) (Nat.le_refl _) W D _ _ (by omega) hK rfl rfl)⟩
    simp [results, Tryz.f149, go_sem, hc5]
end Go.Proofs.YtfgomgodfcdijaaGreatDoor

/-
  Contract: frame.head, of a table that may be.
-/
namespace Go.Proofs.YtfgomgodfcdijaaGreatDoor
open Go.RowKit Go.Shelf
attribute [local go_sem] Oper.semAt_some
/-- the head of a page's block -/
def pgHdIn (page : Int) (l : List (Int × Pg)) : Option (Int × Pg) := l.find? fun y => decide (page < y.1 + pgSize y.2)
def pgHd (L : List Pg) (page : Int) : Int := match pgHdIn page (pgFrom L 0) with | some y => y.1 | none => 0
theorem pgHdIn_hit {page : Int} {pre : List (Int × Pg)} {x : Int × Pg} (post : List (Int × Pg)) (h : pgHdIn page pre = none) (hx : page < x.1 + pgSize x.2) : pgHdIn page (pre ++ [x] ++ post) = some x := by
  unfold pgHdIn at *
  rw [List.append_assoc, List.find?_append, h]
  simp [hx]
theorem pgHdIn_miss {page : Int} {pre : List (Int × Pg)} {x : Int × Pg} (h : pgHdIn page pre = none) (hx : ¬ page < x.1 + pgSize x.2) : pgHdIn page (pre ++ [x]) = none := by
  unfold pgHdIn at *
  rw [List.find?_append, h]
  simp
  omega
theorem tab_mem_aux (L : List Pg) : ∀ (f i : Nat), (∀ x ∈ pgYields L f i, 0 ≤ x.1) → ∀ x ∈ pgYields L f i, pgHead x.2 = true ∧ x.1 + pgSize x.2 ≤ L.length
  | 0, i, _, x, hx => by simp [pgYields] at hx
  | f + 1, i, h0, x, hx => by
    unfold pgYields at hx h0
    cases hp : L[i]? with
    | none => simp [hp] at hx
    | some p =>
      simp only [hp] at hx h0
      cases ho : pgOk L i p with
      | false =>
        rw [ho] at h0
        have := h0 _ List.mem_cons_self
        simp at this
      | true =>
        rw [ho] at hx h0
        simp only [if_true, List.mem_cons] at hx
        rcases hx with rfl | hx
        · unfold pgOk at ho
          simp only [Bool.and_eq_true, decide_eq_true_eq] at ho
          exact ⟨ho.1.1.1, by have := ho.1.2; simp only; omega⟩
        · exact tab_mem_aux L f _ (fun y hy => h0 y (by simp [hy])) x hx
theorem tab_mem {L : List Pg} (h : ∀ x ∈ pgFrom L 0, 0 ≤ x.1) : ∀ x ∈ pgFrom L 0, pgHead x.2 = true ∧ x.1 + pgSize x.2 ≤ L.length := tab_mem_aux L _ _ h
theorem pgHead_order {p : Pg} (h : pgHead p = true) : 0 ≤ p.2.1 ∧ p.2.1 ≤ 10 := by
  have := of_decide_eq_true h
  omega
def NoHit {L : List Pg} (page : Int) (pre : List (PgX L)) : Prop := pgHdIn page (pre.map (·.1)) = none
def Hit {L : List Pg} (page : Int) (pre : List (PgX L)) (v : Int) : Prop := ∃ p x, pre = p ++ [x] ∧ NoHit page p ∧ page < x.1.1 + pgSize x.1.2 ∧ v = x.1.1
/-- a box of a page -/
def Box3 (W : World) (B : Nat) (t : TypeId) (p : Pg) : Prop := W.heap[B]? = some (.cells #[.int .i64 p.1, .int .i64 p.2.1, .int .i64 p.2.2] t (0, 0))
theorem Box3.cells {W : World} {B : Nat} {t : TypeId} {p : Pg} (h : Box3 W B t p) : W.cell? ⟨B, 0, none⟩ = some (.int .i64 p.1) ∧ W.cell? ⟨B, 1, none⟩ = some (.int .i64 p.2.1) ∧ W.cell? ⟨B, 2, none⟩ = some (.int .i64 p.2.2) := by
  simp [World.cell?, show W.heap[B]? = _ from h]
theorem box3_own (B : Nat) (t : TypeId) (p : Pg) (n : Nat) : OwnFrom n (fun (_ : Unit) W => Box3 W B t p) := by
  intro s X Y row hs hg hr
  refine (hg.block B (Array.getElem?_eq_some_iff.1 hs).1 fun e => ?_).trans hs
  obtain ⟨_, o, ho, hc⟩ := hr B e.symm
  rw [show X.heap[B]? = _ from hs] at ho; cases ho; cases hc
set_option maxRecDepth 100000 in
set_option maxHeartbeats 4000000 in
theorem head_in (g o c N : Nat) (L : List Pg) (hN : Hid (L.length = N)) (hL : N ≤ 1024) (hLc : N ≤ c) (hcm : c ≤ 9223372036854775807) (page : Int) (hT : Hid (∀ x ∈ pgFrom L 0, 0 ≤ x.1)) (w : World) (hA : PgAt w g o L) :
    CallsIn Fence.wide 10 Tryz.prog 150 #[.slice (some ⟨g, o, none⟩) N c, .int .i64 page] w fun e W' => e = .returned (.int .i64 (pgHd L page)) ∧ Below w.heap.size w W' := by
  refine callsIn_of_wp_marks Tryz.func150 rfl trivial ?_ rfl
  simp only [Tryz.ntmps150, List.size_toArray, List.length_cons, List.length_nil, Nat.reduceAdd, Nat.reduceSub, Array.replicate_succ, Array.replicate_zero, List.push_toArray, List.append_toArray, List.nil_append, List.cons_append]
  have hw : Fence.wide.fn 217 := trivial
  have hn1 : 1 ≤ 10 := by omega
  gi_wp2_with (gi_at_call 217; refine (blocks_in 9 _ _ _ _).mono ?_; rintro e w' ⟨rfl, rfl⟩)
  have bP := ((Boxed.new w 3 (.int .i64 page)).alloc (.cells #[.int .i64 0] 3)).alloc (.cells #[.slice (some ⟨g, o, none⟩) N c] 186)
  have b0 := (Boxed.new (w.alloc (.cells #[.int .i64 page] 3)) 3 (.int .i64 0)).alloc (.cells #[.slice (some ⟨g, o, none⟩) N c] 186)
  have b1 := Boxed.new ((w.alloc (.cells #[.int .i64 page] 3)).alloc (.cells #[.int .i64 0] 3)) 186 (.slice (some ⟨g, o, none⟩) N c)
  simp only [World.size_alloc] at b0 b1
  have hB0 : Below w.heap.size w (((w.alloc (.cells #[.int .i64 page] 3)).alloc (.cells #[.int .i64 0] 3)).alloc (.cells #[.slice (some ⟨g, o, none⟩) N c] 186)) := (((Below.refl _ w).alloc (Nat.le_refl _) _).alloc (by simp) _).alloc (by simp; omega) _
  have hgl := hA.1
  have hk0 : Kept2 g g w _ := Kept2.below hB0 hgl hgl
  have hA0 := hk0.pg hA
  have hsz : (((w.alloc (.cells #[.int .i64 page] 3)).alloc (.cells #[.int .i64 0] 3)).alloc (.cells #[.slice (some ⟨g, o, none⟩) N c] 186)).heap.size = w.heap.size + 3 := by simp
  obtain ⟨W0, hW0⟩ : ∃ W0, ((w.alloc (.cells #[.int .i64 page] 3)).alloc (.cells #[.int .i64 0] 3)).alloc (.cells #[.slice (some ⟨g, o, none⟩) N c] 186) = W0 := ⟨_, rfl⟩
  rw [hW0] at bP b0 b1 hB0 hsz hk0 hA0 ⊢
  clear hW0
  refine wpIn_rangeFunc_ownH rfl hn1 (gf := 255) (lb := #[.pointer (some ⟨w.heap.size + 1 + 1, 0, none⟩)]) rfl trivial (enters_of Tryz.func255 (by kernel_rfl) rfl)
    (blocks_stopsN 9 (by omega) (w.heap.size + 1 + 1) g o c N L hN.out (by omega) hLc hcm W0 b1.cell hA0) (fun h k => h.trans k) (kept2_b (by omega) (by omega)) (Below.refl _ _) (fun _ => rfl)
    (fun pre W => (NoHit page pre ∧ Boxed W w.heap.size 3 (.int .i64 page) ∧ Boxed W (w.heap.size + 1) 3 (.int .i64 0) ∧ W0.heap.size ≤ W.heap.size) ∧ Below w.heap.size w W)
    (fun c pre W => (c = .ret ∧ ∃ v, Hit page pre v ∧ Boxed W (w.heap.size + 1) 3 (.int .i64 v)) ∧ Below w.heap.size w W)
    (OwnFrom.and (OwnFrom.and (ownFrom_pure _ _) (OwnFrom.and (Own.from (boxed_own _ _ _) _) (OwnFrom.and (Own.from (boxed_own _ _ _) _) (fun _ _ _ _ hs hg _ => Nat.le_trans hs hg.size)))) (ownFrom_below (Nat.le_refl _) (by omega)))
    (fun c => OwnFrom.and (OwnFrom.and (ownFrom_pure _ _) (fun s X Y row hs hg hr => by obtain ⟨v, h1, h2⟩ := hs; exact ⟨v, h1, boxed_own _ _ (fun (_ : Unit) => Value.int .i64 v) () X Y row h2 hg (fun r e => (hr r e).2)⟩)) (ownFrom_below (Nat.le_refl _) (by omega)))
    ⟨⟨rfl, bP, b0, Nat.le_refl _⟩, hB0⟩
    (fun x a' W => ∃ Bx, w.heap.size + 2 < Bx ∧ Box3 W Bx 191 x.1.2 ∧ a' = { tmps := #[.slice (some ⟨g, o, none⟩) N c, .int .i64 page, undef, .pointer (some ⟨w.heap.size, 0, none⟩), .pointer (some ⟨w.heap.size + 1, 0, none⟩), .int .i64 x.1.1, .pointer (some ⟨Bx, 0, none⟩), .slice (some ⟨g, o, none⟩) N c, .func (.func 255) #[] #[.pointer (some ⟨w.heap.size + 1 + 1, 0, none⟩)], .int .i64 x.1.1, .agg #[.int .i64 x.1.2.1, .int .i64 x.1.2.2.1, .int .i64 x.1.2.2.2], undef, undef, undef, undef, undef, undef, undef, undef], defers := [] })
    (fun x a' s X Y row hs hg hr => by obtain ⟨Bx, h1, h2, h3⟩ := hs; exact ⟨Bx, h1, box3_own Bx _ x.1.2 _ () X Y row h2 hg hr, h3⟩)
    ?assign ?body ?done ?stop
  case assign =>
    rintro l pre x W K ⟨⟨hno, hbP, hb0, hge⟩, hB⟩ hK
    gi_wp2
    exact hK _ _ ((KeepsOthers.alloc _ _).from _) (Kept2.below ((Below.refl _ W).alloc (Nat.le_refl _) _) (by omega) (by omega)) ⟨⟨hno, hbP.alloc _, hb0.alloc _, by simp; omega⟩, hB.alloc (by have := hB.size; omega) _⟩ ⟨W.heap.size, by omega, World.alloc_heap_new W _, rfl⟩
  case body =>
    rintro l pre x a' W hl ⟨r, hr⟩ ⟨⟨hno, hbP, hb0, hge⟩, hB⟩ ⟨Bx, hBx, b3, rfl⟩ hlt
    obtain ⟨⟨at0, p0, p1, p2⟩, hxm⟩ := x
    obtain ⟨hpo, hple⟩ := tab_mem hT.out _ hxm
    have hpa := hT.out _ hxm
    rw [hN.out] at hple
    have hord := pgHead_order hpo
    simp only at hord hpa hple
    have hat : at0 ≤ 1024 := by have := pgSize_pos (p0, p1, p2); omega
    obtain ⟨s, rfl⟩ : ∃ s : Nat, p1 = (s : Int) := ⟨p1.toNat, by omega⟩
    have hpw : (2 : Nat) ^ s ≤ 2 ^ 10 := Nat.pow_le_pow_right (by omega) (by omega)
    have hmin : min s 64 = s := by omega
    obtain ⟨M, hM⟩ : ∃ M : Nat, 2 ^ s = M := ⟨_, rfl⟩
    have hMi : (2 : Int) ^ s = (M : Int) := by rw [← hM]; simp
    have hM1 : 1 ≤ M := by rw [← hM]; exact Nat.one_le_two_pow
    have hs0 : (0 : Int) ≤ s := by omega
    have hszx : pgSize (p0, ((s : Nat) : Int), p2) = M := by simp [pgSize, hM]
    have HSZ := Lib.hid hszx
    rw [hszx] at hple
    clear hM hszx hpw
    obtain ⟨c0, c1, c2⟩ := b3.cells
    have cP := hbP.cell
    have cR := hb0.cell
    have fR := hb0.frozen
    simp only at c0 c1 c2 cP cR fR
    have hw1 : IntKind.i64.wrap (M : Int) = (M : Int) := by rw [IntWalk.i64_in] <;> omega
    have hw2 : IntKind.i64.wrap (at0 + M) = at0 + M := by rw [IntWalk.i64_in] <;> omega
    by_cases hlt : page < at0 + M
    · gi_wp2
      gi_region
      all_goals
        gi_wp2
        exact ⟨((KeepsOthers.drew _).trans (KeepsOthers.setCell _ _ _)).from _, ⟨rfl, at0, ⟨pre, _, rfl, hno, by rw [HSZ.out]; exact hlt, rfl⟩, Boxed.set _ (show Boxed W.drew _ _ _ from hb0)⟩, hB.drew.setCell (p := ⟨w.heap.size + 1, 0, none⟩) (by simp) _⟩
    · have hno' : NoHit page (pre ++ [⟨(at0, p0, ((s : Nat) : Int), p2), hxm⟩]) := by
        unfold NoHit
        rw [List.map_append]
        exact pgHdIn_miss hno (by rw [HSZ.out]; exact hlt)
      gi_wp2
      gi_region
      all_goals
        gi_wp2
        exact ⟨(KeepsOthers.drew _).from _, Kept2.below ((Below.refl _ W).drew) (by omega) (by omega), ⟨hno', hbP, hb0, hge⟩, hB.drew⟩
  case done =>
    rintro D ys W hD hys ⟨⟨hno, hbP, hb, hge⟩, hB⟩ hK
    have hc := hb.cell
    have hf := hb.frozen
    gi_wp2
    have hb' := hb.set (.int .i64 0)
    have hK' := (KeepsOthers.setCell W ⟨w.heap.size + 1, 0, none⟩ (.int .i64 0)).same D _ hK rfl
    refine ⟨by simp, .inl ⟨_, _, rfl, run_takeDeferred hK', ?_⟩⟩
    have hc5 := cell_kept hb'.cell (grownBy_putObj' _ D (.deferred none)) (fun r e => by cases e; exact ⟨_, hK', rfl⟩)
    have hh : pgHd L page = 0 := by
      unfold pgHd
      rw [← hys, hno]
    refine ⟨.int .i64 0, ?_, by rw [hh], (hB.setCell (p := ⟨w.heap.size + 1, 0, none⟩) (by simp) _).trans (belowK_b (w := w) (Nat.le_refl _) _ D _ _ (by omega) hK' rfl rfl)⟩
    simp [results, Tryz.f150, go_sem, hc5]
  case stop =>
    rintro D c pre W hD hpre ⟨⟨rfl, v, ⟨p, x, rfl, hno, hx, rfl⟩, hb⟩, hB⟩ hK
    have hh : pgHd L page = x.1.1 := by
      obtain ⟨post, hp⟩ := hpre
      have t := pgHdIn_hit post hno hx
      rw [List.map_append, List.map_cons, List.map_nil] at hp
      rw [hp] at t
      unfold pgHd
      rw [t]
    have HH := Lib.hid hh
    clear hh
    have hc := hb.cell
    have hf := hb.frozen
    gi_wp2
    refine ⟨by simp, .inl ⟨_, _, rfl, run_takeDeferred hK, ?_⟩⟩
    have hc5 := cell_kept hc (grownBy_putObj' _ D (.deferred none)) (fun r e => by cases e; exact ⟨_, hK, rfl⟩)
    refine ⟨.int .i64 x.1.1, ?_, by rw [HH.out], hB.trans (belowK_b (w := w) (Nat.le_refl _) W D _ _ (by omega) hK rfl rfl)⟩
    simp [results, Tryz.f150, go_sem, hc5]
end Go.Proofs.YtfgomgodfcdijaaGreatDoor

/-
  Contract: frame.Free, of any table: the loop over a table that may be.
-/
namespace Go.Proofs.YtfgomgodfcdijaaGreatDoor
open Go.RowKit Go.Shelf
attribute [local go_sem] Oper.semAt_some
/-- the pages of free blocks -/
def pgFreeIn (l : List (Int × Pg)) : Int := (l.map fun y => if y.2.1 = 0 then (pgSize y.2 : Int) else 0).sum
theorem pgFreeIn_snoc (l : List (Int × Pg)) (x : Int × Pg) : pgFreeIn (l ++ [x]) = pgFreeIn l + if x.2.1 = 0 then (pgSize x.2 : Int) else 0 := by simp [pgFreeIn]
theorem kept2_set {a b p : Nat} (W : World) (v : Value) (ha : a ≠ p) (hb : b ≠ p) : Kept2 a b W (W.setCell ⟨p, 0, none⟩ v).drew :=
  ⟨by simp [World.drew], Below.heap_setCell W ⟨p, 0, none⟩ v a ha, Below.heap_setCell W ⟨p, 0, none⟩ v b hb⟩
def FreeIs {L : List Pg} (pre : List (PgX L)) (n : Int) : Prop := pgFreeIn (pre.map (·.1)) = n ∧ 0 ≤ n ∧ n ≤ pre.length * 1024
/-- what Free answers -/
def pgFree (L : List Pg) : Int := if pgCheck L = 0 then pgFreeIn (pgFrom L 0) else 0
theorem pgCheck_zero {L : List Pg} (h : pgCheck L = 0) : 1 ≤ L.length ∧ L.length ≤ 1024 ∧ ∀ x ∈ pgFrom L 0, 0 ≤ x.1 := by
  unfold pgCheck at h
  split at h
  · rename_i h'
    refine ⟨h'.1, h'.2.1, fun x hx => ?_⟩
    have := h'.2.2
    unfold tabOk at this
    rw [List.all_eq_true] at this
    exact of_decide_eq_true (this x hx)
  · omega
set_option maxRecDepth 100000 in
set_option maxHeartbeats 4000000 in
theorem free_in (g o c N : Nat) (L : List Pg) (hN : Hid (L.length = N)) (hL1 : 1 ≤ N) (hL : N ≤ 1024) (hLc : N ≤ c) (hcm : c ≤ 9223372036854775807) (hT : Hid (∀ x ∈ pgFrom L 0, 0 ≤ x.1)) (hCk : Hid (pgCheck L = 0)) (w : World) (hA : PgAt w g o L) :
    CallsIn Fence.wide 20 Tryz.prog 154 #[.slice (some ⟨g, o, none⟩) N c] w fun e W' => e = .returned (.int .i64 (pgFree L)) ∧ Below w.heap.size w W' := by
  refine callsIn_of_wp_marks Tryz.func154 rfl trivial ?_ rfl
  simp only [Tryz.ntmps154, List.size_toArray, List.length_cons, List.length_nil, Nat.reduceAdd, Nat.reduceSub, Array.replicate_succ, Array.replicate_zero, List.push_toArray, List.append_toArray, List.nil_append, List.cons_append]
  have hw : Fence.wide.fn 217 := trivial
  have hw2 : Fence.wide.fn 149 := trivial
  have hn1 : 1 ≤ 20 := by omega
  have b0 := Boxed.new w 3 (.int .i64 0)
  obtain ⟨w1, hw1⟩ : ∃ w1, w.alloc (.cells #[.int .i64 0] 3) = w1 := ⟨_, rfl⟩
  have hz1 : w1.heap.size = w.heap.size + 1 := by rw [← hw1]; simp
  have hb1 : Below w.heap.size w w1 := by rw [← hw1]; exact (Below.refl _ w).alloc (Nat.le_refl _) _
  have hA1 : PgAt w1 g o L := (Kept2.below hb1 hA.1 hA.1).pg hA
  rw [hw1] at b0
  gi_wp2_with (first | (gi_at_call 149; refine (callsIn_wide.2 (callsIn_wide.1 (check_loop g o c N L hN hL1 hL hLc hcm w1 hA1))).mono ?_; rintro e w2 ⟨rfl, hb2⟩; rw [hCk.out]) | (gi_at_call 217; refine (blocks_in _ _ _ _ _).mono ?_; rintro e w' ⟨rfl, rfl⟩))
  clear hw1
  have hz2 := hb2.size
  have bN : Boxed w2 w.heap.size 3 (.int .i64 0) := (hb2.block _ (by omega)).trans b0
  have b0 := bN.alloc (.cells #[.slice (some ⟨g, o, none⟩) N c] 186)
  have b1 := Boxed.new w2 186 (.slice (some ⟨g, o, none⟩) N c)
  have hB0 : Below w.heap.size w (w2.alloc (.cells #[.slice (some ⟨g, o, none⟩) N c] 186)) := (hb1.trans (hb2.mono (by omega))).alloc (by omega) _
  have hgl := hA.1
  have hA0 := (Kept2.below hB0 hgl hgl).pg hA
  have hsz : (w2.alloc (.cells #[.slice (some ⟨g, o, none⟩) N c] 186)).heap.size = w2.heap.size + 1 := by simp
  obtain ⟨W0, hW0⟩ : ∃ W0, w2.alloc (.cells #[.slice (some ⟨g, o, none⟩) N c] 186) = W0 := ⟨_, rfl⟩
  rw [hW0] at b0 b1 hB0 hsz hA0 ⊢
  clear hW0 bN
  obtain ⟨Bn, hBn⟩ : ∃ Bn, w2.heap.size = Bn := ⟨_, rfl⟩
  rw [hBn] at b1 hsz hz2 ⊢
  refine wpIn_rangeFunc_ownH rfl hn1 (gf := 255) (lb := #[.pointer (some ⟨Bn, 0, none⟩)]) rfl trivial (enters_of Tryz.func255 (by kernel_rfl) rfl)
    (blocks_stopsN 19 (by omega) Bn g o c N L hN.out (by omega) hLc hcm W0 b1.cell hA0) (fun h k => h.trans k) (kept2_b (by omega) (by omega)) (Below.refl _ _) (fun _ => rfl)
    (fun pre W => (∃ k, FreeIs pre k ∧ Boxed W w.heap.size 3 (.int .i64 k) ∧ W0.heap.size ≤ W.heap.size) ∧ Below w.heap.size w W)
    (fun c pre W => False)
    (OwnFrom.and (fun s X Y row hs hg hr => by obtain ⟨v, h1, h2, h3⟩ := hs; exact ⟨v, h1, boxed_own _ _ (fun (_ : Unit) => Value.int .i64 v) () X Y row h2 hg (fun r e => (hr r e).2), Nat.le_trans h3 hg.size⟩) (ownFrom_below (Nat.le_refl _) (by omega)))
    (fun c => ownFrom_pure _ (fun _ => False))
    ⟨⟨0, ⟨rfl, by omega, by simp⟩, b0, Nat.le_refl _⟩, hB0⟩
    (fun x a' W => ∃ Bx, w.heap.size < Bx ∧ Box3 W Bx 191 x.1.2 ∧ a' = { tmps := #[.slice (some ⟨g, o, none⟩) N c, undef, .pointer (some ⟨w.heap.size, 0, none⟩), undef, .pointer (some ⟨Bx, 0, none⟩), .slice (some ⟨g, o, none⟩) N c, .int .i64 0, .bool false, .slice (some ⟨g, o, none⟩) N c, .func (.func 255) #[] #[.pointer (some ⟨Bn, 0, none⟩)], .int .i64 x.1.1, .agg #[.int .i64 x.1.2.1, .int .i64 x.1.2.2.1, .int .i64 x.1.2.2.2], undef, undef, undef, undef, undef, undef, undef, undef, undef], defers := [] })
    (fun x a' s X Y row hs hg hr => by obtain ⟨Bx, h1, h2, h3⟩ := hs; exact ⟨Bx, h1, box3_own Bx _ x.1.2 _ () X Y row h2 hg hr, h3⟩)
    ?assign ?body ?done ?stop
  case assign =>
    rintro l pre x W K ⟨⟨k, hk, hb, hge⟩, hB⟩ hK
    gi_wp2
    exact hK _ _ ((KeepsOthers.alloc _ _).from _) (Kept2.below ((Below.refl _ W).alloc (Nat.le_refl _) _) (by omega) (by omega)) ⟨⟨k, hk, hb.alloc _, by simp; omega⟩, hB.alloc (by have := hB.size; omega) _⟩ ⟨W.heap.size, by omega, World.alloc_heap_new W _, rfl⟩
  case body =>
    rintro l pre x a' W hl ⟨r, hr⟩ ⟨⟨k, hk, hb, hge⟩, hB⟩ ⟨Bx, hBx, b3, rfl⟩ hlt
    obtain ⟨⟨at0, p0, p1, p2⟩, hxm⟩ := x
    obtain ⟨hpo, hple⟩ := tab_mem hT.out _ hxm
    have hpa := hT.out _ hxm
    rw [hN.out] at hple
    have hord := pgHead_order hpo
    simp only at hord hpa hple
    obtain ⟨s, rfl⟩ : ∃ s : Nat, p1 = (s : Int) := ⟨p1.toNat, by omega⟩
    have hpw : (2 : Nat) ^ s ≤ 2 ^ 10 := Nat.pow_le_pow_right (by omega) (by omega)
    have hmin : min s 64 = s := by omega
    obtain ⟨M, hM⟩ : ∃ M : Nat, 2 ^ s = M := ⟨_, rfl⟩
    have hMi : (2 : Int) ^ s = (M : Int) := by rw [← hM]; simp
    have hM1 : 1 ≤ M := by rw [← hM]; exact Nat.one_le_two_pow
    have hs0 : (0 : Int) ≤ s := by omega
    have hszx : pgSize (p0, ((s : Nat) : Int), p2) = M := by simp [pgSize, hM]
    have HSZ := Lib.hid hszx
    rw [hszx] at hple
    obtain ⟨hk1, hk2, hk3⟩ := hk
    have HK1 := Lib.hid hk1
    have hM2 : M ≤ 1024 := by omega
    have hpl : (pre.length : Int) ≤ N := by omega
    have hk4 : k ≤ 1048576 := by omega
    clear hM hszx hpw hk1
    obtain ⟨c0, c1, c2⟩ := b3.cells
    have cP := hb.cell
    have fR := hb.frozen
    simp only at c0 c1 c2 cP fR
    have hw1 : IntKind.i64.wrap (M : Int) = (M : Int) := by rw [IntWalk.i64_in] <;> omega
    have hw3 : IntKind.i64.wrap (k + M) = k + M := by rw [IntWalk.i64_in] <;> omega
    by_cases hp0 : p0 = 0
    · subst hp0
      have his : FreeIs (pre ++ [⟨(at0, 0, ((s : Nat) : Int), p2), hxm⟩]) (k + M) := by
        refine ⟨?_, by omega, by simp; omega⟩
        rw [List.map_append, List.map_cons, List.map_nil, pgFreeIn_snoc, HK1.out, HSZ.out]
        simp
      clear hord
      gi_wp2
      gi_region
      all_goals
        gi_wp2
        exact ⟨((KeepsOthers.setCell W ⟨w.heap.size, 0, none⟩ (.int .i64 (k + M))).trans (KeepsOthers.drew _)).from _, kept2_set W _ (by omega) (by omega), ⟨_, his, hb.set _, by simp [World.drew]; omega⟩, (hB.setCell (p := ⟨w.heap.size, 0, none⟩) (by simp) _).drew⟩
    · have hp0b : (p0 == 0) = false := beq_eq_false_iff_ne.2 hp0
      have his : FreeIs (pre ++ [⟨(at0, p0, ((s : Nat) : Int), p2), hxm⟩]) k := by
        refine ⟨?_, by omega, by simp; omega⟩
        rw [List.map_append, List.map_cons, List.map_nil, pgFreeIn_snoc, HK1.out, HSZ.out]
        simp [hp0]
      gi_wp2
      exact ⟨(KeepsOthers.refl _).from _, Kept2.refl _ _ _, ⟨k, his, hb, by omega⟩, hB⟩
  case done =>
    rintro D ys W hD hys ⟨⟨k, hk, hb, hge⟩, hB⟩ hK
    have hc := hb.cell
    have hf := hb.frozen
    gi_wp2
    have hb' := hb.set (.int .i64 k)
    have hK' := (KeepsOthers.setCell W ⟨w.heap.size, 0, none⟩ (.int .i64 k)).same D _ hK rfl
    refine ⟨by simp, .inl ⟨_, _, rfl, run_takeDeferred hK', ?_⟩⟩
    have hc5 := cell_kept hb'.cell (grownBy_putObj' _ D (.deferred none)) (fun r e => by cases e; exact ⟨_, hK', rfl⟩)
    have hh : pgFree L = k := by
      unfold pgFree
      rw [if_pos hCk.out, ← hys]
      exact hk.1
    refine ⟨.int .i64 k, ?_, by rw [hh], (hB.setCell (p := ⟨w.heap.size, 0, none⟩) (by simp) _).trans (belowK_b (w := w) (Nat.le_refl _) _ D _ _ (by omega) hK' rfl rfl)⟩
    simp [results, Tryz.f154, go_sem, hc5]
  case stop =>
    rintro D c pre W hD hpre h _
    exact h.elim
end Go.Proofs.YtfgomgodfcdijaaGreatDoor
