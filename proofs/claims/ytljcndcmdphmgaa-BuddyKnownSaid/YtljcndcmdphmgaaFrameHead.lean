/-
  Contract: frame.head, of a table that may be.
-/
import Derived.Test.YtljcndcmdphmgaaFrameCheck
import Derived.Deep.QuietTactic
import Derived.BigQuiet
namespace Go.Proofs.Ytljcndcmdphmgaa
open Go.RowKit Go.Shelf
attribute [local go_sem] Oper.semAt_some
/-- the head of a page's block -/
def pgHdIn (page : Int) (l : List (Int × Pg)) : Option (Int × Pg) := l.find? fun y => decide (page < y.1 + pgSize y.2)
def pgHd (L : List Pg) (page : Int) : Int := match pgHdIn page (pgFrom L 0) with | some y => y.1 | none => 0
theorem pgHdIn_hit {page : Int} {pre : List (Int × Pg)} {x : Int × Pg} (post : List (Int × Pg)) (h : pgHdIn page pre = none) (hx : page < x.1 + pgSize x.2) : pgHdIn page (pre ++ [x] ++ post) = some x := by
  unfold pgHdIn at *
  rw [List.append_assoc, List.find?_append, h]
  simp [hx]
theorem pgHdIn_miss {page : Int} {pre : List (Int × Pg)} {x : Int × Pg} (h : pgHdIn page pre = none) (hx : ¬ page < x.1 + pgSize x.2) : pgHdIn page (pre ++ [x]) = none := by
  unfold pgHdIn at *
  rw [List.find?_append, h]
  simp
  omega
theorem tab_mem_aux (L : List Pg) : ∀ (f i : Nat), (∀ x ∈ pgYields L f i, 0 ≤ x.1) → ∀ x ∈ pgYields L f i, pgHead x.2 = true ∧ x.1 + pgSize x.2 ≤ L.length
  | 0, i, _, x, hx => by simp [pgYields] at hx
  | f + 1, i, h0, x, hx => by
    unfold pgYields at hx h0
    cases hp : L[i]? with
    | none => simp [hp] at hx
    | some p =>
      simp only [hp] at hx h0
      cases ho : pgOk L i p with
      | false =>
        rw [ho] at h0
        have := h0 _ List.mem_cons_self
        simp at this
      | true =>
        rw [ho] at hx h0
        simp only [if_true, List.mem_cons] at hx
        rcases hx with rfl | hx
        · unfold pgOk at ho
          simp only [Bool.and_eq_true, decide_eq_true_eq] at ho
          exact ⟨ho.1.1.1, by have := ho.1.2; simp only; omega⟩
        · exact tab_mem_aux L f _ (fun y hy => h0 y (by simp [hy])) x hx
theorem tab_mem {L : List Pg} (h : ∀ x ∈ pgFrom L 0, 0 ≤ x.1) : ∀ x ∈ pgFrom L 0, pgHead x.2 = true ∧ x.1 + pgSize x.2 ≤ L.length := tab_mem_aux L _ _ h
theorem pgHead_order {p : Pg} (h : pgHead p = true) : 0 ≤ p.2.1 ∧ p.2.1 ≤ 10 := by
  have := of_decide_eq_true h
  omega
def NoHit {L : List Pg} (page : Int) (pre : List (PgX L)) : Prop := pgHdIn page (pre.map (·.1)) = none
def Hit {L : List Pg} (page : Int) (pre : List (PgX L)) (v : Int) : Prop := ∃ p x, pre = p ++ [x] ∧ NoHit page p ∧ page < x.1.1 + pgSize x.1.2 ∧ v = x.1.1
/-- a box of a page -/
def Box3 (W : World) (B : Nat) (t : TypeId) (p : Pg) : Prop := W.heap[B]? = some (.cells #[.int .i64 p.1, .int .i64 p.2.1, .int .i64 p.2.2] t (0, 0))
theorem Box3.cells {W : World} {B : Nat} {t : TypeId} {p : Pg} (h : Box3 W B t p) : W.cell? ⟨B, 0, none⟩ = some (.int .i64 p.1) ∧ W.cell? ⟨B, 1, none⟩ = some (.int .i64 p.2.1) ∧ W.cell? ⟨B, 2, none⟩ = some (.int .i64 p.2.2) := by
  simp [World.cell?, show W.heap[B]? = _ from h]
theorem box3_own (B : Nat) (t : TypeId) (p : Pg) (n : Nat) : OwnFrom n (fun (_ : Unit) W => Box3 W B t p) := by
  intro s X Y row hs hg hr
  refine (hg.block B (Array.getElem?_eq_some_iff.1 hs).1 fun e => ?_).trans hs
  obtain ⟨_, o, ho, hc⟩ := hr B e.symm
  rw [show X.heap[B]? = _ from hs] at ho; cases ho; cases hc
set_option maxRecDepth 100000 in
set_option maxHeartbeats 4000000 in
theorem head_in (g o c N : Nat) (L : List Pg) (hN : Hid (L.length = N)) (hL : N ≤ 1024) (hLc : N ≤ c) (hcm : c ≤ 9223372036854775807) (page : Int) (hT : Hid (∀ x ∈ pgFrom L 0, 0 ≤ x.1)) (w : World) (hA : PgAt w g o L) :
    CallsIn Fence.wide 10 Try.prog 49 #[.slice (some ⟨g, o, none⟩) N c, .int .i64 page] w fun e W' => e = .returned (.int .i64 (pgHd L page)) ∧ Below w.heap.size w W' := by
  refine callsIn_of_wp_marks Try.func49 rfl trivial ?_ rfl
  simp only [Try.ntmps49, List.size_toArray, List.length_cons, List.length_nil, Nat.reduceAdd, Nat.reduceSub, Array.replicate_succ, Array.replicate_zero, List.push_toArray, List.append_toArray, List.nil_append, List.cons_append]
  have hw : Fence.wide.fn 51 := trivial
  have hn1 : 1 ≤ 10 := by omega
  gi_wp2_with (gi_at_call 51; refine (blocks_in 9 _ _ _ _).mono ?_; rintro e w' ⟨rfl, rfl⟩)
  have bP := ((Boxed.new w 3 (.int .i64 page)).alloc (.cells #[.int .i64 0] 3)).alloc (.cells #[.slice (some ⟨g, o, none⟩) N c] 22)
  have b0 := (Boxed.new (w.alloc (.cells #[.int .i64 page] 3)) 3 (.int .i64 0)).alloc (.cells #[.slice (some ⟨g, o, none⟩) N c] 22)
  have b1 := Boxed.new ((w.alloc (.cells #[.int .i64 page] 3)).alloc (.cells #[.int .i64 0] 3)) 22 (.slice (some ⟨g, o, none⟩) N c)
  simp only [World.size_alloc] at b0 b1
  have hB0 : Below w.heap.size w (((w.alloc (.cells #[.int .i64 page] 3)).alloc (.cells #[.int .i64 0] 3)).alloc (.cells #[.slice (some ⟨g, o, none⟩) N c] 22)) := (((Below.refl _ w).alloc (Nat.le_refl _) _).alloc (by simp) _).alloc (by simp; omega) _
  have hgl := hA.1
  have hk0 : Kept2 g g w _ := Kept2.below hB0 hgl hgl
  have hA0 := hk0.pg hA
  have hsz : (((w.alloc (.cells #[.int .i64 page] 3)).alloc (.cells #[.int .i64 0] 3)).alloc (.cells #[.slice (some ⟨g, o, none⟩) N c] 22)).heap.size = w.heap.size + 3 := by simp
  obtain ⟨W0, hW0⟩ : ∃ W0, ((w.alloc (.cells #[.int .i64 page] 3)).alloc (.cells #[.int .i64 0] 3)).alloc (.cells #[.slice (some ⟨g, o, none⟩) N c] 22) = W0 := ⟨_, rfl⟩
  rw [hW0] at bP b0 b1 hB0 hsz hk0 hA0 ⊢
  clear hW0
  refine wpIn_rangeFunc_ownH rfl hn1 (gf := 85) (lb := #[.pointer (some ⟨w.heap.size + 1 + 1, 0, none⟩)]) rfl trivial (enters_of Try.func85 (by kernel_rfl) rfl)
    (blocks_stopsN 9 (by omega) (w.heap.size + 1 + 1) g o c N L hN.out (by omega) hLc hcm W0 b1.cell hA0) (fun h k => h.trans k) (kept2_b (by omega) (by omega)) (Below.refl _ _) (fun _ => rfl)
    (fun pre W => (NoHit page pre ∧ Boxed W w.heap.size 3 (.int .i64 page) ∧ Boxed W (w.heap.size + 1) 3 (.int .i64 0) ∧ W0.heap.size ≤ W.heap.size) ∧ Below w.heap.size w W)
    (fun c pre W => (c = .ret ∧ ∃ v, Hit page pre v ∧ Boxed W (w.heap.size + 1) 3 (.int .i64 v)) ∧ Below w.heap.size w W)
    (OwnFrom.and (OwnFrom.and (ownFrom_pure _ _) (OwnFrom.and (Own.from (boxed_own _ _ _) _) (OwnFrom.and (Own.from (boxed_own _ _ _) _) (fun _ _ _ _ hs hg _ => Nat.le_trans hs hg.size)))) (ownFrom_below (Nat.le_refl _) (by omega)))
    (fun c => OwnFrom.and (OwnFrom.and (ownFrom_pure _ _) (fun s X Y row hs hg hr => by obtain ⟨v, h1, h2⟩ := hs; exact ⟨v, h1, boxed_own _ _ (fun (_ : Unit) => Value.int .i64 v) () X Y row h2 hg (fun r e => (hr r e).2)⟩)) (ownFrom_below (Nat.le_refl _) (by omega)))
    ⟨⟨rfl, bP, b0, Nat.le_refl _⟩, hB0⟩
    (fun x a' W => ∃ Bx, w.heap.size + 2 < Bx ∧ Box3 W Bx 24 x.1.2 ∧ a' = { tmps := #[.slice (some ⟨g, o, none⟩) N c, .int .i64 page, undef, .pointer (some ⟨w.heap.size, 0, none⟩), .pointer (some ⟨w.heap.size + 1, 0, none⟩), .int .i64 x.1.1, .pointer (some ⟨Bx, 0, none⟩), .slice (some ⟨g, o, none⟩) N c, .func (.func 85) #[] #[.pointer (some ⟨w.heap.size + 1 + 1, 0, none⟩)], .int .i64 x.1.1, .agg #[.int .i64 x.1.2.1, .int .i64 x.1.2.2.1, .int .i64 x.1.2.2.2], undef, undef, undef, undef, undef, undef, undef, undef], defers := [] })
    (fun x a' s X Y row hs hg hr => by obtain ⟨Bx, h1, h2, h3⟩ := hs; exact ⟨Bx, h1, box3_own Bx _ x.1.2 _ () X Y row h2 hg hr, h3⟩)
    ?assign ?body ?done ?stop
  case assign =>
    rintro l pre x W K ⟨⟨hno, hbP, hb0, hge⟩, hB⟩ hK
    gi_wp2
    exact hK _ _ ((KeepsOthers.alloc _ _).from _) (Kept2.below ((Below.refl _ W).alloc (Nat.le_refl _) _) (by omega) (by omega)) ⟨⟨hno, hbP.alloc _, hb0.alloc _, by simp; omega⟩, hB.alloc (by have := hB.size; omega) _⟩ ⟨W.heap.size, by omega, World.alloc_heap_new W _, rfl⟩
  case body =>
    rintro l pre x a' W hl ⟨r, hr⟩ ⟨⟨hno, hbP, hb0, hge⟩, hB⟩ ⟨Bx, hBx, b3, rfl⟩ hlt
    obtain ⟨⟨at0, p0, p1, p2⟩, hxm⟩ := x
    obtain ⟨hpo, hple⟩ := tab_mem hT.out _ hxm
    have hpa := hT.out _ hxm
    rw [hN.out] at hple
    have hord := pgHead_order hpo
    simp only at hord hpa hple
    have hat : at0 ≤ 1024 := by have := pgSize_pos (p0, p1, p2); omega
    obtain ⟨s, rfl⟩ : ∃ s : Nat, p1 = (s : Int) := ⟨p1.toNat, by omega⟩
    have hpw : (2 : Nat) ^ s ≤ 2 ^ 10 := Nat.pow_le_pow_right (by omega) (by omega)
    have hmin : min s 64 = s := by omega
    obtain ⟨M, hM⟩ : ∃ M : Nat, 2 ^ s = M := ⟨_, rfl⟩
    have hMi : (2 : Int) ^ s = (M : Int) := by rw [← hM]; simp
    have hM1 : 1 ≤ M := by rw [← hM]; exact Nat.one_le_two_pow
    have hs0 : (0 : Int) ≤ s := by omega
    have hszx : pgSize (p0, ((s : Nat) : Int), p2) = M := by simp [pgSize, hM]
    have HSZ := Lib.hid hszx
    rw [hszx] at hple
    clear hM hszx hpw
    obtain ⟨c0, c1, c2⟩ := b3.cells
    have cP := hbP.cell
    have cR := hb0.cell
    have fR := hb0.frozen
    simp only at c0 c1 c2 cP cR fR
    have hw1 : IntKind.i64.wrap (M : Int) = (M : Int) := by rw [IntWalk.i64_in] <;> omega
    have hw2 : IntKind.i64.wrap (at0 + M) = at0 + M := by rw [IntWalk.i64_in] <;> omega
    by_cases hlt : page < at0 + M
    · gi_wp2
      gi_region
      all_goals
        gi_wp2
        exact ⟨((KeepsOthers.drew _).trans (KeepsOthers.setCell _ _ _)).from _, ⟨rfl, at0, ⟨pre, _, rfl, hno, by rw [HSZ.out]; exact hlt, rfl⟩, Boxed.set _ (show Boxed W.drew _ _ _ from hb0)⟩, hB.drew.setCell (p := ⟨w.heap.size + 1, 0, none⟩) (by simp) _⟩
    · have hno' : NoHit page (pre ++ [⟨(at0, p0, ((s : Nat) : Int), p2), hxm⟩]) := by
        unfold NoHit
        rw [List.map_append]
        exact pgHdIn_miss hno (by rw [HSZ.out]; exact hlt)
      gi_wp2
      gi_region
      all_goals
        gi_wp2
        exact ⟨(KeepsOthers.drew _).from _, Kept2.below ((Below.refl _ W).drew) (by omega) (by omega), ⟨hno', hbP, hb0, hge⟩, hB.drew⟩
  case done =>
    rintro D ys W hD hys ⟨⟨hno, hbP, hb, hge⟩, hB⟩ hK
    have hc := hb.cell
    have hf := hb.frozen
    gi_wp2
    have hb' := hb.set (.int .i64 0)
    have hK' := (KeepsOthers.setCell W ⟨w.heap.size + 1, 0, none⟩ (.int .i64 0)).same D _ hK rfl
    refine ⟨by simp, .inl ⟨_, _, rfl, run_takeDeferred hK', ?_⟩⟩
    have hc5 := cell_kept hb'.cell (grownBy_putObj' _ D (.deferred none)) (fun r e => by cases e; exact ⟨_, hK', rfl⟩)
    have hh : pgHd L page = 0 := by
      unfold pgHd
      rw [← hys, hno]
    refine ⟨.int .i64 0, ?_, by rw [hh], (hB.setCell (p := ⟨w.heap.size + 1, 0, none⟩) (by simp) _).trans (belowK_b (w := w) (Nat.le_refl _) _ D _ _ (by omega) hK' rfl rfl)⟩
    simp [results, Try.f49, go_sem, hc5]
  case stop =>
    rintro D c pre W hD hpre ⟨⟨rfl, v, ⟨p, x, rfl, hno, hx, rfl⟩, hb⟩, hB⟩ hK
    have hh : pgHd L page = x.1.1 := by
      obtain ⟨post, hp⟩ := hpre
      have t := pgHdIn_hit post hno hx
      rw [List.map_append, List.map_cons, List.map_nil] at hp
      rw [hp] at t
      unfold pgHd
      rw [t]
    have HH := Lib.hid hh
    clear hh
    have hc := hb.cell
    have hf := hb.frozen
    gi_wp2
    refine ⟨by simp, .inl ⟨_, _, rfl, run_takeDeferred hK, ?_⟩⟩
    have hc5 := cell_kept hc (grownBy_putObj' _ D (.deferred none)) (fun r e => by cases e; exact ⟨_, hK, rfl⟩)
    refine ⟨.int .i64 x.1.1, ?_, by rw [HH.out], hB.trans (belowK_b (w := w) (Nat.le_refl _) W D _ _ (by omega) hK rfl rfl)⟩
    simp [results, Try.f49, go_sem, hc5]
end Go.Proofs.Ytljcndcmdphmgaa
