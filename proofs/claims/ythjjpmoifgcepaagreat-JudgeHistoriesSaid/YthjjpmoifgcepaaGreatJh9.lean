/-
  Texts of this claim, joined. No condition.
-/
import Derived.Test.YthjjpmoifgcepaaGreatJh8
import Derived.Deep.QuietTactic
import Derived.BigQuiet
import Derived.Test.YthjjpmoifgcepaaGreatJh1
import Derived.Test.YthjjpmoifgcepaaGreatJh4
import Derived.Test.YthjjpmoifgcepaaGreatJh6
/-
  Contract: frame.head, of a table that may be.
-/
namespace Go.Proofs.YthjjpmoifgcepaaGreat
open Go.RowKit Go.Shelf
attribute [local go_sem] Oper.semAt_some
/-- the head of a page's block -/
def pgHdIn (page : Int) (l : List (Int × Pg)) : Option (Int × Pg) := l.find? fun y => decide (page < y.1 + pgSize y.2)
def pgHd (L : List Pg) (page : Int) : Int := match pgHdIn page (pgFrom L 0) with | some y => y.1 | none => 0
theorem pgHdIn_hit {page : Int} {pre : List (Int × Pg)} {x : Int × Pg} (post : List (Int × Pg)) (h : pgHdIn page pre = none) (hx : page < x.1 + pgSize x.2) : pgHdIn page (pre ++ [x] ++ post) = some x := by
  unfold pgHdIn at *
  rw [List.append_assoc, List.find?_append, h]
  simp [hx]
theorem pgHdIn_miss {page : Int} {pre : List (Int × Pg)} {x : Int × Pg} (h : pgHdIn page pre = none) (hx : ¬ page < x.1 + pgSize x.2) : pgHdIn page (pre ++ [x]) = none := by
  unfold pgHdIn at *
  rw [List.find?_append, h]
  simp
  omega
theorem tab_mem_aux (L : List Pg) : ∀ (f i : Nat), (∀ x ∈ pgYields L f i, 0 ≤ x.1) → ∀ x ∈ pgYields L f i, pgHead x.2 = true ∧ x.1 + pgSize x.2 ≤ L.length
  | 0, i, _, x, hx => by simp [pgYields] at hx
  | f + 1, i, h0, x, hx => by
    unfold pgYields at hx h0
    cases hp : L[i]? with
    | none => simp [hp] at hx
    | some p =>
      simp only [hp] at hx h0
      cases ho : pgOk L i p with
      | false =>
        rw [ho] at h0
        have := h0 _ List.mem_cons_self
        simp at this
      | true =>
        rw [ho] at hx h0
        simp only [if_true, List.mem_cons] at hx
        rcases hx with rfl | hx
        · unfold pgOk at ho
          simp only [Bool.and_eq_true, decide_eq_true_eq] at ho
          exact ⟨ho.1.1.1, by have := ho.1.2; simp only; omega⟩
        · exact tab_mem_aux L f _ (fun y hy => h0 y (by simp [hy])) x hx
theorem tab_mem {L : List Pg} (h : ∀ x ∈ pgFrom L 0, 0 ≤ x.1) : ∀ x ∈ pgFrom L 0, pgHead x.2 = true ∧ x.1 + pgSize x.2 ≤ L.length := tab_mem_aux L _ _ h
theorem pgHead_order {p : Pg} (h : pgHead p = true) : 0 ≤ p.2.1 ∧ p.2.1 ≤ 10 := by
  have := of_decide_eq_true h
  omega
def NoHit {L : List Pg} (page : Int) (pre : List (PgX L)) : Prop := pgHdIn page (pre.map (·.1)) = none
def Hit {L : List Pg} (page : Int) (pre : List (PgX L)) (v : Int) : Prop := ∃ p x, pre = p ++ [x] ∧ NoHit page p ∧ page < x.1.1 + pgSize x.1.2 ∧ v = x.1.1
/-- a box of a page -/
def Box3 (W : World) (B : Nat) (t : TypeId) (p : Pg) : Prop := W.heap[B]? = some (.cells #[.int .i64 p.1, .int .i64 p.2.1, .int .i64 p.2.2] t (0, 0))
theorem Box3.cells {W : World} {B : Nat} {t : TypeId} {p : Pg} (h : Box3 W B t p) : W.cell? ⟨B, 0, none⟩ = some (.int .i64 p.1) ∧ W.cell? ⟨B, 1, none⟩ = some (.int .i64 p.2.1) ∧ W.cell? ⟨B, 2, none⟩ = some (.int .i64 p.2.2) := by
  simp [World.cell?, show W.heap[B]? = _ from h]
theorem box3_own (B : Nat) (t : TypeId) (p : Pg) (n : Nat) : OwnFrom n (fun (_ : Unit) W => Box3 W B t p) := by
  intro s X Y row hs hg hr
  refine (hg.block B (Array.getElem?_eq_some_iff.1 hs).1 fun e => ?_).trans hs
  obtain ⟨_, o, ho, hc⟩ := hr B e.symm
  rw [show X.heap[B]? = _ from hs] at ho; cases ho; cases hc
set_option maxRecDepth 100000 in
set_option maxHeartbeats 4000000 in
theorem head_in (g o c N : Nat) (L : List Pg) (hN : Hid (L.length = N)) (hL : N ≤ 1024) (hLc : N ≤ c) (hcm : c ≤ 9223372036854775807) (page : Int) (hT : Hid (∀ x ∈ pgFrom L 0, 0 ≤ x.1)) (w : World) (hA : PgAt w g o L) :
    CallsIn Fence.wide 10 Tryz.prog 130 #[.slice (some ⟨g, o, none⟩) N c, .int .i64 page] w fun e W' => e = .returned (.int .i64 (pgHd L page)) ∧ Below w.heap.size w W' := by
  refine callsIn_of_wp_marks Tryz.func130 rfl trivial ?_ rfl
  simp only [Tryz.ntmps130, List.size_toArray, List.length_cons, List.length_nil, Nat.reduceAdd, Nat.reduceSub, Array.replicate_succ, Array.replicate_zero, List.push_toArray, List.append_toArray, List.nil_append, List.cons_append]
  have hw : Fence.wide.fn 142 := trivial
  have hn1 : 1 ≤ 10 := by omega
  gi_wp2_with (gi_at_call 142; refine (blocks_in 9 _ _ _ _).mono ?_; rintro e w' ⟨rfl, rfl⟩)
  have bP := ((Boxed.new w 3 (.int .i64 page)).alloc (.cells #[.int .i64 0] 3)).alloc (.cells #[.slice (some ⟨g, o, none⟩) N c] 179)
  have b0 := (Boxed.new (w.alloc (.cells #[.int .i64 page] 3)) 3 (.int .i64 0)).alloc (.cells #[.slice (some ⟨g, o, none⟩) N c] 179)
  have b1 := Boxed.new ((w.alloc (.cells #[.int .i64 page] 3)).alloc (.cells #[.int .i64 0] 3)) 179 (.slice (some ⟨g, o, none⟩) N c)
  simp only [World.size_alloc] at b0 b1
  have hB0 : Below w.heap.size w (((w.alloc (.cells #[.int .i64 page] 3)).alloc (.cells #[.int .i64 0] 3)).alloc (.cells #[.slice (some ⟨g, o, none⟩) N c] 179)) := (((Below.refl _ w).alloc (Nat.le_refl _) _).alloc (by simp) _).alloc (by simp; omega) _
  have hgl := hA.1
  have hk0 : Kept2 g g w _ := Kept2.below hB0 hgl hgl
  have hA0 := hk0.pg hA
  have hsz : (((w.alloc (.cells #[.int .i64 page] 3)).alloc (.cells #[.int .i64 0] 3)).alloc (.cells #[.slice (some ⟨g, o, none⟩) N c] 179)).heap.size = w.heap.size + 3 := by simp
  obtain ⟨W0, hW0⟩ : ∃ W0, ((w.alloc (.cells #[.int .i64 page] 3)).alloc (.cells #[.int .i64 0] 3)).alloc (.cells #[.slice (some ⟨g, o, none⟩) N c] 179) = W0 := ⟨_, rfl⟩
  rw [hW0] at bP b0 b1 hB0 hsz hk0 hA0 ⊢
  clear hW0
  refine wpIn_rangeFunc_ownH rfl hn1 (gf := 147) (lb := #[.pointer (some ⟨w.heap.size + 1 + 1, 0, none⟩)]) rfl trivial (enters_of Tryz.func147 (by kernel_rfl) rfl)
    (blocks_stopsN 9 (by omega) (w.heap.size + 1 + 1) g o c N L hN.out (by omega) hLc hcm W0 b1.cell hA0) (fun h k => h.trans k) (kept2_b (by omega) (by omega)) (Below.refl _ _) (fun _ => rfl)
    (fun pre W => (NoHit page pre ∧ Boxed W w.heap.size 3 (.int .i64 page) ∧ Boxed W (w.heap.size + 1) 3 (.int .i64 0) ∧ W0.heap.size ≤ W.heap.size) ∧ Below w.heap.size w W)
    (fun c pre W => (c = .ret ∧ ∃ v, Hit page pre v ∧ Boxed W (w.heap.size + 1) 3 (.int .i64 v)) ∧ Below w.heap.size w W)
    (OwnFrom.and (OwnFrom.and (ownFrom_pure _ _) (OwnFrom.and (Own.from (boxed_own _ _ _) _) (OwnFrom.and (Own.from (boxed_own _ _ _) _) (fun _ _ _ _ hs hg _ => Nat.le_trans hs hg.size)))) (ownFrom_below (Nat.le_refl _) (by omega)))
    (fun c => OwnFrom.and (OwnFrom.and (ownFrom_pure _ _) (fun s X Y row hs hg hr => by obtain ⟨v, h1, h2⟩ := hs; exact ⟨v, h1, boxed_own _ _ (fun (_ : Unit) => Value.int .i64 v) () X Y row h2 hg (fun r e => (hr r e).2)⟩)) (ownFrom_below (Nat.le_refl _) (by omega)))
    ⟨⟨rfl, bP, b0, Nat.le_refl _⟩, hB0⟩
    (fun x a' W => ∃ Bx, w.heap.size + 2 < Bx ∧ Box3 W Bx 193 x.1.2 ∧ a' = { tmps := #[.slice (some ⟨g, o, none⟩) N c, .int .i64 page, undef, .pointer (some ⟨w.heap.size, 0, none⟩), .pointer (some ⟨w.heap.size + 1, 0, none⟩), .int .i64 x.1.1, .pointer (some ⟨Bx, 0, none⟩), .slice (some ⟨g, o, none⟩) N c, .func (.func 147) #[] #[.pointer (some ⟨w.heap.size + 1 + 1, 0, none⟩)], .int .i64 x.1.1, .agg #[.int .i64 x.1.2.1, .int .i64 x.1.2.2.1, .int .i64 x.1.2.2.2], undef, undef, undef, undef, undef, undef, undef, undef], defers := [] })
    (fun x a' s X Y row hs hg hr => by obtain ⟨Bx, h1, h2, h3⟩ := hs; exact ⟨Bx, h1, box3_own Bx _ x.1.2 _ () X Y row h2 hg hr, h3⟩)
    ?assign ?body ?done ?stop
  case assign =>
    rintro l pre x W K ⟨⟨hno, hbP, hb0, hge⟩, hB⟩ hK
    gi_wp2
    exact hK _ _ ((KeepsOthers.alloc _ _).from _) (Kept2.below ((Below.refl _ W).alloc (Nat.le_refl _) _) (by omega) (by omega)) ⟨⟨hno, hbP.alloc _, hb0.alloc _, by simp; omega⟩, hB.alloc (by have := hB.size; omega) _⟩ ⟨W.heap.size, by omega, World.alloc_heap_new W _, rfl⟩
  case body =>
    rintro l pre x a' W hl ⟨r, hr⟩ ⟨⟨hno, hbP, hb0, hge⟩, hB⟩ ⟨Bx, hBx, b3, rfl⟩ hlt
    obtain ⟨⟨at0, p0, p1, p2⟩, hxm⟩ := x
    obtain ⟨hpo, hple⟩ := tab_mem hT.out _ hxm
    have hpa := hT.out _ hxm
    rw [hN.out] at hple
    have hord := pgHead_order hpo
    simp only at hord hpa hple
    have hat : at0 ≤ 1024 := by have := pgSize_pos (p0, p1, p2); omega
    obtain ⟨s, rfl⟩ : ∃ s : Nat, p1 = (s : Int) := ⟨p1.toNat, by omega⟩
    have hpw : (2 : Nat) ^ s ≤ 2 ^ 10 := Nat.pow_le_pow_right (by omega) (by omega)
    have hmin : min s 64 = s := by omega
    obtain ⟨M, hM⟩ : ∃ M : Nat, 2 ^ s = M := ⟨_, rfl⟩
    have hMi : (2 : Int) ^ s = (M : Int) := by rw [← hM]; simp
    have hM1 : 1 ≤ M := by rw [← hM]; exact Nat.one_le_two_pow
    have hs0 : (0 : Int) ≤ s := by omega
    have hszx : pgSize (p0, ((s : Nat) : Int), p2) = M := by simp [pgSize, hM]
    have HSZ := Lib.hid hszx
    rw [hszx] at hple
    clear hM hszx hpw
    obtain ⟨c0, c1, c2⟩ := b3.cells
    have cP := hbP.cell
    have cR := hb0.cell
    have fR := hb0.frozen
    simp only at c0 c1 c2 cP cR fR
    have hw1 : IntKind.i64.wrap (M : Int) = (M : Int) := by rw [IntWalk.i64_in] <;> omega
    have hw2 : IntKind.i64.wrap (at0 + M) = at0 + M := by rw [IntWalk.i64_in] <;> omega
    by_cases hlt : page < at0 + M
    · gi_wp2
      gi_region
      all_goals
        gi_wp2
        exact ⟨((KeepsOthers.drew _).trans (KeepsOthers.setCell _ _ _)).from _, ⟨rfl, at0, ⟨pre, _, rfl, hno, by rw [HSZ.out]; exact hlt, rfl⟩, Boxed.set _ (show Boxed W.drew _ _ _ from hb0)⟩, hB.drew.setCell (p := ⟨w.heap.size + 1, 0, none⟩) (by simp) _⟩
    · have hno' : NoHit page (pre ++ [⟨(at0, p0, ((s : Nat) : Int), p2), hxm⟩]) := by
        unfold NoHit
        rw [List.map_append]
        exact pgHdIn_miss hno (by rw [HSZ.out]; exact hlt)
      gi_wp2
      gi_region
      all_goals
        gi_wp2
        exact ⟨(KeepsOthers.drew _).from _, Kept2.below ((Below.refl _ W).drew) (by omega) (by omega), ⟨hno', hbP, hb0, hge⟩, hB.drew⟩
  case done =>
    rintro D ys W hD hys ⟨⟨hno, hbP, hb, hge⟩, hB⟩ hK
    have hc := hb.cell
    have hf := hb.frozen
    gi_wp2
    have hb' := hb.set (.int .i64 0)
    have hK' := (KeepsOthers.setCell W ⟨w.heap.size + 1, 0, none⟩ (.int .i64 0)).same D _ hK rfl
    refine ⟨by simp, .inl ⟨_, _, rfl, run_takeDeferred hK', ?_⟩⟩
    have hc5 := cell_kept hb'.cell (grownBy_putObj' _ D (.deferred none)) (fun r e => by cases e; exact ⟨_, hK', rfl⟩)
    have hh : pgHd L page = 0 := by
      unfold pgHd
      rw [← hys, hno]
    refine ⟨.int .i64 0, ?_, by rw [hh], (hB.setCell (p := ⟨w.heap.size + 1, 0, none⟩) (by simp) _).trans (belowK_b (w := w) (Nat.le_refl _) _ D _ _ (by omega) hK' rfl rfl)⟩
    simp [results, Tryz.f130, go_sem, hc5]
  case stop =>
    rintro D c pre W hD hpre ⟨⟨rfl, v, ⟨p, x, rfl, hno, hx, rfl⟩, hb⟩, hB⟩ hK
    have hh : pgHd L page = x.1.1 := by
      obtain ⟨post, hp⟩ := hpre
      have t := pgHdIn_hit post hno hx
      rw [List.map_append, List.map_cons, List.map_nil] at hp
      rw [hp] at t
      unfold pgHd
      rw [t]
    have HH := Lib.hid hh
    clear hh
    have hc := hb.cell
    have hf := hb.frozen
    gi_wp2
    refine ⟨by simp, .inl ⟨_, _, rfl, run_takeDeferred hK, ?_⟩⟩
    have hc5 := cell_kept hc (grownBy_putObj' _ D (.deferred none)) (fun r e => by cases e; exact ⟨_, hK, rfl⟩)
    refine ⟨.int .i64 x.1.1, ?_, by rw [HH.out], hB.trans (belowK_b (w := w) (Nat.le_refl _) W D _ _ (by omega) hK rfl rfl)⟩
    simp [results, Tryz.f130, go_sem, hc5]
end Go.Proofs.YthjjpmoifgcepaaGreat

/-
  Contract: frame.Free, of any table: the loop over a table that may be.
-/
namespace Go.Proofs.YthjjpmoifgcepaaGreat
open Go.RowKit Go.Shelf
attribute [local go_sem] Oper.semAt_some
/-- the pages of free blocks -/
def pgFreeIn (l : List (Int × Pg)) : Int := (l.map fun y => if y.2.1 = 0 then (pgSize y.2 : Int) else 0).sum
theorem pgFreeIn_snoc (l : List (Int × Pg)) (x : Int × Pg) : pgFreeIn (l ++ [x]) = pgFreeIn l + if x.2.1 = 0 then (pgSize x.2 : Int) else 0 := by simp [pgFreeIn]
theorem kept2_set {a b p : Nat} (W : World) (v : Value) (ha : a ≠ p) (hb : b ≠ p) : Kept2 a b W (W.setCell ⟨p, 0, none⟩ v).drew :=
  ⟨by simp [World.drew], Below.heap_setCell W ⟨p, 0, none⟩ v a ha, Below.heap_setCell W ⟨p, 0, none⟩ v b hb⟩
def FreeIs {L : List Pg} (pre : List (PgX L)) (n : Int) : Prop := pgFreeIn (pre.map (·.1)) = n ∧ 0 ≤ n ∧ n ≤ pre.length * 1024
/-- what Free answers -/
def pgFree (L : List Pg) : Int := if pgCheck L = 0 then pgFreeIn (pgFrom L 0) else 0
theorem pgCheck_zero {L : List Pg} (h : pgCheck L = 0) : 1 ≤ L.length ∧ L.length ≤ 1024 ∧ ∀ x ∈ pgFrom L 0, 0 ≤ x.1 := by
  unfold pgCheck at h
  split at h
  · rename_i h'
    refine ⟨h'.1, h'.2.1, fun x hx => ?_⟩
    have := h'.2.2
    unfold tabOk at this
    rw [List.all_eq_true] at this
    exact of_decide_eq_true (this x hx)
  · omega
end Go.Proofs.YthjjpmoifgcepaaGreat

/-
  Tables of pages, in plain Lean: blocks found by a page, a row of blocks replaced by one block, and what Head, Set and Free answer.
-/
namespace Go.Proofs.YthjjpmoifgcepaaGreat
open Go.RowKit

theorem lay_append : ∀ (a b : List Pg), lay (a ++ b) = lay a ++ lay b
  | [], b => rfl
  | p :: a, b => by simp [lay, lay_append a b]
theorem row_append : ∀ (a b : List Pg) (i : Nat), Row i (a ++ b) ↔ Row i a ∧ Row (i + (lay a).length) b
  | [], b, i => by simp [Row, lay]
  | p :: a, b, i => by
    have := lay_cons_len p a
    simp only [List.cons_append, Row, row_append a b]
    rw [show i + pgSize p + (lay a).length = i + (lay (p :: a)).length from by omega]
    constructor
    · rintro ⟨h1, h2, h3, h4⟩; exact ⟨⟨h1, h2, h3⟩, h4⟩
    · rintro ⟨⟨h1, h2, h3⟩, h4⟩; exact ⟨h1, h2, h3, h4⟩
theorem places_append : ∀ (a b : List Pg) (i : Nat), places i (a ++ b) = places i a ++ places (i + (lay a).length) b
  | [], b, i => by simp [places, lay]
  | p :: a, b, i => by
    have := lay_cons_len p a
    simp only [List.cons_append, places, places_append a b]
    rw [show i + pgSize p + (lay a).length = i + (lay (p :: a)).length from by omega]
theorem places_bound : ∀ (bs : List Pg) (i : Nat), ∀ y ∈ places i bs, (i : Int) ≤ y.1 ∧ y.1 + pgSize y.2 ≤ i + (lay bs).length ∧ y.2 ∈ bs
  | [], i, y, h => by simp [places] at h
  | p :: bs, i, y, h => by
    have hl := lay_cons_len p bs
    rw [places, List.mem_cons] at h
    rcases h with rfl | h
    · exact ⟨by simp, by simp only; omega, by simp⟩
    · have := places_bound bs (i + pgSize p) y h
      refine ⟨by omega, by omega, List.mem_cons_of_mem _ this.2.2⟩
/-- the block of a page -/
theorem row_find : ∀ (bs : List Pg) (i p : Nat), i ≤ p → p < i + (lay bs).length → ∃ b1 x b2, bs = b1 ++ x :: b2 ∧ i + (lay b1).length ≤ p ∧ p < i + (lay b1).length + pgSize x
  | [], i, p, h1, h2 => by simp [lay] at h2; omega
  | x :: bs, i, p, h1, h2 => by
    have hl := lay_cons_len x bs
    by_cases h : p < i + pgSize x
    · exact ⟨[], x, bs, rfl, by simpa [lay] using h1, by simpa [lay] using h⟩
    · obtain ⟨b1, y, b2, rfl, h3, h4⟩ := row_find bs (i + pgSize x) p (by omega) (by omega)
      have := lay_cons_len x b1
      exact ⟨x :: b1, y, b2, rfl, by omega, by omega⟩
theorem pow_dvd_of_le {a b : Nat} (h : a ≤ b) : 2 ^ a ∣ 2 ^ b := Nat.pow_dvd_pow 2 h
theorem pgSize_dvd {p q : Pg} (h : pgSize p ≤ pgSize q) : pgSize p ∣ pgSize q := by
  unfold pgSize at *
  exact pow_dvd_of_le ((Nat.pow_le_pow_iff_right (by omega)).1 h)
theorem dvd_lt_eq {n a b : Nat} (ha : a % n = 0) (hb : b % n = 0) (h1 : a ≤ b) (h2 : b < a + n) : b = a := by
  obtain ⟨k, rfl⟩ := Nat.dvd_of_mod_eq_zero ha
  obtain ⟨l, rfl⟩ := Nat.dvd_of_mod_eq_zero hb
  rcases Nat.lt_or_ge k l with h | h
  · have : n * (k + 1) ≤ n * l := Nat.mul_le_mul_left _ h
    rw [Nat.mul_succ] at this
    omega
  · have : n * l ≤ n * k := Nat.mul_le_mul_left _ h
    omega
theorem mod_of_dvd {n m a : Nat} (h : n ∣ m) (ha : a % m = 0) : a % n = 0 := Nat.mod_eq_zero_of_dvd (Nat.dvd_trans h (Nat.dvd_of_mod_eq_zero ha))
theorem row_cut (x : Pg) (a : Nat) (ha : a % pgSize x = 0) : ∀ (c : List Pg) (i : Nat), a ≤ i → i < a + pgSize x → Row i c → (i = a → ∀ y ∈ c.head?, pgSize y ≤ pgSize x) → a + pgSize x ≤ i + (lay c).length →
    ∃ c1 c2, c = c1 ++ c2 ∧ i + (lay c1).length = a + pgSize x
  | [], i, h1, h2, _, _, h => by simp [lay] at h; omega
  | y :: c, i, h1, h2, hr, h0, h => by
    have hl := lay_cons_len y c
    obtain ⟨hy1, hy2, hy3⟩ := hr
    have hpos := pgSize_pos y
    have hs : pgSize y ≤ pgSize x := by
      rcases Nat.lt_or_ge (pgSize x) (pgSize y) with hgt | hle
      · have hd := pgSize_dvd (Nat.le_of_lt hgt)
        have := dvd_lt_eq ha (mod_of_dvd hd hy2) h1 h2
        exact h0 this y rfl
      · exact hle
    have hd := pgSize_dvd hs
    have hi : i + pgSize y ≤ a + pgSize x := by
      have h3 : (a + pgSize x) % pgSize y = 0 := Nat.mod_eq_zero_of_dvd (Nat.dvd_add (Nat.dvd_trans hd (Nat.dvd_of_mod_eq_zero ha)) hd)
      rcases Nat.lt_or_ge (a + pgSize x) (i + pgSize y) with hgt | hle
      · have := dvd_lt_eq hy2 h3 (by omega) hgt
        omega
      · exact hle
    rcases Nat.lt_or_ge (i + pgSize y) (a + pgSize x) with hlt | hge
    · obtain ⟨c1, c2, rfl, h5⟩ := row_cut x a ha c (i + pgSize y) (by omega) hlt hy3 (fun e => by omega) (by omega)
      have := lay_cons_len y c1
      exact ⟨y :: c1, c2, rfl, by omega⟩
    · exact ⟨[y], c, rfl, by have := lay_cons_len y []; simp [lay] at this ⊢; omega⟩
/-- the head of a page's block -/
theorem pgHd_at {L b1 b2 : List Pg} {x : Pg} (h : Tab L (b1 ++ x :: b2)) {page : Int} (h1 : ((lay b1).length : Int) ≤ page) (h2 : page < (lay b1).length + pgSize x) : pgHd L page = (lay b1).length ∧ L[(lay b1).length]? = some x := by
  constructor
  · unfold pgHd
    rw [tab_from h, places_append]
    simp only [Nat.zero_add, places]
    have hn : pgHdIn page (places 0 b1) = none := by
      unfold pgHdIn
      rw [List.find?_eq_none]
      intro y hy
      have := places_bound b1 0 y hy
      simp
      omega
    have := pgHdIn_hit (x := (((lay b1).length : Int), x)) (places ((lay b1).length + pgSize x) b2) hn h2
    rw [List.append_assoc, List.singleton_append] at this
    rw [this]
  · obtain ⟨rfl, _⟩ := h
    rw [lay_append]
    simp [lay]
theorem tab_len {L bs : List Pg} (h : Tab L bs) : L.length = (lay bs).length := by rw [h.1]
theorem pgCheck_tab {L : List Pg} (h : pgCheck L = 0) : ∃ bs, Tab L bs := (tab_iff L).2 (pgCheck_zero h).2.2
theorem pgCheck_of_tab {L bs : List Pg} (h : Tab L bs) (h1 : 1 ≤ L.length) (h2 : L.length ≤ 1024) : pgCheck L = 0 := pgCheck_yes h1 h2 ((tab_iff L).1 ⟨bs, h⟩)
theorem pgCheck_cases (L : List Pg) : pgCheck L = 0 ∨ pgCheck L = 50 := by unfold pgCheck; split <;> simp
/-- a table with a block laid at a place -/
def pgPut (L : List Pg) (p : Nat) (x : Pg) : List Pg := L.take p ++ (x :: List.replicate (pgSize x - 1) pgIn ++ L.drop (p + pgSize x))
theorem pgPut_len {L : List Pg} {p : Nat} {x : Pg} (h : p + pgSize x ≤ L.length) : (pgPut L p x).length = L.length := by
  have := pgSize_pos x
  simp [pgPut]
  omega
/-- what Set tells -/
def pgSetE (L : List Pg) (page : Int) (x : Pg) : Int :=
  if pgCheck L ≠ 0 then 50 else if pgHead x = false then 2 else if page < 0 ∨ page % pgSize x ≠ 0 ∨ (L.length : Int) < page + pgSize x then 9
  else if x.2.1 < (L.getD (pgHd L page).toNat pgIn).2.1 then 50 else 0
theorem pgSize_mono {x y : Pg} (h : x.2.1 ≤ y.2.1) : pgSize x ≤ pgSize y := Nat.pow_le_pow_right (by omega) (by omega)
/-- where Set tells no error a row of blocks is replaced by one -/
theorem pgSet_ok {L : List Pg} {page : Int} {x : Pg} (h : pgSetE L page x = 0) : ∃ (p : Nat) (b1 c1 c2 : List Pg), page = p ∧ p + pgSize x ≤ L.length ∧ pgCheck L = 0 ∧ pgHead x = true ∧ p % pgSize x = 0 ∧
    Tab L (b1 ++ (c1 ++ c2)) ∧ (lay b1).length = p ∧ (lay c1).length = pgSize x ∧ Tab (pgPut L p x) (b1 ++ (x :: c2)) := by
  unfold pgSetE at h
  split at h
  · cases h
  · rename_i hck
    have hck : pgCheck L = 0 := Decidable.not_not.1 hck
    split at h
    · cases h
    · rename_i hh
      have hh : pgHead x = true := by simpa using hh
      split at h
      · cases h
      · rename_i hr
        split at h
        · cases h
        · rename_i ho
          obtain ⟨p, rfl⟩ : ∃ p : Nat, page = p := ⟨page.toNat, by omega⟩
          have hr1 : p % pgSize x = 0 := by
            have : ((p % pgSize x : Nat) : Int) = 0 := by
              rw [Int.natCast_emod]
              exact Decidable.not_not.1 fun h0 => hr (.inr (.inl h0))
            omega
          have hr2 : p + pgSize x ≤ L.length := by omega
          have hpos := pgSize_pos x
          obtain ⟨bs, hT⟩ := pgCheck_tab hck
          have hlen := tab_len hT
          obtain ⟨b1, y, b2, rfl, h3, h4⟩ := row_find bs 0 p (by omega) (by omega)
          rw [Nat.zero_add] at h3 h4
          obtain ⟨e1, e2⟩ := pgHd_at hT (page := (p : Int)) (by omega) (by omega)
          have hyx : pgSize y ≤ pgSize x := by
            apply pgSize_mono
            rw [e1] at ho
            rw [Int.toNat_natCast, List.getD_eq_getElem?_getD, e2] at ho
            simp at ho
            omega
          have hrow := (row_append b1 (y :: b2) 0).1 hT.2
          rw [Nat.zero_add] at hrow
          have hbp : (lay b1).length = p := by
            have := hrow.2.2.1
            exact (dvd_lt_eq this (mod_of_dvd (pgSize_dvd hyx) hr1) h3 h4).symm
          have hll : (lay (b1 ++ y :: b2)).length = (lay b1).length + (lay (y :: b2)).length := by rw [lay_append, List.length_append]
          obtain ⟨c1, c2, hc, h5⟩ := row_cut x p hr1 (y :: b2) p (Nat.le_refl _) (by omega) (by rw [← hbp]; exact hrow.2) (fun _ z hz => by simp at hz; subst hz; exact hyx) (by omega)
          rw [hc] at hT hrow
          have hc1 : (lay c1).length = pgSize x := by omega
          refine ⟨p, b1, c1, c2, rfl, hr2, hck, hh, hr1, hT, hbp, hc1, ?_, ?_⟩
          · have e : L = lay b1 ++ (lay c1 ++ lay c2) := by rw [hT.1, lay_append, lay_append]
            have ed : L.drop (p + pgSize x) = lay c2 := by rw [e, ← List.append_assoc, List.drop_left' (by rw [List.length_append]; omega)]
            have et : L.take p = lay b1 := by rw [e, List.take_left' hbp]
            rw [pgPut, ed, et, lay_append]
            simp [lay]
          · rw [row_append]
            refine ⟨hrow.1, hh, by rw [Nat.zero_add, hbp]; exact hr1, ?_⟩
            have := ((row_append c1 c2 _).1 hrow.2).2
            rw [hc1] at this
            rw [Nat.zero_add]
            exact this
theorem pgPut_get {L : List Pg} {p : Nat} {x : Pg} (h : p + pgSize x ≤ L.length) (i : Nat) : (pgPut L p x)[i]? = if i = p then some x else if p < i ∧ i < p + pgSize x then some pgIn else L[i]? := by
  have hpos := pgSize_pos x
  unfold pgPut
  have ht : (L.take p).length = p := by rw [List.length_take]; omega
  by_cases h1 : i < p
  · rw [List.getElem?_append_left (by omega), List.getElem?_take, if_pos h1, if_neg (by omega), if_neg (by omega)]
  · rw [List.getElem?_append_right (by omega), ht]
    by_cases h2 : i = p
    · subst h2; simp
    · rw [if_neg h2]
      obtain ⟨j, hj⟩ : ∃ j, i - p = j + 1 := ⟨i - p - 1, by omega⟩
      rw [hj, List.cons_append, List.getElem?_cons_succ]
      by_cases h3 : i < p + pgSize x
      · rw [if_pos ⟨by omega, h3⟩, List.getElem?_append_left (by simp; omega), List.getElem?_replicate, if_pos (by omega)]
      · rw [if_neg (by omega), List.getElem?_append_right (by simp; omega), List.getElem?_drop]
        congr 1
        simp
        omega
theorem pgPut_again {L : List Pg} {p : Nat} {x : Pg} (h : p + pgSize x ≤ L.length) : pgPut (pgPut L p x) p x = pgPut L p x := by
  apply List.ext_getElem?
  intro i
  rw [pgPut_get (by rw [pgPut_len h]; exact h), pgPut_get h]
  split
  · rfl
  · split <;> rfl
/-- .. set again it is the same -/
theorem pgSet_again {L : List Pg} {page : Int} {x : Pg} (h : pgSetE L page x = 0) : pgSetE (pgPut L page.toNat x) page x = 0 ∧ pgCheck (pgPut L page.toNat x) = 0 ∧ (pgPut L page.toNat x).length = L.length ∧
    pgPut (pgPut L page.toNat x) page.toNat x = pgPut L page.toNat x ∧ (∀ q : Int, page ≤ q → q < page + pgSize x → pgHd (pgPut L page.toNat x) q = page) ∧ page = page.toNat ∧ page.toNat + pgSize x ≤ L.length ∧ pgHead x = true ∧ pgCheck L = 0 := by
  obtain ⟨p, b1, c1, c2, rfl, hl, hck, hh, hm, hT, hb, hc, hT'⟩ := pgSet_ok h
  rw [Int.toNat_natCast]
  have hlen := pgPut_len hl
  have hpos := pgSize_pos x
  have hcz := pgCheck_zero hck
  have hck' := pgCheck_of_tab hT' (by omega) (by omega)
  have hhd : ∀ q : Int, (p : Int) ≤ q → q < p + pgSize x → pgHd (pgPut L p x) q = p ∧ (pgPut L p x)[p]? = some x := by
    intro q h1 h2
    have := pgHd_at hT' (page := q) (by omega) (by omega)
    rw [hb] at this
    exact this
  refine ⟨?_, hck', hlen, pgPut_again hl, fun q h1 h2 => (hhd q h1 h2).1, rfl, hl, hh, hck⟩
  unfold pgSetE
  rw [if_neg (by rw [hck']; simp), if_neg (by rw [hh]; simp), if_neg, if_neg]
  · obtain ⟨e1, e2⟩ := hhd p (by omega) (by omega)
    rw [e1, Int.toNat_natCast, List.getD_eq_getElem?_getD, e2]
    simp
  · rw [hlen]
    have : ((p : Int) % (pgSize x : Int)) = 0 := by rw [← Int.natCast_emod, hm]; rfl
    omega
end Go.Proofs.YthjjpmoifgcepaaGreat

/-
  Contracts: frame.Check, frame.Head, frame.Free, of any table; slices.Clone of pages.
-/
namespace Go.Proofs.YthjjpmoifgcepaaGreat
open Go.RowKit
/-- a slice reads as pages -/
def PgS (w : World) (v : Value) (L : List Pg) : Prop := ∃ A c, v = .slice A L.length c ∧ L.length ≤ c ∧ c ≤ maxLen ∧ (0 < L.length → ∃ g o, A = some ⟨g, o, none⟩ ∧ PgAt w g o L)
section
variable {W w : World} {m bs : List (Nat × Obj)} {v : Value} {L : List Pg}
theorem PgS.own (h : PgS W v L) (hO : Own W m w) : PgS w v L := by
  obtain ⟨A, c, rfl, h1, h2, h3⟩ := h
  exact ⟨A, c, rfl, h1, h2, fun hp => by obtain ⟨g, o, rfl, hA⟩ := h3 hp; exact ⟨g, o, rfl, hA.own hO⟩⟩
theorem PgS.below (h : PgS w v L) {w' : World} (hb : Below w.heap.size w w') : PgS w' v L := h.own (m := []) ⟨hb, by simp, by simp⟩
theorem own_of_below (h : Own W m w) {w' : World} (hb : Below w.heap.size w w') : Own W m w' := h.then_below hb
theorem pgCheck_short {L : List Pg} (h : L.length = 0 ∨ 1024 < L.length) : pgCheck L = 50 := by
  unfold pgCheck
  rw [if_neg]
  omega
set_option maxHeartbeats 1000000 in
theorem check_spec (h : Own W m w) (hs : PgS w v L) :
    Calls Tryz.prog 129 #[v] w fun e w' => e = .returned (.int .i64 (pgCheck L)) ∧ Own W m w' := by
  obtain ⟨A, c, rfl, h1, h2, h3⟩ := hs
  unfold maxLen at h2
  by_cases hz : L.length = 0 ∨ 1024 < L.length
  · have HC := Lib.hid (pgCheck_short hz)
    have h0 := h.alloc (.cells #[.int .i64 50] 43)
    obtain ⟨N, hN⟩ : ∃ N, L.length = N := ⟨_, rfl⟩
    rw [hN] at hz h1 ⊢
    clear h3 hN
    rcases hz with rfl | hz
    · go_enter Tryz.func129, Tryz.ntmps129
      go_wp2_with fail
      exact bodyPost_ret (v := .int .i64 50) (by simp [results, Tryz.f129, go_sem]) rfl ⟨by rw [HC.out], h0⟩
    · have hn0 : ((N : Int) == 0) = false := by rw [beq_eq_false_iff_ne]; omega
      have hn2 : decide (1024 < (N : Int)) = true := decide_eq_true (by omega)
      go_enter Tryz.func129, Tryz.ntmps129
      go_wp2_with fail
      exact bodyPost_ret (v := .int .i64 50) (by simp [results, Tryz.f129, go_sem]) rfl ⟨by rw [HC.out], h0⟩
  · obtain ⟨g, o, rfl, hA⟩ := h3 (by omega)
    exact (callsIn_wide.1 (check_loop g o c L.length L rfl (by omega) (by omega) h1 (by omega) w hA)).mono fun _ _ ⟨he, hb⟩ => ⟨he, h.then_below hb⟩
theorem head_spec (h : Own W m w) (hs : PgS w v L) (hc : pgCheck L = 0) (page : Int) :
    Calls Tryz.prog 130 #[v, .int .i64 page] w fun e w' => e = .returned (.int .i64 (pgHd L page)) ∧ Own W m w' := by
  obtain ⟨A, c, rfl, h1, h2, h3⟩ := hs
  unfold maxLen at h2
  obtain ⟨z1, z2, z3⟩ := pgCheck_zero hc
  obtain ⟨g, o, rfl, hA⟩ := h3 (by omega)
  exact (callsIn_wide.1 (head_in g o c L.length L rfl (by omega) h1 (by omega) page z3 w hA)).mono fun _ _ ⟨he, hb⟩ => ⟨he, h.then_below hb⟩
/-- what Head answers -/
def pgHeadE (L : List Pg) (page : Int) : Int × Int := if pgCheck L ≠ 0 then (0, 50) else if page < 0 ∨ (L.length : Int) ≤ page then (0, 9) else (pgHd L page, 0)
set_option maxHeartbeats 1000000 in
theorem Head_spec (h : Own W m w) (hs : PgS w v L) (page : Int) :
    Calls Tryz.prog 111 #[v, .int .i64 page] w fun e w' => e = .returned (.tuple #[.int .i64 (pgHeadE L page).1, .int .i64 (pgHeadE L page).2]) ∧ Own W m w' := by
  have hs' := hs
  obtain ⟨A, c, rfl, h1, h2, h3⟩ := hs'
  unfold maxLen at h2
  obtain ⟨N, hN⟩ : ∃ N, L.length = N := ⟨_, rfl⟩
  have HN := Lib.hid hN
  rw [hN] at hs h1 ⊢
  clear h3 hN
  by_cases hc : pgCheck L = 0
  · have HC := Lib.hid hc
    clear hc
    by_cases hp : page < 0 ∨ (N : Int) ≤ page
    · have hr : pgHeadE L page = (0, 9) := by unfold pgHeadE; rw [if_neg (by rw [HC.out]; simp), if_pos (by rw [HN.out]; exact hp)]
      rw [hr]
      clear hr
      rcases hp with hp | hp
      all_goals
        have hp0 : page < 0 ∨ 0 ≤ page := by omega
        rcases hp0 with hp0 | hp0
        all_goals
          go_enter Tryz.func111, Tryz.ntmps111
          go_wp2_with (go_at_call 129; refine (check_spec h hs).mono ?_; rintro e w' ⟨rfl, h1⟩; rw [HC.out])
          go_ret2
          exact ⟨rfl, h1⟩
    · have hr : pgHeadE L page = (pgHd L page, 0) := by unfold pgHeadE; rw [if_neg (by rw [HC.out]; simp), if_neg (by rw [HN.out]; exact hp)]
      rw [hr]
      have hp1 : 0 ≤ page := by omega
      have hp2 : page < N := by omega
      clear hr hp
      go_enter Tryz.func111, Tryz.ntmps111
      go_wp2_with (first | (go_at_call 129; refine (check_spec (Own.self w) hs).mono ?_; rintro e w1 ⟨rfl, h0⟩; rw [HC.out]; have hs1 := hs.own h0; have h1 := h.of_self h0) | (go_at_call 130; refine (head_spec h1 hs1 HC.out page).mono ?_; rintro e w' ⟨rfl, h2⟩))
      go_ret2
      exact ⟨rfl, h2⟩
  · have hr : pgHeadE L page = (0, 50) := by unfold pgHeadE; rw [if_pos hc]
    rw [hr]
    have hc : pgCheck L = 50 := (pgCheck_cases L).resolve_left hc
    have HC := Lib.hid hc
    clear hc hr
    go_enter Tryz.func111, Tryz.ntmps111
    go_wp2_with (go_at_call 129; refine (check_spec h hs).mono ?_; rintro e w' ⟨rfl, h1⟩; rw [HC.out])
    go_ret2
    exact ⟨rfl, h1⟩
end
end Go.Proofs.YthjjpmoifgcepaaGreat

/- all that the judge's histories stand on -/
