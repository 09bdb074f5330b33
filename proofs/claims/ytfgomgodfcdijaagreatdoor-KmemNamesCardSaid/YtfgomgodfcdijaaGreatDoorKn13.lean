/-
  Texts of this claim, joined. No condition.
-/
import Derived.Test.YtfgomgodfcdijaaGreatDoorKn12
import Derived.Maps.AppendAt
import Derived.Laws.AppendOwnNone
import Derived.Lib.SliceRun
import Derived.Deep.DeepCutAuto
import Derived.Deep.CutBlock
import Derived.RangeFuncNested
import Derived.RangeFuncBound
import Derived.RangeFuncCalls
import Derived.RangeFuncLeaves
import Derived.RangeFuncWrites
import Derived.Shelf.Abstract
import Derived.Shelf.RegionOpen
import Derived.WalkKit
import Derived.OwnWalkIn
import Derived.TacticsInMore
import Derived.LoopNIn
import Derived.LoopIn
import Derived.Shelf.SlIterI.Collect
/-
  slices.Backward of nothing yields nothing. No condition.
-/
namespace Go.Proofs.YtfgomgodfcdijaaGreatDoor.Ex
open Go Go.RowKit
noncomputable section
def rngB : AV → AH → Bool := fun v h => match v with
  | .fn (.func f) [] [.ptr b 0] => match Nat.beq f 164 with
    | true => match h.get b with
      | some (.cells cs _ _) => match cs.get 0 with
        | some (.sl _ _ 0 _ _) => true
        | _ => false
      | _ => false
    | false => false
  | _ => false
theorem back1_spec {w : World} {B c : Nat} {A : Option Addr} (hB : w.cell? ⟨B, 0, none⟩ = some (.slice A 0 c)) (l : Nat) :
    Calls Tryz.prog 164 #[.func (.yield l) #[] #[], .pointer (some ⟨B, 0, none⟩)] w fun e w' => (∃ u, e = .returned u) ∧ Below w.heap.size w w' := by
  go_enter Tryz.func164, Tryz.ntmps164
  go_wp2_with fail
  go_loop [3] (fun k => k = .int .i64 (-1)) (fun _ => 0)
  case atStart => rfl
  case round =>
    subst hrel
    go_wp2
    go_end0
    exact ⟨⟨_, rfl⟩, Below.refl _ _⟩
end
end Go.Proofs.YtfgomgodfcdijaaGreatDoor.Ex

/-
  Contracts: tree.of, tree.none, tree.up, for a tree of the root alone.
-/
namespace Go.Proofs.YtfgomgodfcdijaaGreatDoor.Jt
open Go.RowKit
attribute [local go_sem ↓] Go.wp_at_zero Go.wp_at_succ
section
variable {W : World} {m : List (Nat × Obj)} {w : World} {T G c : Nat}
theorem none_spec (h : Own W m w) (hT : w.cell? ⟨T, 0, none⟩ = some (.slice (some ⟨G, 0, none⟩) 1 c)) : Calls Tryz.prog 96 #[.pointer (some ⟨T, 0, none⟩)] w fun e w' => e = .returned (.bool false) ∧ Own W m w' := by
  go_enter Tryz.func96, Tryz.ntmps96
  go_wp2_with fail
  go_ret
  exact ⟨rfl, h⟩
theorem of_one (h : Own W m w) (hTl : T < w.heap.size) (hT : w.cell? ⟨T, 0, none⟩ = some (.slice (some ⟨G, 0, none⟩) 1 c)) (_hc : 1 ≤ c) : Calls Tryz.prog 157 #[.pointer (some ⟨T, 0, none⟩), .int .i64 1] w fun e w' => e = .returned (.pointer (some ⟨G, 0, none⟩)) ∧ Own W m w' := by
  go_enter Tryz.func157, Tryz.ntmps157
  go_wp2_with (go_at_call 96; refine (none_spec (Own.self w) hT).mono ?_; rintro e w' ⟨rfl, h1⟩; have h2 := h.of_self h1; have hT2 := (h1.old (a := ⟨T, 0, none⟩) hTl).trans hT)
  go_ret
  exact ⟨rfl, h2⟩
theorem of_zero (h : Own W m w) (hTl : T < w.heap.size) (hT : w.cell? ⟨T, 0, none⟩ = some (.slice (some ⟨G, 0, none⟩) 1 c)) (_hc : 1 ≤ c) : Calls Tryz.prog 157 #[.pointer (some ⟨T, 0, none⟩), .int .i64 0] w fun e w' => e = .returned (.pointer none) ∧ Own W m w' := by
  go_enter Tryz.func157, Tryz.ntmps157
  go_wp2_with (go_at_call 96; refine (none_spec (Own.self w) hT).mono ?_; rintro e w' ⟨rfl, h1⟩; have h2 := h.of_self h1; have hT2 := (h1.old (a := ⟨T, 0, none⟩) hTl).trans hT)
  go_ret
  exact ⟨rfl, h2⟩
theorem up_spec (h : Own W m w) (g : Int) : Calls Tryz.prog 92 #[.pointer (some ⟨T, 0, none⟩), .int .i64 g] w fun e w' => ∃ b1 b2, e = .returned (.func (.func 156) #[] #[.pointer (some ⟨b1, 0, none⟩), .pointer (some ⟨b2, 0, none⟩)]) ∧ Own W ((b2, .cells #[.int .i64 g] 3) :: (b1, .cells #[.pointer (some ⟨T, 0, none⟩)] 59) :: m) w' := by
  have h1 := (h.new (.cells #[.pointer (some ⟨T, 0, none⟩)] 59)).new (.cells #[.int .i64 g] 3)
  rw [World.size_alloc] at h1
  go_enter Tryz.func92, Tryz.ntmps92
  go_wp2_with fail
  go_ret
  exact ⟨_, _, rfl, h1⟩
end
end Go.Proofs.YtfgomgodfcdijaaGreatDoor.Jt

/-
  Rows of numbers in memory: a function on indexes, or a list. No condition.
-/
namespace Go.Proofs.YtfgomgodfcdijaaGreatDoor
open Go.RowKit

/-- n cells, each the number that a function gives -/
def rowOf (n : Nat) (f : Nat → Int) : Array Value := ((List.range n).map fun i => Value.int .i64 (f i)).toArray
theorem rowOf_size (n : Nat) (f : Nat → Int) : (rowOf n f).size = n := by simp [rowOf]
theorem rowOf_get {n i : Nat} (f : Nat → Int) (h : i < n) : (rowOf n f)[i]? = some (.int .i64 (f i)) := by simp [rowOf, h]
theorem rowOf_congr {n : Nat} {f g : Nat → Int} (h : ∀ i, i < n → f i = g i) : rowOf n f = rowOf n g := by
  unfold rowOf
  congr 1
  exact List.map_congr_left fun i hi => by rw [h i (by simpa using hi)]
theorem rowOf_set {n i : Nat} (f : Nat → Int) (v : Int) (h : i < n) : (rowOf n f).setIfInBounds i (.int .i64 v) = rowOf n (fun j => if j = i then v else f j) := by
  apply Array.ext_getElem?
  intro j
  rw [Array.getElem?_setIfInBounds]
  by_cases hj : j < n
  · rw [rowOf_size, rowOf_get (fun j => if j = i then v else f j) hj]
    by_cases hij : i = j
    · subst hij; simp [h]
    · rw [if_neg hij, rowOf_get f hj, if_neg (by omega)]
  · rw [if_neg (by omega), Array.getElem?_eq_none (by rw [rowOf_size]; omega), Array.getElem?_eq_none (by rw [rowOf_size]; omega)]
theorem rowOf_rep (n : Nat) : Array.replicate n (Value.int .i64 0) = rowOf n (fun _ => 0) := by
  apply Array.ext_getElem?
  intro j
  by_cases hj : j < n
  · rw [rowOf_get _ hj]; simp [hj]
  · rw [Array.getElem?_eq_none (by simp; omega), Array.getElem?_eq_none (by rw [rowOf_size]; omega)]

/-- the cells of a list of numbers -/
def intCells (l : List Int) : Array Value := (l.map fun n => Value.int .i64 n).toArray
theorem intCells_size (l : List Int) : (intCells l).size = l.length := by simp [intCells]
theorem intCells_get (l : List Int) (i : Nat) : (intCells l)[i]? = (l[i]?).map fun n => Value.int .i64 n := by simp [intCells]
theorem intCells_set (l : List Int) (i : Nat) (v : Int) : (intCells l).setIfInBounds i (.int .i64 v) = intCells (l.set i v) := by
  apply Array.ext_getElem?
  intro j
  rw [Array.getElem?_setIfInBounds, intCells_get, intCells_get, intCells_size, List.getElem?_set]
  by_cases hij : i = j
  · subst hij
    by_cases h : i < l.length
    · simp [h]
    · simp [h]
  · simp [hij]

section
variable {W w : World} {X m : List (Nat × Obj)} {hb n i : Nat} {f : Nat → Int} {T : TypeId}
theorem row_at (h : Own W (X ++ (hb, .cells (rowOf n f) T) :: m) w) (hi : i < n) : w.cell? ⟨hb, i, none⟩ = some (.int .i64 (f i)) := by
  rw [h.cell (List.mem_append_right _ List.mem_cons_self), rowOf_get f hi]
theorem row_free (h : Own W (X ++ (hb, .cells (rowOf n f) T) :: m) w) : w.frozen? ⟨hb, i, none⟩ = false :=
  h.frozen (List.mem_append_right _ List.mem_cons_self) i
theorem row_lt (h : Own W (X ++ (hb, .cells (rowOf n f) T) :: m) w) : hb < w.heap.size := h.lt (List.mem_append_right _ List.mem_cons_self)
theorem row_set (h : Own W (X ++ (hb, .cells (rowOf n f) T) :: m) w) (hi : i < n) (v : Int) (g : Nat → Int) (hg : ∀ j, j < n → (if j = i then v else f j) = g j) :
    Own W (X ++ (hb, .cells (rowOf n g) T) :: m) (w.setCell ⟨hb, i, none⟩ (.int .i64 v)) := by
  have := h.setIn i (.int .i64 v)
  rw [rowOf_set f v hi, rowOf_congr hg] at this
  exact this
end
end Go.Proofs.YtfgomgodfcdijaaGreatDoor

/-
  Slices that the call owns: what they hold, and append onto them. No condition but sizes.
-/
namespace Go.Proofs.YtfgomgodfcdijaaGreatDoor
open Go.RowKit

/-- a slice value of n elements, whose cells are 'xs', and the blocks that it owns: none, or one ('ex': the block has just the slice's room) -/
def SlO (ex : Bool) (e size : Nat) (v : Value) (n : Nat) (xs : List Value) (bs : List (Nat × Obj)) : Prop :=
  xs.length = n * size ∧ ((v = .slice none 0 0 ∧ n = 0 ∧ bs = []) ∨
    ∃ g cap cur, v = .slice (some ⟨g, 0, none⟩) n cap ∧ bs = [(g, .cells cur e)] ∧ n ≤ cap ∧ cap ≤ maxLen ∧ (cap * size ≤ cur.size ∧ (ex = true → cur.size = cap * size)) ∧ cur.toList.take (n * size) = xs)
/-- .. one that may be appended to: its block has no more room than it knows of -/
abbrev SlOwn := SlO true
/-- a slice value of n elements that reads as the cells 'xs' -/
def Src (w : World) (size : Nat) (v : Value) (n : Nat) (xs : List Value) : Prop :=
  xs.length = n * size ∧ ((v = .slice none 0 0 ∧ n = 0) ∨ ∃ a c, v = .slice (some a) n c ∧ ∀ j u, xs[j]? = some u → w.cell? (a.add j) = some u)

theorem add_lit0 (g j : Nat) : (⟨g, 0, none⟩ : Addr).add j = ⟨g, j, none⟩ := by
  unfold Addr.add
  split <;> simp_all
theorem add_lit (g o j : Nat) : (⟨g, o, none⟩ : Addr).add j = ⟨g, o + j, none⟩ := by
  unfold Addr.add
  split <;> simp_all

section
variable {ex : Bool} {W w : World} {m : List (Nat × Obj)} {e size n : Nat} {v : Value} {xs : List Value} {bs : List (Nat × Obj)} {P : Program}

theorem SlO.nil (ex : Bool) (e size : Nat) : SlO ex e size (.slice none 0 0) 0 [] [] := ⟨by simp, .inl ⟨rfl, rfl, rfl⟩⟩
theorem SlO.made (ex : Bool) (e size g cap : Nat) (cur : Array Value) (n : Nat) (hn : n ≤ cap) (hc : cap ≤ maxLen) (hs : cur.size = cap * size) :
    SlO ex e size (.slice (some ⟨g, 0, none⟩) n cap) n (cur.toList.take (n * size)) [(g, .cells cur e)] :=
  ⟨by rw [List.length_take, Array.length_toList, hs, Nat.min_eq_left (Nat.mul_le_mul_right _ hn)], .inr ⟨g, cap, cur, rfl, rfl, hn, hc, ⟨by omega, fun _ => hs⟩, rfl⟩⟩
theorem SlO.form (h : SlO ex e size v n xs bs) (hn : 0 < n) : ∃ g cap cur, v = .slice (some ⟨g, 0, none⟩) n cap ∧ bs = [(g, .cells cur e)] ∧ n ≤ cap ∧ cap ≤ maxLen ∧ (cap * size ≤ cur.size ∧ (ex = true → cur.size = cap * size)) ∧ cur.toList.take (n * size) = xs := by
  rcases h.2 with ⟨_, h0, _⟩ | h
  · omega
  · exact h
theorem SlO.len (h : SlO ex e size v n xs bs) : xs.length = n * size := h.1
theorem SlO.slice (h : SlO ex e size v n xs bs) : ∃ A cap, v = .slice A n cap ∧ n ≤ cap ∧ cap ≤ maxLen := by
  rcases h.2 with ⟨rfl, rfl, _⟩ | ⟨g, cap, cur, rfl, _, h1, h2, _⟩
  · exact ⟨none, 0, rfl, Nat.le_refl _, by unfold maxLen; omega⟩
  · exact ⟨_, cap, rfl, h1, h2⟩
/-- the cell at an index -/
theorem SlO.cell (h : SlO ex e size v n xs bs) (hO : Own W (bs ++ m) w) {g cap : Nat} (hv : v = .slice (some ⟨g, 0, none⟩) n cap) {j : Nat} {u : Value} (hj : xs[j]? = some u) : w.cell? ⟨g, j, none⟩ = some u := by
  rcases h.2 with ⟨rfl, _, _⟩ | ⟨g', cap', cur, rfl, rfl, h1, h2, h3, h4⟩
  · cases hv
  · simp only [Value.slice.injEq, Option.some.injEq, Addr.mk.injEq, and_true, true_and] at hv
    obtain ⟨rfl, rfl⟩ := hv
    rw [hO.cell List.mem_cons_self]
    rw [← h4] at hj
    rw [List.getElem?_take] at hj
    split at hj
    · simpa using hj
    · cases hj
theorem SlO.src (h : SlO ex e size v n xs bs) (hO : Own W (bs ++ m) w) : Src w size v n xs := by
  refine ⟨h.1, ?_⟩
  rcases h.2 with ⟨rfl, rfl, _⟩ | ⟨g, cap, cur, rfl, h0, _⟩
  · exact .inl ⟨rfl, rfl⟩
  · refine .inr ⟨_, _, rfl, fun j u hj => ?_⟩
    rw [add_lit0]
    exact h.cell hO rfl hj
theorem SlO.free (h : SlO ex e size v n xs bs) (hO : Own W (bs ++ m) w) {g cap : Nat} (hv : v = .slice (some ⟨g, 0, none⟩) n cap) (j : Nat) : w.frozen? ⟨g, j, none⟩ = false := by
  rcases h.2 with ⟨rfl, _, _⟩ | ⟨g', cap', cur, rfl, rfl, _⟩
  · cases hv
  · simp only [Value.slice.injEq, Option.some.injEq, Addr.mk.injEq, and_true, true_and] at hv
    obtain ⟨rfl, rfl⟩ := hv
    exact hO.frozen List.mem_cons_self j
theorem SlO.lt (h : SlO ex e size v n xs bs) (hO : Own W (bs ++ m) w) {g cap : Nat} (hv : v = .slice (some ⟨g, 0, none⟩) n cap) : g < w.heap.size := by
  rcases h.2 with ⟨rfl, _, _⟩ | ⟨g', cap', cur, rfl, rfl, _⟩
  · cases hv
  · simp only [Value.slice.injEq, Option.some.injEq, Addr.mk.injEq, and_true, true_and] at hv
    obtain ⟨rfl, rfl⟩ := hv
    exact hO.lt List.mem_cons_self
/-- a cell is stored -/
theorem SlO.store (h : SlO ex e size v n xs bs) (hO : Own W (bs ++ m) w) {g cap : Nat} (hv : v = .slice (some ⟨g, 0, none⟩) n cap) {j : Nat} (_hj : j < n * size) (u : Value) :
    ∃ bs', SlO ex e size v n (xs.set j u) bs' ∧ Own W (bs' ++ m) (w.setCell ⟨g, j, none⟩ u) := by
  rcases h.2 with ⟨rfl, _, _⟩ | ⟨g', cap', cur, rfl, rfl, h1, h2, h3, h4⟩
  · cases hv
  · simp only [Value.slice.injEq, Option.some.injEq, Addr.mk.injEq, and_true, true_and] at hv
    obtain ⟨rfl, rfl⟩ := hv
    refine ⟨[(g', .cells (cur.setIfInBounds j u) e)], ⟨by rw [List.length_set]; exact h.1, .inr ⟨g', cap', _, rfl, rfl, h1, h2, by rw [Array.size_setIfInBounds]; exact h3, ?_⟩⟩, hO.set j u⟩
    rw [Array.toList_setIfInBounds, List.take_set, h4]
/-- shorter: the same block -/
theorem SlO.shorter (h : SlO ex e size v n xs bs) {g cap k : Nat} (hv : v = .slice (some ⟨g, 0, none⟩) n cap) (hk : k ≤ n) : SlO ex e size (.slice (some ⟨g, 0, none⟩) k cap) k (xs.take (k * size)) bs := by
  rcases h.2 with ⟨rfl, _, _⟩ | ⟨g', cap', cur, rfl, rfl, h1, h2, h3, h4⟩
  · cases hv
  · simp only [Value.slice.injEq, Option.some.injEq, Addr.mk.injEq, and_true, true_and] at hv
    obtain ⟨rfl, rfl⟩ := hv
    have hle : k * size ≤ n * size := Nat.mul_le_mul_right _ hk
    refine ⟨by rw [List.length_take, h.1]; omega, .inr ⟨g', cap', cur, rfl, rfl, by omega, h2, h3, ?_⟩⟩
    rw [← h4, List.take_take, Nat.min_eq_left hle]
/-- what may be appended to may be read and written -/
theorem SlO.weak (h : SlO ex e size v n xs bs) : SlO false e size v n xs bs := by
  refine ⟨h.1, ?_⟩
  rcases h.2 with h0 | ⟨g, cap, cur, hv, hb, h1, h2, h3, h4⟩
  · exact .inl h0
  · exact .inr ⟨g, cap, cur, hv, hb, h1, h2, ⟨h3.1, fun h => by cases h⟩, h4⟩
/-- shorter, and with less room ('s[:k:k]') -/
theorem SlO.cut (h : SlO ex e size v n xs bs) {g cap k : Nat} (hv : v = .slice (some ⟨g, 0, none⟩) n cap) (hk : k ≤ n) : SlO false e size (.slice (some ⟨g, 0, none⟩) k k) k (xs.take (k * size)) bs := by
  rcases h.2 with ⟨rfl, _, _⟩ | ⟨g', cap', cur, rfl, rfl, h1, h2, h3, h4⟩
  · cases hv
  · simp only [Value.slice.injEq, Option.some.injEq, Addr.mk.injEq, and_true, true_and] at hv
    obtain ⟨rfl, rfl⟩ := hv
    have hle : k * size ≤ n * size := Nat.mul_le_mul_right _ hk
    have hle2 : n * size ≤ cap' * size := Nat.mul_le_mul_right _ h1
    refine ⟨by rw [List.length_take, h.1]; omega, .inr ⟨g', k, cur, rfl, rfl, Nat.le_refl _, by omega, ⟨by omega, fun h => by cases h⟩, ?_⟩⟩
    rw [← h4, List.take_take, Nat.min_eq_left hle]
theorem Src.setCell (h : Src w size v n xs) {a : Addr} {u : Value} (ha : ∀ b c, v = .slice (some b) n c → b.block ≠ a.block) : Src (w.setCell a u) size v n xs := by
  refine ⟨h.1, ?_⟩
  rcases h.2 with h0 | ⟨b, c, hv, hc⟩
  · exact .inl h0
  · refine .inr ⟨b, c, hv, fun j x hj => ?_⟩
    rw [World.cell?_of_block (w := w) (Below.heap_setCell w a u _ (by rw [ChangeShapes.block_add]; exact ha b c hv))]
    exact hc j x hj
theorem Src.below (h : Src w size v n xs) {w' : World} (hb : Below w.heap.size w w') : Src w' size v n xs := by
  refine ⟨h.1, ?_⟩
  rcases h.2 with h0 | ⟨b, c, hv, hc⟩
  · exact .inl h0
  · refine .inr ⟨b, c, hv, fun j x hj => ?_⟩
    have := hc j x hj
    rw [hb.cell (World.block_lt_of_cell? w _ this)]
    exact this
theorem Src.ofOwn (h : Src W size v n xs) (hO : Own W m w) : Src w size v n xs := h.below hO.below

/-- APPEND onto a slice that the call owns: what it is then, and what is owned. -/
theorem run_app (t ty e : TypeId) (i : TypeInfo) (z : Value) (size bytes : Nat) (ht : P.underlying t = some (.slice e)) (hi : P.info? e = some i) (hz : i.zero = some z)
    (hsize : i.size = size) (hby : i.bytes = bytes) (hzs : z.cells.size = size) (hsz : 0 < size)
    (hs : SlOwn e size v n xs bs) (hO : Own W (bs ++ m) w) {x : Value} {k : Nat} {news : List Value} (hx : Src w size x k news) (h1 : ∀ u ∈ news, u.oneCell' = true)
    (h63 : n + k ≤ maxLen) (hbytes : (n + k) * bytes ≤ 140737488355328) :
    ∃ v' w' bs', (Builtin.append_ #[t, t] ty #[v, x]).run P w = .ok v' w' ∧ SlOwn e size v' (n + k) (xs ++ news) bs' ∧ Own W (bs' ++ m) w' ∧ (v' = .slice none 0 0 ↔ v = .slice none 0 0 ∧ k = 0) := by
  have hown : w.ownsRow W.heap.size e size v n xs := by
    refine ⟨hs.1, ?_⟩
    rcases hs.2 with ⟨h0, h1, _⟩ | ⟨g, cap, cur, hv, hb, ha, hc, hd, he⟩
    · exact .inl ⟨h0, h1⟩
    · subst hb
      exact .inr ⟨g, cap, cur, hv, hO.ge List.mem_cons_self, hO.get List.mem_cons_self, ha, hc, hd.2 rfl, he⟩
  rcases hx.2 with ⟨rfl, rfl⟩ | ⟨ad, c, rfl, hc⟩
  · have hn : news = [] := List.eq_nil_of_length_eq_zero (by simpa using hx.1)
    subst hn
    refine ⟨v, w, bs, ?_, by simpa using hs, hO, by simp⟩
    obtain ⟨A, cap, rfl, hle, _⟩ := SlO.slice hs
    cases A with
    | none => simp [Builtin.append_, run_underlying ht, sizeOf, typeInfo, hi, Builtin.lenOf, Builtin.firstCells, hle]
    | some a => simp [Builtin.append_, run_underlying ht, sizeOf, typeInfo, hi, Builtin.lenOf, Builtin.firstCells, hle, storeCells]
  · obtain ⟨v', w', hr, h2, h3, h4, h5⟩ := run_append_own_at (P := P) w W.heap.size t ty e i z size bytes ht hi hz hsize hby hzs hsz v n xs hown ad k c news hx.1 hc h1 h63 hbytes hO.size_le
    have hbel : Below W.heap.size W w' := hO.below.grown h3 hO.size_le (fun q hq => (hown.lt q hq).1)
    rcases h2.2 with ⟨hv', hn'⟩ | ⟨g, cap, cur, hv', hge, hg, ha, hb, hcs, htk⟩
    · subst hv'
      have hv0 := (h4.1 rfl).1
      subst hv0
      have hbs : bs = [] := by
        rcases hs.2 with ⟨_, _, h⟩ | ⟨g, cap, cur, hv, _⟩
        · exact h
        · cases hv
      subst hbs
      refine ⟨_, w', [], hr, ⟨h2.1, .inl ⟨rfl, hn', rfl⟩⟩, ⟨hbel, fun p hp => ⟨(hO.at_ p hp).1, ?_⟩, hO.nd⟩, h4⟩
      rw [h3.block p.1 (heap_lt (hO.at_ p hp).2) (by simp [Value.ownBlock])]
      exact (hO.at_ p hp).2
    · subst hv'
      refine ⟨_, w', [(g, .cells cur e)], hr, ⟨h2.1, .inr ⟨g, cap, cur, rfl, rfl, ha, hb, ⟨by omega, fun _ => hcs⟩, htk⟩⟩, ⟨hbel, fun p hp => ?_, ?_⟩, h4⟩
      · rcases List.mem_cons.1 hp with rfl | hp
        · exact ⟨hge, hg⟩
        · have hp' := hO.at_ p (List.mem_append_right _ hp)
          refine ⟨hp'.1, (h3.block p.1 (heap_lt hp'.2) (fun he => ?_)).trans hp'.2⟩
          rcases hs.2 with ⟨rfl, _, _⟩ | ⟨g0, cap0, cur0, rfl, rfl, _⟩
          · simp [Value.ownBlock] at he
          · simp only [Value.ownBlock, Option.some.injEq] at he
            exact Own.ne hO (b' := p.1) (o' := p.2) hp he
      · simp only [List.singleton_append, List.map_cons, List.nodup_cons]
        refine ⟨fun hin => ?_, (hO.dropL).nd⟩
        obtain ⟨p, hp, he⟩ := List.mem_map.1 hin
        have hp' := hO.at_ p (List.mem_append_right _ hp)
        rcases h5 with h5 | h5
        · rcases hs.2 with ⟨rfl, _, _⟩ | ⟨g0, cap0, cur0, rfl, rfl, _⟩
          · simp [Value.ownBlock] at h5
          · simp only [Value.ownBlock, Option.some.injEq] at h5
            exact Own.ne hO (b' := p.1) (o' := p.2) hp (by omega)
        · simp only [Value.ownBlock, Option.some.injEq] at h5
          have := heap_lt hp'.2
          omega
/-- .. at an operation of the walk: 'at_builtin; refine wpList_app rfl _ _ _ rfl rfl rfl ..' -/
theorem wpList_app {ops : Array Oper} {rest : List Oper} {o : Oper} {a : Act} {Q : Exit → Act → World → Prop} (hgd : o.guard = none) (s x : Operand) (t : TypeId)
    (ho : o.op = .call { callee := .builtin .append, args := #[s, x], argTypes := #[t, t] }) {v xv : Value} (hes : a.eval s = v) (hex : a.eval x = xv)
    (e : TypeId) (i : TypeInfo) (z : Value) (size bytes : Nat) (ht : P.underlying t = some (.slice e)) (hi : P.info? e = some i) (hz : i.zero = some z)
    (hsize : i.size = size) (hby : i.bytes = bytes) (hzs : z.cells.size = size) (hsz : 0 < size)
    (hs : SlOwn e size v n xs bs) (hO : Own W (bs ++ m) w) {k : Nat} {news : List Value} (hx : Src w size xv k news) (h1 : ∀ u ∈ news, u.oneCell' = true)
    (h63 : n + k ≤ maxLen) (hbytes : (n + k) * bytes ≤ 140737488355328)
    (h : ∀ v' w' bs', SlOwn e size v' (n + k) (xs ++ news) bs' → Own W (bs' ++ m) w' → (v' = .slice none 0 0 ↔ v = .slice none 0 0 ∧ k = 0) → wpList P ops Q rest (a.put o.dst v') w') :
    wpList P ops Q (o :: rest) a w := by
  obtain ⟨v', w', bs', hr, h2, h3, h4⟩ := run_app (P := P) t o.type e i z size bytes ht hi hz hsize hby hzs hsz hs hO hx h1 h63 hbytes
  refine wpList_plain hgd fun K hK => ?_
  unfold Oper.wp execOp
  simp only [ho, resolve, invoke, builtin, Sem.run_bind, Sem.run_pure, Result.andThen_ok, List.map_toArray, List.map_cons, List.map_nil, hes, hex, hr]
  exact hK _ _ (h v' w' bs' h2 h3 h4)
end
end Go.Proofs.YtfgomgodfcdijaaGreatDoor

/-
  Contract: tree.Path, for a tree of the root alone.
-/
namespace Go.Proofs.YtfgomgodfcdijaaGreatDoor.Jt
open Go.RowKit Go.Shelf
attribute [local go_sem] Oper.semAt_some
/-- the blocks of the iterator: its place, its tree -/
abbrev itB (Bg Bt T G : Nat) (ct cg : Array Value) (g : Int) : List (Nat × Obj) := [(Bg, .cells #[.int .i64 g] 3), (Bt, .cells #[.pointer (some ⟨T, 0, none⟩)] 59), (T, .cells ct 152), (G, .cells cg 149)]
theorem itB_at {Bg Bt T G c : Nat} {ct cg : Array Value} (hct : ct[0]? = some (.slice (some ⟨G, 0, none⟩) 1 c)) (hcg : cg[0]? = some (.int .i64 0)) {g : Int} {W w : World} {m : List (Nat × Obj)} (h : Own W (itB Bg Bt T G ct cg g ++ m) w) : w.cell? ⟨Bg, 0, none⟩ = some (.int .i64 g) ∧ w.cell? ⟨Bt, 0, none⟩ = some (.pointer (some ⟨T, 0, none⟩)) ∧ w.cell? ⟨T, 0, none⟩ = some (.slice (some ⟨G, 0, none⟩) 1 c) ∧ w.cell? ⟨G, 0, none⟩ = some (.int .i64 0) ∧ w.frozen? ⟨Bg, 0, none⟩ = false ∧ T < w.heap.size :=
  ⟨h.cell List.mem_cons_self 0, h.cell (List.mem_cons_of_mem _ List.mem_cons_self) 0, (h.cell (List.mem_cons_of_mem _ (List.mem_cons_of_mem _ List.mem_cons_self)) 0).trans hct, (h.cell (List.mem_cons_of_mem _ (List.mem_cons_of_mem _ (List.mem_cons_of_mem _ List.mem_cons_self))) 0).trans hcg, h.frozen List.mem_cons_self 0, h.lt (List.mem_cons_of_mem _ (List.mem_cons_of_mem _ List.mem_cons_self))⟩
set_option maxRecDepth 100000 in
set_option maxHeartbeats 2000000 in
theorem up1_root (n : Nat) (hn : 2 ≤ n) (l Bg Bt T G c : Nat) (hc : 1 ≤ c) {ct cg : Array Value} (hct : ct[0]? = some (.slice (some ⟨G, 0, none⟩) 1 c)) (hcg : cg[0]? = some (.int .i64 0)) {W w : World} {m : List (Nat × Obj)} (Pm : List (Nat × Obj) → Prop) (h : Own W (itB Bg Bt T G ct cg 1 ++ m) w)
    (hY : ∀ w1, Own w [] w1 → YieldAt Fence.wide (n - 1) Tryz.prog l #[.int .i64 1] w1 fun e w' => e = .returned (.bool true) ∧ ∃ m', Pm m' ∧ Own W (itB Bg Bt T G ct cg 1 ++ m') w') :
    CallsIn Fence.wide n Tryz.prog 156 #[.func (.yield l) #[] #[], .pointer (some ⟨Bt, 0, none⟩), .pointer (some ⟨Bg, 0, none⟩)] w fun e w' => (∃ v, e = .returned v) ∧ ∃ m', Pm m' ∧ Own W (itB Bg Bt T G ct cg 0 ++ m') w' := by
  refine callsIn_of_wp Tryz.func156 rfl trivial ?_ rfl
  simp only [Tryz.ntmps156, List.size_toArray, List.length_cons, List.length_nil, Nat.reduceAdd, Nat.reduceSub, Array.replicate_succ, Array.replicate_zero, List.push_toArray, List.append_toArray, List.nil_append, List.cons_append]
  have hf : Fence.wide.fn 157 := trivial
  have hn1 : 1 ≤ n := by omega
  obtain ⟨g0, t0, T0, -, -, Tl⟩ := itB_at hct hcg h
  gi_wp2_with (gi_at_call 157; refine (callsIn_wide.2 (of_one (Own.self w) Tl T0 hc)).mono ?_; rintro e w1 ⟨rfl, h1⟩)
  gi_loopw [4] (fun p wr => (p = .pointer (some ⟨G, 0, none⟩) ∧ Own w [] wr) ∨ (p = .pointer none ∧ ∃ m', Pm m' ∧ Own W (itB Bg Bt T G ct cg 0 ++ m') wr)) (fun p _ => match p with | .pointer none => 0 | _ => 1)
  case atStart => exact .inl ⟨rfl, h1⟩
  case round =>
    rcases hrel with ⟨rfl, hr⟩ | ⟨rfl, hr⟩
    · obtain ⟨fn, tmps, assign, body, hy, hR⟩ := hY wr hr
      clear g0 t0 T0 Tl
      obtain ⟨g0, -⟩ := itB_at hct hcg (h.of_self hr)
      gi_wp2
      refine hR.mono ?_
      rintro e W3 ⟨rfl, m', hPm, h3⟩
      obtain ⟨g3, -, -, q3, f3, -⟩ := itB_at hct hcg h3
      have h4 : Own W (itB Bg Bt T G ct cg 0 ++ m') (W3.setCell ⟨Bg, 0, none⟩ (.int .i64 0)) := h3.set 0 (.int .i64 0)
      obtain ⟨g4, t4, T4, -, -, l4⟩ := itB_at hct hcg h4
      gi_wp2_with (gi_at_call 157; refine (callsIn_wide.2 (of_zero h4 l4 T4 hc)).mono ?_; rintro e w5 ⟨rfl, h5⟩)
      go_roundw
      case rel => exact .inr ⟨rfl, m', hPm, h5⟩
      case measure => exact Nat.zero_lt_one
    · gi_wp2
      refine ⟨fun _ h => (by cases h), ?_⟩
      gi_wp2
      go_end0
      exact ⟨⟨_, rfl⟩, hr⟩
end Go.Proofs.YtfgomgodfcdijaaGreatDoor.Jt

/-
  The library's AppendSeq, of numbers, as the shelf bears it. No condition.
-/
namespace Go.Proofs.YtfgomgodfcdijaaGreatDoor.Jt
open Go.RowKit Go.Shelf
/-- the shelf's numbers, here -/
def ren : Go.Shelf.Ren where
  f := fun | 11 => 102 | 8 => 60 | n => n
  t := fun | 26 => 3 | 24 => 27 | 28 => 158 | 33 => 50 | n => n
  g := fun n => n
theorem lays11 : SlLaysZI.n11 Tryz.prog ren where
  mixed := by kernel_rfl
  f11 := ⟨Tryz.f102.name, by kernel_rfl, by kernel_rfl⟩
  t0 := by kernel_rfl
  a0 := Tryz.isAgg0
  z0 := Tryz.sizeOf0
  v0 := Tryz.zeroValue0
  t24 := by kernel_rfl
  a24 := Tryz.isAgg27
  z24 := Tryz.sizeOf27
  v24 := Tryz.zeroValue27
  t26 := by kernel_rfl
  a26 := Tryz.isAgg3
  z26 := Tryz.sizeOf3
  v26 := Tryz.zeroValue3
  t28 := by kernel_rfl
  a28 := Tryz.isAgg158
  z28 := Tryz.sizeOf158
  v28 := Tryz.zeroValue158
  i26 := by kernel_rfl
end Go.Proofs.YtfgomgodfcdijaaGreatDoor.Jt

/-
  Contract: tree.Path, for a tree of the root alone: a new slice of one number, 1. No condition.
-/
namespace Go.Proofs.YtfgomgodfcdijaaGreatDoor.Jt
open Go.RowKit Go.Shelf
attribute [local go_sem] Oper.semAt_some
section
variable {W w : World} {m : List (Nat × Obj)} {b : Nat} {o o' : Obj}
theorem own_put (h : Own W ((b, o) :: m) w) : Own W ((b, o') :: m) (w.putObj b o') := by
  have hge := h.ge (List.mem_cons_self)
  have hlt := h.lt (List.mem_cons_self)
  refine ⟨⟨h.below.os, h.below.tape, h.below.output, by simpa using h.below.size, fun c hc => (World.putObj_heap_other (by omega)).trans (h.below.block c hc)⟩, fun p hm => ?_, h.nd⟩
  rcases List.mem_cons.1 hm with rfl | hm
  · exact ⟨hge, World.putObj_heap_same hlt⟩
  · have hne : p.1 ≠ b := h.ne (b' := p.1) (o' := p.2) hm
    exact ⟨(h.at_ p (List.mem_cons_of_mem _ hm)).1, (World.putObj_heap_other hne).trans (h.at_ p (List.mem_cons_of_mem _ hm)).2⟩
end
/-- what the loop's rounds come to: one number in a block of its own, and the loop's blocks -/
def OneRow (fn : FuncId) (sv : Value) (Bs l D : Nat) (m m' : List (Nat × Obj)) : Prop := ∃ g cap cur, cur.toList.take 1 = [.int .i64 1] ∧ cur.size = cap ∧ 1 ≤ cap ∧ cap ≤ maxLen ∧
  m' = (g, .cells cur 3) :: (l, .loop (AnyZI.apRec ren fn sv Bs D .ready none)) :: (D, .deferred (some [])) :: (Bs, .cells #[.slice (some ⟨g, 0, none⟩) 1 cap] 27) :: m
theorem oneRow_of {fn : FuncId} {sv : Value} {Bs l D : Nat} {w W' : World} (hBl : Bs ≠ l) (hDl : D ≠ l) (hDB : D ≠ Bs) (h0 : w.heap.size ≤ Bs) (h1 : w.heap.size ≤ l) (h2 : w.heap.size ≤ D) (h : AnyZI.ApAt ren w fn sv Bs l D [1] W') :
    ∃ g cap cur, cur.toList.take 1 = [.int .i64 1] ∧ cur.size = cap ∧ 1 ≤ cap ∧ cap ≤ maxLen ∧ Own w [(g, .cells cur 3), (l, .loop (AnyZI.apRec ren fn sv Bs D .ready none)), (D, .deferred (some [])), (Bs, .cells #[.slice (some ⟨g, 0, none⟩) 1 cap] 27)] W' := by
  obtain ⟨v, hv, hrow, hnil⟩ := h.box
  rcases hrow.2 with ⟨rfl, _⟩ | ⟨g, cap, cur, rfl, hge, hg, hk1, hk2, hk3, hk4⟩
  · exact absurd (hnil.1 rfl) (by simp)
  · have n1 : g ≠ l := fun e => by subst e; rw [h.L] at hg; cases hg
    have n2 : g ≠ D := fun e => by subst e; rw [h.K] at hg; cases hg
    have n3 : g ≠ Bs := fun e => by
      subst e
      rw [hv] at hg
      have := (Obj.cells.inj (Option.some.inj hg)).2.1
      exact absurd this (by decide)
    refine ⟨g, cap, cur, by simpa [encZ] using hk4, by simpa using hk3, hk1, hk2, ⟨h.below, fun p hp => ?_, by simp [n1, n2, n3, hBl.symm, hDl.symm, hDB]⟩⟩
    simp only [List.mem_cons, List.not_mem_nil, or_false] at hp
    rcases hp with rfl | rfl | rfl | rfl
    · exact ⟨hge, hg⟩
    · exact ⟨h1, h.L⟩
    · exact ⟨h2, h.K⟩
    · exact ⟨h0, hv⟩
section
variable {W w : World} {m : List (Nat × Obj)} {Bg Bt T G c : Nat} {ct cg : Array Value}
set_option maxRecDepth 100000 in
set_option maxHeartbeats 2000000 in
theorem appendSeq_root (hc : 1 ≤ c) (hct : ct[0]? = some (.slice (some ⟨G, 0, none⟩) 1 c)) (hcg : cg[0]? = some (.int .i64 0)) (h : Own W (itB Bg Bt T G ct cg 1 ++ m) w) :
    CallsIn Fence.wide 8 Tryz.prog 102 #[.slice none 0 0, .func (.func 156) #[] #[.pointer (some ⟨Bt, 0, none⟩), .pointer (some ⟨Bg, 0, none⟩)]] w fun e w' => ∃ g cap cur, e = .returned (.slice (some ⟨g, 0, none⟩) 1 cap) ∧ cur.toList.take 1 = [.int .i64 1] ∧ cur.size = cap ∧ 1 ≤ cap ∧ cap ≤ maxLen ∧ Own W ((g, .cells cur 3) :: (itB Bg Bt T G ct cg 0 ++ m)) w' := by
  refine callsIn_of_wp_marks Tryz.func102 rfl trivial ?_ rfl
  simp only [Tryz.ntmps102, List.size_toArray, List.length_cons, List.length_nil, Nat.reduceAdd, Nat.reduceSub, Array.replicate_succ, Array.replicate_zero, List.push_toArray, List.append_toArray, List.nil_append, List.cons_append]
  gi_wp2
  refine wpIn_rangeFunc ?_
  intro fn hfn
  obtain ⟨sv, hsv⟩ : ∃ sv, Value.func (.func 156) #[] #[.pointer (some ⟨Bt, 0, none⟩), .pointer (some ⟨Bg, 0, none⟩)] = sv := ⟨_, rfl⟩
  obtain ⟨W0, hW0⟩ : ∃ W0, w.alloc (.cells #[.slice none 0 0] 27) = W0 := ⟨_, rfl⟩
  have hs0 : W0.heap.size = w.heap.size + 1 := by rw [← hW0]; simp
  have hv0 : W0.heap[w.heap.size]? = some (.cells #[.slice none 0 0] 27 (0, 0)) := by rw [← hW0]; exact World.alloc_heap_new w _
  have hb0 : Below w.heap.size w W0 := by rw [← hW0]; exact (Below.refl _ w).alloc (Nat.le_refl _) _
  rw [hW0]
  obtain ⟨W1, hW1⟩ : ∃ W1, (W0.alloc (.deferred (some []))).alloc (.loop (AnyZI.apRec ren fn sv w.heap.size W0.heap.size .ready none)) = W1 := ⟨_, rfl⟩
  have hold : ∀ k, k < W0.heap.size → W1.heap[k]? = W0.heap[k]? := fun k hk => by
    rw [← hW1]; exact (Below.heap_alloc _ _ k (by simp; omega)).trans (Below.heap_alloc _ _ k hk)
  have hb1 : Below w.heap.size w W1 := by rw [← hW1]; exact (hb0.alloc hb0.size _).alloc (by have := hb0.size; simp; omega) _
  have hs1 : W1.heap.size = W0.heap.size + 2 := by rw [← hW1]; simp
  have hM : AnyZI.ApAt ren w fn sv w.heap.size (W0.heap.size + 1) W0.heap.size [] W1 :=
    ⟨⟨_, (hold w.heap.size (by omega)).trans hv0, ⟨rfl, .inl ⟨rfl, rfl⟩⟩, by simp⟩,
     by rw [← hW1]; have := World.alloc_heap_new (W0.alloc (.deferred (some []))) (.loop (AnyZI.apRec ren fn sv w.heap.size W0.heap.size .ready none)); rwa [World.size_alloc] at this,
     by rw [← hW1]; exact (Below.heap_alloc _ _ _ (by simp)).trans (World.alloc_heap_new W0 _), hb1⟩
  have hO1 : Own W (itB Bg Bt T G ct cg 1 ++ m) W1 := h.then_below hb1
  refine ⟨W0.heap.size + 1, [{ target := .collected W0.heap.size, args := #[] }], W1, { target := .fn (.func 156) #[.pointer (some ⟨Bt, 0, none⟩), .pointer (some ⟨Bg, 0, none⟩)], args := #[.func (.yield (W0.heap.size + 1)) #[] #[]] }, W1, 156,
    #[.func (.yield (W0.heap.size + 1)) #[] #[], .pointer (some ⟨Bt, 0, none⟩), .pointer (some ⟨Bg, 0, none⟩)], W1, ?_, ?_, ?_, ?_, fun _ => by omega, ?_⟩
  · rw [← hW1, ← hsv]; exact run_enterLoop_outer _ _ _ _ _
  · simp [resolve, go_sem]
  · intro f' hf'; trivial
  · simp [invoke, go_sem]
  · refine (up1_root 7 (by omega) (W0.heap.size + 1) Bg Bt T G c hc hct hcg (OneRow fn sv w.heap.size (W0.heap.size + 1) W0.heap.size m) hO1 fun w1 h1 => ?_).mono ?_
    · have hM1 : AnyZI.ApAt ren w fn sv w.heap.size (W0.heap.size + 1) W0.heap.size [] w1 := by
        obtain ⟨v, hv, hr, hn⟩ := hM.box
        have hv' : v = .slice none 0 0 := hn.2 rfl
        subst hv'
        refine ⟨⟨_, (h1.below.block _ (by omega)).trans hv, ⟨rfl, .inl ⟨rfl, rfl⟩⟩, by simp⟩, (h1.below.block _ (by omega)).trans hM.L, (h1.below.block _ (by omega)).trans hM.K, hM.below.trans (h1.below.mono (by omega))⟩
      obtain ⟨f1, t1, a1, b1, y1, y2⟩ := AnyZI.apYield lays11 Fence.wide (7 - 1) w fn hfn sv w.heap.size (W0.heap.size + 1) W0.heap.size (by omega) (by omega) (by omega) (Nat.le_refl _) (by omega) 1 (by unfold maxLen; omega) (by omega) [] 1 w1 hM1 (by simp)
      refine ⟨f1, t1, a1, b1, y1, y2.mono ?_⟩
      rintro e w2 ⟨rfl, hA, -⟩
      obtain ⟨g, cap, cur, k1, k2, k3, k4, hO⟩ := oneRow_of (by omega) (by omega) (by omega) (Nat.le_refl _) (by omega) (by omega) hA
      refine ⟨rfl, _, ⟨g, cap, cur, k1, k2, k3, k4, rfl⟩, ?_⟩
      exact (h.join hO).perm (perm_swap _ _ _)
    · rintro e W2 ⟨⟨v0, rfl⟩, m', ⟨g, cap, cur, k1, k2, k3, k4, rfl⟩, h2⟩
      have h3 : Own W ((W0.heap.size + 1, .loop (AnyZI.apRec ren fn sv w.heap.size W0.heap.size .ready none)) :: ((itB Bg Bt T G ct cg 0 ++ [(g, .cells cur 3)]) ++ (W0.heap.size, .deferred (some [])) :: (w.heap.size, .cells #[.slice (some ⟨g, 0, none⟩) 1 cap] 27) :: m)) W2 := Own.perm (m := (itB Bg Bt T G ct cg 0 ++ [(g, .cells cur 3)]) ++ (W0.heap.size + 1, .loop (AnyZI.apRec ren fn sv w.heap.size W0.heap.size .ready none)) :: (W0.heap.size, .deferred (some [])) :: (w.heap.size, .cells #[.slice (some ⟨g, 0, none⟩) 1 cap] 27) :: m) h2 List.perm_middle
      have hend := run_endLoop (P := Tryz.prog) (h3.get List.mem_cons_self) (by simp [AnyZI.apRec])
      have h4 := (own_put (o' := .loop { AnyZI.apRec ren fn sv w.heap.size W0.heap.size .ready none with state := .exhausted }) h3).skip
      obtain ⟨W3, hW3⟩ : ∃ W3, W2.putObj (W0.heap.size + 1) (.loop { AnyZI.apRec ren fn sv w.heap.size W0.heap.size .ready none with state := .exhausted }) = W3 := ⟨_, rfl⟩
      rw [hW3] at hend h4
      clear hW3
      have h5 := h4.perm List.perm_middle
      have hK3 := h5.get List.mem_cons_self
      have hc3 := h5.cell (List.mem_cons_of_mem _ (List.mem_append_right _ List.mem_cons_self)) 0
      have h6 := (own_put (o' := .deferred none) h5).skip
      have h7 : Own W ((g, .cells cur 3) :: (itB Bg Bt T G ct cg 0 ++ (w.heap.size, .cells #[.slice (some ⟨g, 0, none⟩) 1 cap] 27) :: m)) (W3.putObj W0.heap.size (.deferred none)) := Own.perm (m := itB Bg Bt T G ct cg 0 ++ (g, .cells cur 3) :: (w.heap.size, .cells #[.slice (some ⟨g, 0, none⟩) 1 cap] 27) :: m) h6 List.perm_middle
      have h8 : Own W ((g, .cells cur 3) :: (itB Bg Bt T G ct cg 0 ++ m)) (W3.putObj W0.heap.size (.deferred none)) := Own.drop1 (m1 := (g, .cells cur 3) :: itB Bg Bt T G ct cg 0) h7
      simp at hc3
      rw [← hsv] at hend
      refine ⟨none, W3, hend, ?_⟩
      gi_wp2
      rw [← hs0]
      refine ⟨by simp, .inl ⟨_, _, rfl, run_takeDeferred hK3, ?_⟩⟩
      exact ⟨_, results_tmp rfl _ _ _, g, cap, cur, rfl, k1, k2, k3, k4, h8⟩
set_option maxHeartbeats 1000000 in
theorem collect_root (hc : 1 ≤ c) (hct : ct[0]? = some (.slice (some ⟨G, 0, none⟩) 1 c)) (hcg : cg[0]? = some (.int .i64 0)) (h : Own W (itB Bg Bt T G ct cg 1 ++ m) w) :
    CallsIn Fence.wide 9 Tryz.prog 60 #[.func (.func 156) #[] #[.pointer (some ⟨Bt, 0, none⟩), .pointer (some ⟨Bg, 0, none⟩)]] w fun e w' => ∃ g cap cur, e = .returned (.slice (some ⟨g, 0, none⟩) 1 cap) ∧ cur.toList.take 1 = [.int .i64 1] ∧ cur.size = cap ∧ 1 ≤ cap ∧ cap ≤ maxLen ∧ Own W ((g, .cells cur 3) :: (itB Bg Bt T G ct cg 0 ++ m)) w' := by
  refine callsIn_of_wp Tryz.func60 rfl trivial ?_ rfl
  simp only [Tryz.ntmps60, List.size_toArray, List.length_cons, List.length_nil, Nat.reduceAdd, Nat.reduceSub, Array.replicate_succ, Array.replicate_zero, List.push_toArray, List.append_toArray, List.nil_append, List.cons_append]
  have hf : Fence.wide.fn 102 := trivial
  gi_wp2_with (gi_at_call 102; refine (appendSeq_root hc hct hcg h).mono ?_; rintro e w' ⟨g, cap, cur, rfl, k1, k2, k3, k4, h1⟩)
  go_ret
  exact ⟨g, cap, cur, rfl, k1, k2, k3, k4, h1⟩
end
attribute [local go_sem ↓] Go.wp_at_zero Go.wp_at_succ
/-- PATH, of the root alone -/
theorem path_root {W w : World} {m : List (Nat × Obj)} {T G c : Nat} {ct cg : Array Value} (hc : 1 ≤ c) (hct : ct[0]? = some (.slice (some ⟨G, 0, none⟩) 1 c)) (hcg : cg[0]? = some (.int .i64 0)) (h : Own W ((T, .cells ct 152) :: (G, .cells cg 149) :: m) w) :
    Calls Tryz.prog 44 #[.pointer (some ⟨T, 0, none⟩), .int .i64 1] w fun e w' => ∃ g cap cur, e = .returned (.slice (some ⟨g, 0, none⟩) 1 cap) ∧ cur.toList.take 1 = [.int .i64 1] ∧ cur.size = cap ∧ 1 ≤ cap ∧ cap ≤ maxLen ∧ Own W ((g, .cells cur 3) :: (T, .cells ct 152) :: (G, .cells cg 149) :: m) w' := by
  go_enter Tryz.func44, Tryz.ntmps44
  go_wp2_with (first | (go_at_call 92; refine (up_spec h 1).mono ?_; rintro e w1 ⟨b1, b2, rfl, h1⟩) | (go_at_call 60; refine (callsIn_wide.1 (collect_root hc hct hcg h1)).mono ?_; rintro e w2 ⟨g, cap, cur, rfl, k1, k2, k3, k4, h2⟩))
  go_ret
  exact ⟨g, cap, cur, rfl, k1, k2, k3, k4, Own.drop1 (m1 := [(g, .cells cur 3)]) (Own.drop1 (m1 := [(g, .cells cur 3)]) h2)⟩
end Go.Proofs.YtfgomgodfcdijaaGreatDoor.Jt
