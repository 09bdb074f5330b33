/-
  Texts of this claim, joined. No condition.
-/
import Derived.Test.YtigakendeghoaaaFs4
import Derived.Maps.AppendAt
import Derived.Laws.AppendOwnNone
import Derived.Lib.SliceRun
import Derived.Deep.DeepCutAuto
import Derived.Deep.CutBlock
import Derived.Deep.Slices
import Derived.SizedLaws
import Derived.Laws.StructEq
import Derived.Test.YtigakendeghoaaaRows
import Derived.Laws.BitsAllLaws
/-
  Words for the trees of steps: a task's, a chart's numbers; known calls of a memory and of the packages below. No condition.
-/
namespace Go.Proofs.Ytigakendeghoaaa.Step
open Go Ex
noncomputable section
def v (i : Nat) : SE := .var i
def l (n : Int) : SE := .lit n
def mul (a b : SE) : SE := .bin .mul a b
def add (a b : SE) : SE := .bin .add a b
def sub (a b : SE) : SE := .bin .sub a b
def sI (i : Nat) : AV := .sym .i64 (.var i)
def sU (i : Nat) : AV := .sym .u64 (.var i)
def nI (n : Int) : AV := .int .i64 n
def nU (n : Int) : AV := .int .u64 n
/-- a task: 0 Job 1 Cpu 2 Pc 3 End 4 Want 5 Slab 6 Obj 7 H 8 T 9 F 10 K 11 N 12 Last 13 Many 14 To 15 Back 16 For -/
def taskA (pc e w : AV) : List AV := [sI 0, sI 1, pc, e, w, sI 5, sI 6, sU 7, sU 8, sU 9, sU 10, sU 11, sI 12, sI 13, sI 14, sI 15, sI 16]
def setA : Nat → AV → List AV → List AV
  | _, _, [] => []
  | 0, x, _ :: r => x :: r
  | n + 1, x, y :: r => y :: setA n x r
def tset : List (Nat × AV) → List AV → List AV
  | [], t => t
  | p :: u, t => tset u (setA p.1 p.2 t)
/-- a chart: 20 Cpus 21 Slabs 22 Objects 23 Min 24 Cap 25 Key -/
def chartA : AV := .agg [sI 20, sI 21, sI 22, sI 23, sI 24, sU 25]
/-- a task that goes on: what is changed, at which place -/
def onT (pc : Int) (u : List (Nat × AV)) (s : Nat) : DM := .is (.tup [.agg (tset u (taskA (nI pc) (nI 0) (nI 0))), nI 0]) s
def brk (pc : Int) (s : Nat) : DM := onT pc [(3, nI 3)] s
/-- a chart that may be; a memory that has words -/
def factsC : List (Cnd × Bool) := [(.lt (v 20) (l 1), false), (.lt (l 8) (v 20), false), (.lt (v 21) (l 1), false), (.lt (l 32) (v 21), false), (.lt (v 22) (l 1), false), (.lt (l 16) (v 22), false), (.lt (v 23) (l 0), false), (.lt (l 32) (v 23), false), (.lt (v 24) (l 0), false), (.lt (l 32) (v 24), false), (.eq (v 30) (l 0), false)]
/-! places -/
def base : SE := mul (l 4) (v 20)
def slabs : SE := add base (l 4)
def links : SE := add slabs (mul (l 4) (v 21))
def headE : SE := mul (l 4) (v 1)
def linkE (s o : SE) : SE := add (add links (mul s (v 22))) o
def keyE (s : SE) : SE := .ubin .add (v 25) (.ubin .mul (.cv .u64 s) (l 11400714819323198485))
/-- questions -/
def cpuQ (y n : DM) : DM := .node (.lt (v 1) (l 0)) n (.node (.lt (v 1) (v 20)) (.node (.lt (v 1) (l 8)) y .bad) n)
def linkQ (s o : SE) (y n : DM) : DM := .node (.lt s (l 0)) n (.node (.lt s (v 21)) (.node (.lt o (l 0)) n (.node (.lt o (v 22)) y n)) n)
def isQ (i : Nat) (y n : DM) : DM := .node (.eq (v i) (l 1)) y n
def okQ (i : Nat) (y n : DM) : DM := .node (.eq (v i) (l 0)) y n
/-- what is known where there is a place -/
def csCpu : List (Cnd × Bool) := [(.lt (v 1) (l 0), false), (.lt (v 1) (v 20), true)]
def csLink (s o : SE) : List (Cnd × Bool) := [(.lt s (l 0), false), (.lt s (v 21), true), (.lt o (l 0), false), (.lt o (v 22), true)]
/-! known calls: the memory's -/
def kLen (f : Nat) : Kn := { f := f, args := [.ptr 0 0], res := sI 30, effs := [(0, 0, 0), (1, 1, 1)] }
def kLoad (f : Nat) (a : SE) (i : Nat) (cs : List (Cnd × Bool)) : Kn := { f := f, args := [.ptr 0 0, .sym .i64 a], conds := cs, res := .tup [sU i, nI 0], effs := [(0, 0, 2), (1, 1, 3)] }
def kLoadN (f : Nat) : Kn := { f := f, args := [.ptr 0 0, nI (-1)], res := .tup [nU 0, nI 9], effs := [(0, 0, 0), (1, 1, 1)] }
def kStore (f : Nat) (a : SE) (x : AV) (cs : List (Cnd × Bool)) : Kn := { f := f, args := [.ptr 0 0, .sym .i64 a, x], conds := cs, res := nI 0, effs := [(0, 0, 2), (1, 1, 3)] }
def kStoreN (f : Nat) (x : AV) : Kn := { f := f, args := [.ptr 0 0, nI (-1), x], res := nI 9, effs := [(0, 0, 0), (1, 1, 1)] }
def kCas2Y (f : Nat) (a : SE) (xs : List AV) (cs : List (Cnd × Bool)) : Kn := { f := f, args := .ptr 0 0 :: .sym .i64 a :: xs, conds := cs ++ [(.eq (v 41) (l 1), true)], res := .tup [.bool true, nI 0], effs := [(0, 0, 2), (1, 1, 3)] }
def kCas2F (f : Nat) (a : SE) (xs : List AV) (cs : List (Cnd × Bool)) : Kn := { f := f, args := .ptr 0 0 :: .sym .i64 a :: xs, conds := cs ++ [(.eq (v 41) (l 1), false)], res := .tup [.bool false, nI 0], effs := [(0, 0, 4), (1, 1, 5)] }
def kCas2N (f : Nat) (xs : List AV) : Kn := { f := f, args := .ptr 0 0 :: nI (-1) :: xs, res := .tup [.bool false, nI 9], effs := [(0, 0, 0), (1, 1, 1)] }
/-! known calls: what words say -/
def kHeadOfY (f : Nat) : Kn := { f := f, args := [sU 31], conds := [(.eq (v 32) (l 1), true)], res := .tup [sI 33, sI 34, .bool true] }
def kHeadOfN (f : Nat) : Kn := { f := f, args := [sU 31], conds := [(.eq (v 32) (l 1), false)], res := .tup [nI (-1), nI (-1), .bool false] }
def kHeadOf0 (f : Nat) : Kn := { f := f, args := [nU 0], res := .tup [nI (-1), nI (-1), .bool true] }
def kHeadY (f : Nat) (xs : List AV) : Kn := { f := f, args := xs, conds := [(.eq (v 37) (l 0), true)], res := .tup [sU 38, nI 0] }
def kHeadN (f : Nat) (xs : List AV) : Kn := { f := f, args := xs, conds := [(.eq (v 37) (l 0), false)], res := .tup [nU 0, nI 2] }
/-- Show: 'i' tells whether it shows something, 'i + 1' what -/
def kShowY (f i : Nat) (xs : List AV) : Kn := { f := f, args := xs, conds := [(.eq (v i) (l 1), true)], res := .tup [sI (i + 1), .bool true] }
def kShowN (f i : Nat) (xs : List AV) : Kn := { f := f, args := xs, conds := [(.eq (v i) (l 1), false)], res := .tup [nI 0, .bool false] }
def kHideY (f : Nat) (xs : List AV) : Kn := { f := f, args := xs, conds := [(.eq (v 39) (l 0), true)], res := .tup [sU 40, nI 0] }
def kHideN (f : Nat) (xs : List AV) : Kn := { f := f, args := xs, conds := [(.eq (v 39) (l 0), false)], res := .tup [nU 0, nI 2] }
end
end Go.Proofs.Ytigakendeghoaaa.Step

/-
  Rows of numbers in memory: a function on indexes, or a list. No condition.
-/
namespace Go.Proofs.Ytigakendeghoaaa
open Go.RowKit

/-- n cells, each the number that a function gives -/
def rowOf (n : Nat) (f : Nat → Int) : Array Value := ((List.range n).map fun i => Value.int .i64 (f i)).toArray
theorem rowOf_size (n : Nat) (f : Nat → Int) : (rowOf n f).size = n := by simp [rowOf]
theorem rowOf_get {n i : Nat} (f : Nat → Int) (h : i < n) : (rowOf n f)[i]? = some (.int .i64 (f i)) := by simp [rowOf, h]
theorem rowOf_congr {n : Nat} {f g : Nat → Int} (h : ∀ i, i < n → f i = g i) : rowOf n f = rowOf n g := by
  unfold rowOf
  congr 1
  exact List.map_congr_left fun i hi => by rw [h i (by simpa using hi)]
theorem rowOf_set {n i : Nat} (f : Nat → Int) (v : Int) (h : i < n) : (rowOf n f).setIfInBounds i (.int .i64 v) = rowOf n (fun j => if j = i then v else f j) := by
  apply Array.ext_getElem?
  intro j
  rw [Array.getElem?_setIfInBounds]
  by_cases hj : j < n
  · rw [rowOf_size, rowOf_get (fun j => if j = i then v else f j) hj]
    by_cases hij : i = j
    · subst hij; simp [h]
    · rw [if_neg hij, rowOf_get f hj, if_neg (by omega)]
  · rw [if_neg (by omega), Array.getElem?_eq_none (by rw [rowOf_size]; omega), Array.getElem?_eq_none (by rw [rowOf_size]; omega)]
theorem rowOf_rep (n : Nat) : Array.replicate n (Value.int .i64 0) = rowOf n (fun _ => 0) := by
  apply Array.ext_getElem?
  intro j
  by_cases hj : j < n
  · rw [rowOf_get _ hj]; simp [hj]
  · rw [Array.getElem?_eq_none (by simp; omega), Array.getElem?_eq_none (by rw [rowOf_size]; omega)]

/-- the cells of a list of numbers -/
def intCells (l : List Int) : Array Value := (l.map fun n => Value.int .i64 n).toArray
theorem intCells_size (l : List Int) : (intCells l).size = l.length := by simp [intCells]
theorem intCells_get (l : List Int) (i : Nat) : (intCells l)[i]? = (l[i]?).map fun n => Value.int .i64 n := by simp [intCells]
theorem intCells_set (l : List Int) (i : Nat) (v : Int) : (intCells l).setIfInBounds i (.int .i64 v) = intCells (l.set i v) := by
  apply Array.ext_getElem?
  intro j
  rw [Array.getElem?_setIfInBounds, intCells_get, intCells_get, intCells_size, List.getElem?_set]
  by_cases hij : i = j
  · subst hij
    by_cases h : i < l.length
    · simp [h]
    · simp [h]
  · simp [hij]

section
variable {W w : World} {X m : List (Nat × Obj)} {hb n i : Nat} {f : Nat → Int} {T : TypeId}
theorem row_at (h : Own W (X ++ (hb, .cells (rowOf n f) T) :: m) w) (hi : i < n) : w.cell? ⟨hb, i, none⟩ = some (.int .i64 (f i)) := by
  rw [h.cell (List.mem_append_right _ List.mem_cons_self), rowOf_get f hi]
theorem row_free (h : Own W (X ++ (hb, .cells (rowOf n f) T) :: m) w) : w.frozen? ⟨hb, i, none⟩ = false :=
  h.frozen (List.mem_append_right _ List.mem_cons_self) i
theorem row_lt (h : Own W (X ++ (hb, .cells (rowOf n f) T) :: m) w) : hb < w.heap.size := h.lt (List.mem_append_right _ List.mem_cons_self)
theorem row_set (h : Own W (X ++ (hb, .cells (rowOf n f) T) :: m) w) (hi : i < n) (v : Int) (g : Nat → Int) (hg : ∀ j, j < n → (if j = i then v else f j) = g j) :
    Own W (X ++ (hb, .cells (rowOf n g) T) :: m) (w.setCell ⟨hb, i, none⟩ (.int .i64 v)) := by
  have := h.setIn i (.int .i64 v)
  rw [rowOf_set f v hi, rowOf_congr hg] at this
  exact this
end
end Go.Proofs.Ytigakendeghoaaa

/-
  Slices that the call owns: what they hold, and append onto them. No condition but sizes.
-/
namespace Go.Proofs.Ytigakendeghoaaa
open Go.RowKit

/-- a slice value of n elements, whose cells are 'xs', and the blocks that it owns: none, or one ('ex': the block has just the slice's room) -/
def SlO (ex : Bool) (e size : Nat) (v : Value) (n : Nat) (xs : List Value) (bs : List (Nat × Obj)) : Prop :=
  xs.length = n * size ∧ ((v = .slice none 0 0 ∧ n = 0 ∧ bs = []) ∨
    ∃ g cap cur, v = .slice (some ⟨g, 0, none⟩) n cap ∧ bs = [(g, .cells cur e)] ∧ n ≤ cap ∧ cap ≤ maxLen ∧ (cap * size ≤ cur.size ∧ (ex = true → cur.size = cap * size)) ∧ cur.toList.take (n * size) = xs)
/-- .. one that may be appended to: its block has no more room than it knows of -/
abbrev SlOwn := SlO true
/-- a slice value of n elements that reads as the cells 'xs' -/
def Src (w : World) (size : Nat) (v : Value) (n : Nat) (xs : List Value) : Prop :=
  xs.length = n * size ∧ ((v = .slice none 0 0 ∧ n = 0) ∨ ∃ a c, v = .slice (some a) n c ∧ ∀ j u, xs[j]? = some u → w.cell? (a.add j) = some u)

theorem add_lit0 (g j : Nat) : (⟨g, 0, none⟩ : Addr).add j = ⟨g, j, none⟩ := by
  unfold Addr.add
  split <;> simp_all
theorem add_lit (g o j : Nat) : (⟨g, o, none⟩ : Addr).add j = ⟨g, o + j, none⟩ := by
  unfold Addr.add
  split <;> simp_all

section
variable {ex : Bool} {W w : World} {m : List (Nat × Obj)} {e size n : Nat} {v : Value} {xs : List Value} {bs : List (Nat × Obj)} {P : Program}

theorem SlO.nil (ex : Bool) (e size : Nat) : SlO ex e size (.slice none 0 0) 0 [] [] := ⟨by simp, .inl ⟨rfl, rfl, rfl⟩⟩
theorem SlO.made (ex : Bool) (e size g cap : Nat) (cur : Array Value) (n : Nat) (hn : n ≤ cap) (hc : cap ≤ maxLen) (hs : cur.size = cap * size) :
    SlO ex e size (.slice (some ⟨g, 0, none⟩) n cap) n (cur.toList.take (n * size)) [(g, .cells cur e)] :=
  ⟨by rw [List.length_take, Array.length_toList, hs, Nat.min_eq_left (Nat.mul_le_mul_right _ hn)], .inr ⟨g, cap, cur, rfl, rfl, hn, hc, ⟨by omega, fun _ => hs⟩, rfl⟩⟩
theorem SlO.form (h : SlO ex e size v n xs bs) (hn : 0 < n) : ∃ g cap cur, v = .slice (some ⟨g, 0, none⟩) n cap ∧ bs = [(g, .cells cur e)] ∧ n ≤ cap ∧ cap ≤ maxLen ∧ (cap * size ≤ cur.size ∧ (ex = true → cur.size = cap * size)) ∧ cur.toList.take (n * size) = xs := by
  rcases h.2 with ⟨_, h0, _⟩ | h
  · omega
  · exact h
theorem SlO.len (h : SlO ex e size v n xs bs) : xs.length = n * size := h.1
theorem SlO.slice (h : SlO ex e size v n xs bs) : ∃ A cap, v = .slice A n cap ∧ n ≤ cap ∧ cap ≤ maxLen := by
  rcases h.2 with ⟨rfl, rfl, _⟩ | ⟨g, cap, cur, rfl, _, h1, h2, _⟩
  · exact ⟨none, 0, rfl, Nat.le_refl _, by unfold maxLen; omega⟩
  · exact ⟨_, cap, rfl, h1, h2⟩
/-- the cell at an index -/
theorem SlO.cell (h : SlO ex e size v n xs bs) (hO : Own W (bs ++ m) w) {g cap : Nat} (hv : v = .slice (some ⟨g, 0, none⟩) n cap) {j : Nat} {u : Value} (hj : xs[j]? = some u) : w.cell? ⟨g, j, none⟩ = some u := by
  rcases h.2 with ⟨rfl, _, _⟩ | ⟨g', cap', cur, rfl, rfl, h1, h2, h3, h4⟩
  · cases hv
  · simp only [Value.slice.injEq, Option.some.injEq, Addr.mk.injEq, and_true, true_and] at hv
    obtain ⟨rfl, rfl⟩ := hv
    rw [hO.cell List.mem_cons_self]
    rw [← h4] at hj
    rw [List.getElem?_take] at hj
    split at hj
    · simpa using hj
    · cases hj
theorem SlO.src (h : SlO ex e size v n xs bs) (hO : Own W (bs ++ m) w) : Src w size v n xs := by
  refine ⟨h.1, ?_⟩
  rcases h.2 with ⟨rfl, rfl, _⟩ | ⟨g, cap, cur, rfl, h0, _⟩
  · exact .inl ⟨rfl, rfl⟩
  · refine .inr ⟨_, _, rfl, fun j u hj => ?_⟩
    rw [add_lit0]
    exact h.cell hO rfl hj
theorem SlO.free (h : SlO ex e size v n xs bs) (hO : Own W (bs ++ m) w) {g cap : Nat} (hv : v = .slice (some ⟨g, 0, none⟩) n cap) (j : Nat) : w.frozen? ⟨g, j, none⟩ = false := by
  rcases h.2 with ⟨rfl, _, _⟩ | ⟨g', cap', cur, rfl, rfl, _⟩
  · cases hv
  · simp only [Value.slice.injEq, Option.some.injEq, Addr.mk.injEq, and_true, true_and] at hv
    obtain ⟨rfl, rfl⟩ := hv
    exact hO.frozen List.mem_cons_self j
theorem SlO.lt (h : SlO ex e size v n xs bs) (hO : Own W (bs ++ m) w) {g cap : Nat} (hv : v = .slice (some ⟨g, 0, none⟩) n cap) : g < w.heap.size := by
  rcases h.2 with ⟨rfl, _, _⟩ | ⟨g', cap', cur, rfl, rfl, _⟩
  · cases hv
  · simp only [Value.slice.injEq, Option.some.injEq, Addr.mk.injEq, and_true, true_and] at hv
    obtain ⟨rfl, rfl⟩ := hv
    exact hO.lt List.mem_cons_self
/-- a cell is stored -/
theorem SlO.store (h : SlO ex e size v n xs bs) (hO : Own W (bs ++ m) w) {g cap : Nat} (hv : v = .slice (some ⟨g, 0, none⟩) n cap) {j : Nat} (_hj : j < n * size) (u : Value) :
    ∃ bs', SlO ex e size v n (xs.set j u) bs' ∧ Own W (bs' ++ m) (w.setCell ⟨g, j, none⟩ u) := by
  rcases h.2 with ⟨rfl, _, _⟩ | ⟨g', cap', cur, rfl, rfl, h1, h2, h3, h4⟩
  · cases hv
  · simp only [Value.slice.injEq, Option.some.injEq, Addr.mk.injEq, and_true, true_and] at hv
    obtain ⟨rfl, rfl⟩ := hv
    refine ⟨[(g', .cells (cur.setIfInBounds j u) e)], ⟨by rw [List.length_set]; exact h.1, .inr ⟨g', cap', _, rfl, rfl, h1, h2, by rw [Array.size_setIfInBounds]; exact h3, ?_⟩⟩, hO.set j u⟩
    rw [Array.toList_setIfInBounds, List.take_set, h4]
/-- shorter: the same block -/
theorem SlO.shorter (h : SlO ex e size v n xs bs) {g cap k : Nat} (hv : v = .slice (some ⟨g, 0, none⟩) n cap) (hk : k ≤ n) : SlO ex e size (.slice (some ⟨g, 0, none⟩) k cap) k (xs.take (k * size)) bs := by
  rcases h.2 with ⟨rfl, _, _⟩ | ⟨g', cap', cur, rfl, rfl, h1, h2, h3, h4⟩
  · cases hv
  · simp only [Value.slice.injEq, Option.some.injEq, Addr.mk.injEq, and_true, true_and] at hv
    obtain ⟨rfl, rfl⟩ := hv
    have hle : k * size ≤ n * size := Nat.mul_le_mul_right _ hk
    refine ⟨by rw [List.length_take, h.1]; omega, .inr ⟨g', cap', cur, rfl, rfl, by omega, h2, h3, ?_⟩⟩
    rw [← h4, List.take_take, Nat.min_eq_left hle]
/-- what may be appended to may be read and written -/
theorem SlO.weak (h : SlO ex e size v n xs bs) : SlO false e size v n xs bs := by
  refine ⟨h.1, ?_⟩
  rcases h.2 with h0 | ⟨g, cap, cur, hv, hb, h1, h2, h3, h4⟩
  · exact .inl h0
  · exact .inr ⟨g, cap, cur, hv, hb, h1, h2, ⟨h3.1, fun h => by cases h⟩, h4⟩
/-- shorter, and with less room ('s[:k:k]') -/
theorem SlO.cut (h : SlO ex e size v n xs bs) {g cap k : Nat} (hv : v = .slice (some ⟨g, 0, none⟩) n cap) (hk : k ≤ n) : SlO false e size (.slice (some ⟨g, 0, none⟩) k k) k (xs.take (k * size)) bs := by
  rcases h.2 with ⟨rfl, _, _⟩ | ⟨g', cap', cur, rfl, rfl, h1, h2, h3, h4⟩
  · cases hv
  · simp only [Value.slice.injEq, Option.some.injEq, Addr.mk.injEq, and_true, true_and] at hv
    obtain ⟨rfl, rfl⟩ := hv
    have hle : k * size ≤ n * size := Nat.mul_le_mul_right _ hk
    have hle2 : n * size ≤ cap' * size := Nat.mul_le_mul_right _ h1
    refine ⟨by rw [List.length_take, h.1]; omega, .inr ⟨g', k, cur, rfl, rfl, Nat.le_refl _, by omega, ⟨by omega, fun h => by cases h⟩, ?_⟩⟩
    rw [← h4, List.take_take, Nat.min_eq_left hle]
theorem Src.setCell (h : Src w size v n xs) {a : Addr} {u : Value} (ha : ∀ b c, v = .slice (some b) n c → b.block ≠ a.block) : Src (w.setCell a u) size v n xs := by
  refine ⟨h.1, ?_⟩
  rcases h.2 with h0 | ⟨b, c, hv, hc⟩
  · exact .inl h0
  · refine .inr ⟨b, c, hv, fun j x hj => ?_⟩
    rw [World.cell?_of_block (w := w) (Below.heap_setCell w a u _ (by rw [ChangeShapes.block_add]; exact ha b c hv))]
    exact hc j x hj
theorem Src.below (h : Src w size v n xs) {w' : World} (hb : Below w.heap.size w w') : Src w' size v n xs := by
  refine ⟨h.1, ?_⟩
  rcases h.2 with h0 | ⟨b, c, hv, hc⟩
  · exact .inl h0
  · refine .inr ⟨b, c, hv, fun j x hj => ?_⟩
    have := hc j x hj
    rw [hb.cell (World.block_lt_of_cell? w _ this)]
    exact this
theorem Src.ofOwn (h : Src W size v n xs) (hO : Own W m w) : Src w size v n xs := h.below hO.below

/-- APPEND onto a slice that the call owns: what it is then, and what is owned. -/
theorem run_app (t ty e : TypeId) (i : TypeInfo) (z : Value) (size bytes : Nat) (ht : P.underlying t = some (.slice e)) (hi : P.info? e = some i) (hz : i.zero = some z)
    (hsize : i.size = size) (hby : i.bytes = bytes) (hzs : z.cells.size = size) (hsz : 0 < size)
    (hs : SlOwn e size v n xs bs) (hO : Own W (bs ++ m) w) {x : Value} {k : Nat} {news : List Value} (hx : Src w size x k news) (h1 : ∀ u ∈ news, u.oneCell' = true)
    (h63 : n + k ≤ maxLen) (hbytes : (n + k) * bytes ≤ 140737488355328) :
    ∃ v' w' bs', (Builtin.append_ #[t, t] ty #[v, x]).run P w = .ok v' w' ∧ SlOwn e size v' (n + k) (xs ++ news) bs' ∧ Own W (bs' ++ m) w' ∧ (v' = .slice none 0 0 ↔ v = .slice none 0 0 ∧ k = 0) := by
  have hown : w.ownsRow W.heap.size e size v n xs := by
    refine ⟨hs.1, ?_⟩
    rcases hs.2 with ⟨h0, h1, _⟩ | ⟨g, cap, cur, hv, hb, ha, hc, hd, he⟩
    · exact .inl ⟨h0, h1⟩
    · subst hb
      exact .inr ⟨g, cap, cur, hv, hO.ge List.mem_cons_self, hO.get List.mem_cons_self, ha, hc, hd.2 rfl, he⟩
  rcases hx.2 with ⟨rfl, rfl⟩ | ⟨ad, c, rfl, hc⟩
  · have hn : news = [] := List.eq_nil_of_length_eq_zero (by simpa using hx.1)
    subst hn
    refine ⟨v, w, bs, ?_, by simpa using hs, hO, by simp⟩
    obtain ⟨A, cap, rfl, hle, _⟩ := SlO.slice hs
    cases A with
    | none => simp [Builtin.append_, run_underlying ht, sizeOf, typeInfo, hi, Builtin.lenOf, Builtin.firstCells, hle]
    | some a => simp [Builtin.append_, run_underlying ht, sizeOf, typeInfo, hi, Builtin.lenOf, Builtin.firstCells, hle, storeCells]
  · obtain ⟨v', w', hr, h2, h3, h4, h5⟩ := run_append_own_at (P := P) w W.heap.size t ty e i z size bytes ht hi hz hsize hby hzs hsz v n xs hown ad k c news hx.1 hc h1 h63 hbytes hO.size_le
    have hbel : Below W.heap.size W w' := hO.below.grown h3 hO.size_le (fun q hq => (hown.lt q hq).1)
    rcases h2.2 with ⟨hv', hn'⟩ | ⟨g, cap, cur, hv', hge, hg, ha, hb, hcs, htk⟩
    · subst hv'
      have hv0 := (h4.1 rfl).1
      subst hv0
      have hbs : bs = [] := by
        rcases hs.2 with ⟨_, _, h⟩ | ⟨g, cap, cur, hv, _⟩
        · exact h
        · cases hv
      subst hbs
      refine ⟨_, w', [], hr, ⟨h2.1, .inl ⟨rfl, hn', rfl⟩⟩, ⟨hbel, fun p hp => ⟨(hO.at_ p hp).1, ?_⟩, hO.nd⟩, h4⟩
      rw [h3.block p.1 (heap_lt (hO.at_ p hp).2) (by simp [Value.ownBlock])]
      exact (hO.at_ p hp).2
    · subst hv'
      refine ⟨_, w', [(g, .cells cur e)], hr, ⟨h2.1, .inr ⟨g, cap, cur, rfl, rfl, ha, hb, ⟨by omega, fun _ => hcs⟩, htk⟩⟩, ⟨hbel, fun p hp => ?_, ?_⟩, h4⟩
      · rcases List.mem_cons.1 hp with rfl | hp
        · exact ⟨hge, hg⟩
        · have hp' := hO.at_ p (List.mem_append_right _ hp)
          refine ⟨hp'.1, (h3.block p.1 (heap_lt hp'.2) (fun he => ?_)).trans hp'.2⟩
          rcases hs.2 with ⟨rfl, _, _⟩ | ⟨g0, cap0, cur0, rfl, rfl, _⟩
          · simp [Value.ownBlock] at he
          · simp only [Value.ownBlock, Option.some.injEq] at he
            exact Own.ne hO (b' := p.1) (o' := p.2) hp he
      · simp only [List.singleton_append, List.map_cons, List.nodup_cons]
        refine ⟨fun hin => ?_, (hO.dropL).nd⟩
        obtain ⟨p, hp, he⟩ := List.mem_map.1 hin
        have hp' := hO.at_ p (List.mem_append_right _ hp)
        rcases h5 with h5 | h5
        · rcases hs.2 with ⟨rfl, _, _⟩ | ⟨g0, cap0, cur0, rfl, rfl, _⟩
          · simp [Value.ownBlock] at h5
          · simp only [Value.ownBlock, Option.some.injEq] at h5
            exact Own.ne hO (b' := p.1) (o' := p.2) hp (by omega)
        · simp only [Value.ownBlock, Option.some.injEq] at h5
          have := heap_lt hp'.2
          omega
/-- .. at an operation of the walk: 'at_builtin; refine wpList_app rfl _ _ _ rfl rfl rfl ..' -/
theorem wpList_app {ops : Array Oper} {rest : List Oper} {o : Oper} {a : Act} {Q : Exit → Act → World → Prop} (hgd : o.guard = none) (s x : Operand) (t : TypeId)
    (ho : o.op = .call { callee := .builtin .append, args := #[s, x], argTypes := #[t, t] }) {v xv : Value} (hes : a.eval s = v) (hex : a.eval x = xv)
    (e : TypeId) (i : TypeInfo) (z : Value) (size bytes : Nat) (ht : P.underlying t = some (.slice e)) (hi : P.info? e = some i) (hz : i.zero = some z)
    (hsize : i.size = size) (hby : i.bytes = bytes) (hzs : z.cells.size = size) (hsz : 0 < size)
    (hs : SlOwn e size v n xs bs) (hO : Own W (bs ++ m) w) {k : Nat} {news : List Value} (hx : Src w size xv k news) (h1 : ∀ u ∈ news, u.oneCell' = true)
    (h63 : n + k ≤ maxLen) (hbytes : (n + k) * bytes ≤ 140737488355328)
    (h : ∀ v' w' bs', SlOwn e size v' (n + k) (xs ++ news) bs' → Own W (bs' ++ m) w' → (v' = .slice none 0 0 ↔ v = .slice none 0 0 ∧ k = 0) → wpList P ops Q rest (a.put o.dst v') w') :
    wpList P ops Q (o :: rest) a w := by
  obtain ⟨v', w', bs', hr, h2, h3, h4⟩ := run_app (P := P) t o.type e i z size bytes ht hi hz hsize hby hzs hsz hs hO hx h1 h63 hbytes
  refine wpList_plain hgd fun K hK => ?_
  unfold Oper.wp execOp
  simp only [ho, resolve, invoke, builtin, Sem.run_bind, Sem.run_pure, Result.andThen_ok, List.map_toArray, List.map_cons, List.map_nil, hes, hex, hr]
  exact hK _ _ (h v' w' bs' h2 h3 h4)
end
end Go.Proofs.Ytigakendeghoaaa

/-
  Arguments opened to cells: flat types (numbers, bools, structs and arrays of such), and slices of them. No condition.
-/
namespace Go.Proofs.Ytigakendeghoaaa
open Go.ChangeShapes Go.WideShapes Go.ChangeAt Go.RowKit

/-- a cell of a kind: 'none': a bool -/
def CellIs : Option IntKind → Value → Prop
  | none, v => ∃ b, v = .bool b
  | some k, v => ∃ n, v = .int k n ∧ (Lit.int k n).wf = true

/-- the kinds of a struct's cells, from an offset on -/
def flatFields (P : Program) (K : TypeId → Option (List (Option IntKind))) : Nat → List Field → Option (List (Option IntKind))
  | _, [] => some []
  | off, f :: fs =>
    match K f.type with
    | some l => if f.offset = off ∧ l.length = P.cellsOf f.type then (flatFields P K (off + l.length) fs).map (l ++ ·) else none
    | none => none
/-- the kinds of a flat type's cells -/
def flatKinds (P : Program) : Nat → TypeId → Option (List (Option IntKind))
  | 0, _ => none
  | n + 1, t =>
    match P.underlying t with
    | some .bool => some [none]
    | some (.int k) => some [some k]
    | some (.struct fs) => flatFields P (flatKinds P n) 0 fs.toList
    | some (.array m e) =>
      match flatKinds P n e with
      | some l => if l.length = P.cellsOf e then some (List.replicate m l).flatten else none
      | none => none
    | _ => none

section
variable {H : Type} {enc : TypeId × Value → H} {P : Program} {w : World} {base : Nat} {spare : Nat → Bool} {held : Bool}

theorem flat_rep {l : List (Option IntKind)} {cs : List Value} : ∀ (m off : Nat) (_h : ∀ i, i < m → ∀ (j : Nat) (k : Option IntKind), l[j]? = some k → ∃ v, cs[off + i * l.length + j]? = some v ∧ CellIs k v) (i : Nat) (k : Option IntKind),
    (List.replicate m l).flatten[i]? = some k → ∃ v, cs[off + i]? = some v ∧ CellIs k v
  | 0, _, _, i, k, hk => by simp at hk
  | m + 1, off, h, i, k, hk => by
    rw [List.replicate_succ, List.flatten_cons] at hk
    by_cases hi : i < l.length
    · rw [List.getElem?_append_left hi] at hk
      have := h 0 (by omega) i k hk
      simpa using this
    · rw [List.getElem?_append_right (by omega)] at hk
      have h' : ∀ i, i < m → ∀ (j : Nat) (k : Option IntKind), l[j]? = some k → ∃ v, cs[(off + l.length) + i * l.length + j]? = some v ∧ CellIs k v := fun i' hi' j k' hk' => by
        have := h (i' + 1) (by omega) j k' hk'
        rwa [show off + (i' + 1) * l.length + j = off + l.length + i' * l.length + j from by rw [Nat.succ_mul]; omega] at this
      have := flat_rep m (off + l.length) h' (i - l.length) k hk
      rwa [show off + l.length + (i - l.length) = off + i from by omega] at this

theorem flat_fields {cs : List Value} {K : TypeId → Option (List (Option IntKind))} : ∀ (fs : List Field) (off : Nat) (ks : List (Option IntKind)), flatFields P K off fs = some ks →
    (∀ f ∈ fs, ∀ l, K f.type = some l → l.length = P.cellsOf f.type → ∀ (j : Nat) (k : Option IntKind), l[j]? = some k → ∃ v, cs[f.offset + j]? = some v ∧ CellIs k v) →
    ∀ (i : Nat) (k : Option IntKind), ks[i]? = some k → ∃ v, cs[off + i]? = some v ∧ CellIs k v
  | [], off, ks, hks, _, i, k, hk => by
    simp only [flatFields, Option.some.injEq] at hks
    subst hks
    simp at hk
  | f :: fs, off, ks, hks, hf, i, k, hk => by
    simp only [flatFields] at hks
    split at hks
    · rename_i l hl
      split at hks
      · rename_i hc
        obtain ⟨r, hr, rfl⟩ := Option.map_eq_some_iff.1 hks
        by_cases hi : i < l.length
        · rw [List.getElem?_append_left hi] at hk
          have := hf f List.mem_cons_self l hl hc.2 i k hk
          rwa [hc.1] at this
        · rw [List.getElem?_append_right (by omega)] at hk
          have := flat_fields fs (off + l.length) r hr (fun g hg => hf g (List.mem_cons_of_mem _ hg)) (i - l.length) k hk
          rwa [show off + l.length + (i - l.length) = off + i from by omega] at this
      · cases hks
    · cases hks

theorem take_drop_get {cs : List Value} {a n j : Nat} {v : Value} (h : ((cs.drop a).take n)[j]? = some v) : cs[a + j]? = some v := by
  rw [List.getElem?_take] at h
  split at h
  · rwa [List.getElem?_drop] at h
  · cases h

/-- what is read of a flat type: each cell is of its kind -/
theorem trod_flat : ∀ (fuel n : Nat) (t : TypeId) (cs : List Value) (x : DataW H × List MemPlace) (ks : List (Option IntKind)), DataW.trod enc P w base spare held fuel t cs = some x → flatKinds P n t = some ks →
    ∀ (i : Nat) (k : Option IntKind), ks[i]? = some k → ∃ v, cs[i]? = some v ∧ CellIs k v
  | 0, _, _, _, _, _, h, _ => by simp [DataW.trod] at h
  | fuel + 1, 0, _, _, _, _, _, hk => by simp [flatKinds] at hk
  | fuel + 1, n + 1, t, cs, x, ks, h, hks => by
    intro i k hk
    unfold flatKinds at hks
    split at hks
    · rename_i hu
      simp only [Option.some.injEq] at hks
      subst hks
      unfold DataW.trod at h
      rw [hu] at h
      match cs, h with
      | [.bool b], _ =>
        match i, hk with
        | 0, hk => simp at hk; subst hk; exact ⟨_, rfl, b, rfl⟩
        | i + 1, hk => simp at hk
    · rename_i q hu
      simp only [Option.some.injEq] at hks
      subst hks
      unfold DataW.trod at h
      rw [hu] at h
      match cs, h with
      | [.int k' z], h =>
        simp only at h
        split at h
        · rename_i hc
          match i, hk with
          | 0, hk => simp at hk; subst hk; exact ⟨_, rfl, z, by rw [hc.1], hc.2⟩
          | i + 1, hk => simp at hk
        · cases h
    · rename_i fs hu
      obtain ⟨xs, m, hm, _, hcl, _, hf⟩ := DataW.trod_struct hu h
      obtain rfl : fuel = m := by omega
      have := flat_fields (cs := cs) fs.toList 0 ks hks (fun f hfm l hl hlc j k' hk' => by
        obtain ⟨i', hi', hfi⟩ := List.getElem_of_mem hfm
        have hfi' : fs[i']? = some f := by rw [← Array.getElem?_toList, List.getElem?_eq_getElem hi', hfi]
        have ht := hf i' f hfi'
        have hlt : i' < xs.length := by have : i' < fs.size := by simpa using hi'
                                        omega
        rw [List.getElem?_eq_getElem hlt] at ht
        obtain ⟨v, hv, hc⟩ := trod_flat fuel n f.type _ _ l ht hl j k' hk'
        exact ⟨v, take_drop_get hv, hc⟩) i k hk
      simpa using this
    · rename_i m e hu
      split at hks
      · rename_i l hl
        split at hks
        · rename_i hlc
          simp only [Option.some.injEq] at hks
          subst hks
          unfold DataW.trod at h
          rw [hu] at h
          have h2 : ∃ xs, (List.range m).mapM (fun i => DataW.trod enc P w base spare held fuel e ((cs.drop (i * P.cellsOf e)).take (P.cellsOf e))) = some xs := by
            split at h <;> simp_all
            obtain ⟨_, xs, hx, _⟩ := h
            exact ⟨xs, hx⟩
          obtain ⟨xs, hx⟩ := h2
          have := flat_rep (l := l) (cs := cs) m 0 (fun i' hi' j k' hk' => by
            have hg := mapM_some_get hx i' i' (by simp [hi'])
            have hlen := mapM_some_length hx
            have hlt : i' < xs.length := by simpa [hlen] using hi'
            rw [List.getElem?_eq_getElem hlt] at hg
            obtain ⟨v, hv, hc⟩ := trod_flat fuel n e _ _ l hg hl j k' hk'
            refine ⟨v, ?_, hc⟩
            rw [hlc]
            simpa using take_drop_get hv) i k hk
          simpa using this
        · cases hks
      · cases hks
    · cases hks

/-- an argument of a struct's or an array's type is an aggregate of so many cells -/
theorem arg_agg {r : Reach} {b0 : Nat} {t : TypeId} {v : Value} (hu : (match P.underlying t with | some (.struct _) | some (.array _ _) => true | _ => false) = true) (hv : Value.okWide P w r b0 t v) :
    ∃ cs : Array Value, v = .agg cs ∧ cs.size = P.cellsOf t := by
  unfold Value.okWide at hv
  split at hv
  · obtain ⟨cs, h1, h2, _⟩ := hv; exact ⟨cs, h1, h2⟩
  · obtain ⟨cs, h1, h2, _⟩ := hv; exact ⟨cs, h1, h2⟩
  · rename_i h1 h2
    split at hu
    · rename_i q hq; exact absurd hq (h1 q)
    · rename_i q r hq; exact absurd hq (h2 q r)
    · cases hu
/-- ... each of its cells is of its kind -/
theorem open_flat {r : Reach} {b0 : Nat} {t : TypeId} {v : Value} {d : DataW H} {p : List MemPlace} (n : Nat) {ks : List (Option IntKind)} (hu : (match P.underlying t with | some (.struct _) | some (.array _ _) => true | _ => false) = true)
    (hks : flatKinds P n t = some ks) (hv : Value.okWide P w r b0 t v) (h : DataW.Trod enc P w base spare held t v d p) :
    ∃ cs : Array Value, v = .agg cs ∧ cs.size = P.cellsOf t ∧ ∀ (i : Nat) (k : Option IntKind), ks[i]? = some k → ∃ u, cs[i]? = some u ∧ CellIs k u := by
  obtain ⟨cs, rfl, hs⟩ := arg_agg hu hv
  obtain ⟨fuel, hf⟩ := h
  refine ⟨cs, rfl, hs, fun i k hk => ?_⟩
  obtain ⟨u, h1, h2⟩ := trod_flat fuel n t _ _ ks hf hks i k hk
  exact ⟨u, by simpa [Value.cells] using h1, h2⟩
/-- a slice of a flat type: each cell of each element is of its kind -/
theorem open_slice_flat {t e : TypeId} {v : Value} {d : DataW H} {p : List MemPlace} (n : Nat) {ks : List (Option IntKind)} (ht : P.underlying t = some (.slice e)) (hks : flatKinds P n e = some ks) (hone : v.cells.toList = [v])
    (h : DataW.Trod enc P w base spare held t v d p) (_hlt : ∀ x ∈ p, x.block < w.heap.size) (hpos : 0 < P.cellsOf e) :
    v = .slice none 0 0 ∨ ∃ (a : Addr) (len cap : Nat), v = .slice (some a) len cap ∧ len ≤ cap ∧ cap ≤ maxLen ∧ (0 < len → a.block < w.heap.size) ∧
      ∀ i, i < len → ∀ (j : Nat) (k : Option IntKind), ks[j]? = some k → ∃ u, w.cell? (a.add (i * P.cellsOf e + j)) = some u ∧ CellIs k u := by
  obtain ⟨fuel, hf⟩ := h
  rw [hone] at hf
  rcases Deep.open_slice ht hf with ⟨h0, _⟩ | ⟨a, len, cap, m, n', D, Pl, hcs, hb, hl, hm, hmm, hx, hi⟩
  · left; simpa using h0
  · right
    refine ⟨a, len, cap, by simpa using hcs, hl, hm, ?_, ?_⟩
    · intro hpos'
      have hml : len ≤ m := by rw [hmm]; split <;> omega
      obtain ⟨cs', hc, _⟩ := hi 0 (by omega)
      obtain ⟨_, hcl, hat⟩ := World.cells?_some hc
      have h0 := hat 0 (by omega)
      have h1 : cs'[0]? = some (cs'[0]'(by omega)) := List.getElem?_eq_getElem (by omega)
      rw [h1] at h0
      have := block_lt_of_cell h0
      simpa [Addr.add] using this
    · intro i hil j k hk
      have hml : len ≤ m := by rw [hmm]; split <;> omega
      obtain ⟨cs', hc, ht'⟩ := hi i (by omega)
      obtain ⟨u, hu, hcell⟩ := trod_flat n' n e cs' _ ks ht' hks j k hk
      obtain ⟨_, hcl, hat⟩ := World.cells?_some hc
      have hj : j < P.cellsOf e := by
        have := (List.getElem?_eq_some_iff.1 hu).1
        omega
      have := hat j hj
      rw [← Go.Deep.add_add, this, hu]
      exact ⟨u, rfl, hcell⟩

/-- a slice's elements, cell by cell, are of their kinds -/
def FlatAt (W : World) (ks : List (Option IntKind)) (A : Option Addr) (len : Nat) : Prop :=
  0 < len → ∃ B o, A = some ⟨B, o, none⟩ ∧ B < W.heap.size ∧ ∀ i, i < len → ∀ (j : Nat) (k : Option IntKind), ks[j]? = some k → ∃ u, W.cell? ⟨B, o + i * ks.length + j, none⟩ = some u ∧ CellIs k u
theorem open_slice_at {t e : TypeId} {v : Value} {d : DataW H} {p : List MemPlace} (n : Nat) {ks : List (Option IntKind)} (ht : P.underlying t = some (.slice e)) (hks : flatKinds P n e = some ks) (hlen : P.cellsOf e = ks.length) (hpos : 0 < ks.length) (hone : v.cells.toList = [v])
    (h : DataW.Trod enc P w base spare held t v d p) (hlt : ∀ x ∈ p, x.block < w.heap.size) :
    ∃ (A : Option Addr) (len cap : Nat), v = .slice A len cap ∧ len ≤ cap ∧ cap ≤ maxLen ∧ FlatAt w ks A len := by
  rcases open_slice_flat n ht hks hone h hlt (by omega) with rfl | ⟨a, len, cap, rfl, hl, hm, hb, hc⟩
  · exact ⟨none, 0, 0, rfl, Nat.le_refl _, by unfold maxLen; omega, fun h => absurd h (by omega)⟩
  · refine ⟨some a, len, cap, rfl, hl, hm, fun hp => ?_⟩
    obtain ⟨u, hu, _⟩ := hc 0 hp 0 (ks[0]'(by omega)) (List.getElem?_eq_getElem (by omega))
    have hs : a.spot = none := by
      have h0 : a.add (0 * P.cellsOf e + 0) = a := by simp [Addr.add]
      rw [h0] at hu
      unfold World.cell? at hu
      split at hu
      · split at hu
        · cases hu
        · simpa using ‹¬ a.spot.isSome = true›
      · cases hu
    obtain ⟨B, o, s⟩ := a
    simp only at hs
    subst hs
    refine ⟨B, o, rfl, hb hp, fun i hi j k hk => ?_⟩
    obtain ⟨u, hu, hk'⟩ := hc i hi j k hk
    refine ⟨u, ?_, hk'⟩
    rw [← hlen]
    have e1 : (⟨B, o, none⟩ : Addr).add (i * P.cellsOf e + j) = ⟨B, o + (i * P.cellsOf e + j), none⟩ := by
      unfold Addr.add
      split
      · rename_i h0; rw [h0]; rfl
      · rfl
    rw [e1] at hu
    rw [show o + i * P.cellsOf e + j = o + (i * P.cellsOf e + j) from by omega]
    exact hu
/-- an argument of a slice's type is one cell -/
theorem arg_slice {r : Reach} {b0 : Nat} {t e : TypeId} {v : Value} (ht : P.underlying t = some (.slice e)) (hv : Value.okWide P w r b0 t v) : v.cells.toList = [v] := by
  unfold Value.okWide at hv
  rw [ht] at hv
  simp only at hv
  unfold Cell.okWide at hv
  rw [ht] at hv
  cases v <;> first | rfl | (simp [Cell.ok, ht] at hv)
/-- a block of numbers is a slice of structs of numbers -/
theorem flatAt_of {W : World} {g : Nat} {T : TypeId} {l : List Int} {n len : Nat} (hg : W.heap[g]? = some (.cells (l.map fun x => Value.int .i64 x).toArray T (0, 0))) (hl : len * n ≤ l.length) (hwf : ∀ x ∈ l, (Lit.int .i64 x).wf = true) :
    FlatAt W (List.replicate n (some .i64)) (some ⟨g, 0, none⟩) len := by
  intro _
  refine ⟨g, 0, rfl, heap_lt hg, fun i hi j k hk => ?_⟩
  have hj : j < n := by have := (List.getElem?_eq_some_iff.1 hk).1; simpa using this
  have hk' : k = some .i64 := by
    rw [List.getElem?_replicate, if_pos hj] at hk
    exact (Option.some.inj hk).symm
  subst hk'
  rw [List.length_replicate]
  have hlt : 0 + i * n + j < l.length := by
    have : (i + 1) * n ≤ len * n := Nat.mul_le_mul_right _ hi
    rw [Nat.succ_mul] at this
    omega
  refine ⟨.int .i64 l[0 + i * n + j], ?_, _, rfl, hwf _ (List.getElem_mem hlt)⟩
  simp [World.cell?, hg, List.getElem?_eq_getElem (show i * n + j < l.length by omega)]
end
end Go.Proofs.Ytigakendeghoaaa

/-
  Slices of words (uint64): what they read as, append, wainscotref00.EqWords; a slice that came in, with its reach. No condition but sizes.
-/
namespace Go.Proofs.Ytigakendeghoaaa
open Go.RowKit

theorem word_info : (Try.prog.info? 22).map (fun i => (i.zero, i.size, i.bytes)) = some (some (.int .u64 0), 1, 8) := by kernel_rfl
/-- words as values -/
def words (l : List Nat) : List Value := l.map fun (n : Nat) => .int .u64 (n : Int)
theorem words_len (l : List Nat) : (words l).length = l.length := by simp [words]
theorem words_get {l : List Nat} {i n : Nat} (h : l[i]? = some n) : (words l)[i]? = some (.int .u64 (n : Int)) := by simp [words, h]
theorem words_one (l : List Nat) : ∀ u ∈ words l, u.oneCell' = true := by
  intro u hu
  obtain ⟨n, _, rfl⟩ := List.mem_map.1 hu
  rfl
theorem words_append (a b : List Nat) : words a ++ words b = words (a ++ b) := by simp [words]
/-- a slice of words that the call owns -/
abbrev WordsOwn (ex : Bool) (v : Value) (l : List Nat) (bs : List (Nat × Obj)) : Prop := SlO ex 22 1 v l.length (words l) bs
/-- a slice that reads as words -/
abbrev WordsSrc (w : World) (v : Value) (l : List Nat) : Prop := Src w 1 v l.length (words l)
section
variable {W w : World} {m bs : List (Nat × Obj)} {v x : Value} {l l' : List Nat}
/-- append, of words -/
theorem wpList_app_words {ops : Array Oper} {rest : List Oper} {o : Oper} {a : Act} {Q : Exit → Act → World → Prop} (hgd : o.guard = none) (s x : Operand)
    (ho : o.op = .call { callee := .builtin .append, args := #[s, x], argTypes := #[35, 35] }) {v xv : Value} (hes : a.eval s = v) (hex : a.eval x = xv)
    (hs : WordsOwn true v l bs) (hO : Own W (bs ++ m) w) (hx : WordsSrc w xv l') (hlen : (l.length + l'.length) * 8 ≤ 140737488351232)
    (h : ∀ v' w' bs', WordsOwn true v' (l ++ l') bs' → Own W (bs' ++ m) w' → (v' = .slice none 0 0 ↔ v = .slice none 0 0 ∧ l' = []) → wpList Try.prog ops Q rest (a.put o.dst v') w') :
    wpList Try.prog ops Q (o :: rest) a w := by
  obtain ⟨i, hi, hz, hsz, hb⟩ := info_get word_info
  refine wpList_app hgd s x _ ho hes hex 22 i _ 1 8 Try.underlying35 hi hz hsz hb rfl (by omega) hs hO hx (words_one l') (by unfold maxLen; omega) (by omega) fun v' w' bs' h1 h2 h3 => ?_
  rw [words_append, ← List.length_append] at h1
  exact h v' w' bs' h1 h2 (by rw [h3, List.length_eq_zero_iff])
theorem WordsSrc.slice (h : WordsSrc w v l) : ∃ A c, v = .slice A l.length c := by
  rcases h.2 with ⟨rfl, hn⟩ | ⟨a, c, rfl, -⟩
  · exact ⟨none, 0, by rw [hn]⟩
  · exact ⟨_, _, rfl⟩
set_option maxHeartbeats 1000000 in
/-- two slices that read as the same words -/
theorem eqWords_same {v1 v2 : Value} (h1 : WordsSrc w v1 l) (h2 : WordsSrc w v2 l) (hl : l.length * 8 ≤ 140737488351232) :
    Calls Try.prog 39 #[v1, v2] w fun e w' => e = .returned (.bool true) ∧ ∃ n, w' = w.drewN n := by
  obtain ⟨A1, c1, rfl⟩ := h1.slice
  obtain ⟨A2, c2, rfl⟩ := h2.slice
  obtain ⟨n, hn⟩ : ∃ n, l.length = n := ⟨_, rfl⟩
  have H1 := Lib.hid h1
  have H2 := Lib.hid h2
  have HN := Lib.hid hn
  rw [hn] at hl
  rw [hn]
  have hb : ((n : Int) != (n : Int)) = false := by simp
  clear h1 h2 hn
  go_enter Try.func39, Try.ntmps39
  go_wp2_with fail
  go_loopw [5] (fun k wr => ∃ i : Nat, i ≤ n ∧ k = .int .i64 i ∧ ∃ n, wr = w.drewN n) (fun k _ => n - (intOf k).toNat)
  case atStart => exact ⟨0, Nat.zero_le _, rfl, 0, rfl⟩
  case round =>
    obtain ⟨i, hi, rfl, nq0, rfl⟩ := hrel
    by_cases hlt : i < n
    · rcases H1.out.2 with ⟨_, h0⟩ | ⟨a1, k1, he1, hc1⟩
      · have := HN.out; omega
      rcases H2.out.2 with ⟨_, h0⟩ | ⟨a2, k2, he2, hc2⟩
      · have := HN.out; omega
      cases he1
      cases he2
      obtain ⟨x, hx⟩ : ∃ x, l[i]? = some x := ⟨_, List.getElem?_eq_getElem (by have := HN.out; omega)⟩
      have cx := hc1 i _ (words_get hx)
      have cy := hc2 i _ (words_get hx)
      have i0 : (0 : Int) ≤ (i : Int) := by omega
      have i1 : (i : Int) < (n : Int) := by omega
      have hxb : ((x : Int) != (x : Int)) = false := by simp
      clear hx hc1 hc2
      go_wp2_with fail
      go_quiet (fail)
      go_wp2_with fail
      go_roundw
      case rel => exact ⟨i + 1, by omega, by go_num, nq0 + nq, by first | rfl | rw [World.drewN_drewN]⟩
      case measure => simp [intOf]; omega
    · obtain rfl : i = n := by omega
      go_wp2_with fail
      go_ret
      exact ⟨rfl, _, rfl⟩
end
section
open Go.ChangeShapes Go.WideShapes Go.ChangeAt
variable {H : Type} {enc : TypeId × Value → H} {P : Program} {w : World} {base : Nat} {held : Bool}
/-- a slice of words that came in: what it reads as, and its reach -/
theorem open_words {t e : TypeId} {v : Value} {d : DataW H} {p : List MemPlace} {ts : List TypeId} {ds : List (DataW H)} (hsz : (DataW.weightsEach P ts ds).all (· ≤ reachBytes) = true) {j : Nat} (hj : ts[j]? = some t) (hd : ds[j]? = some d)
    (ht : P.underlying t = some (.slice e)) (he : P.underlying e = some (.int .u64)) (hc1 : P.cellsOf e = 1) (hb8 : P.bytesOf e = 8) (hone : v.cells.toList = [v])
    (h : DataW.Trod enc P w base (fun _ => true) held t v d p) (hlt : ∀ x ∈ p, x.block < w.heap.size) :
    ∃ g : List Nat, Src w 1 v g.length (words g) ∧ (∀ x ∈ g, x < 18446744073709551616) ∧ g.length * 8 ≤ 140737488351232 ∧ ∃ A c, v = .slice A g.length c ∧ g.length ≤ c ∧ c ≤ maxLen := by
  have hks : flatKinds P 4 e = some [some .u64] := by simp [flatKinds, he]
  obtain ⟨fuel, hf⟩ := h
  have hf0 := hf
  rw [hone] at hf
  rcases Deep.open_slice ht hf with ⟨h0, _⟩ | ⟨a, len, cap, m, n', D, Pl, hcs, hb, hl, hm, hmm, hx, hi⟩
  · simp only [List.cons.injEq, and_true] at h0
    subst h0
    exact ⟨[], ⟨rfl, .inl ⟨rfl, rfl⟩⟩, by simp, by simp, none, 0, rfl, Nat.le_refl _, by unfold maxLen; omega⟩
  · simp only [List.cons.injEq, and_true] at hcs
    subst hcs
    simp only [if_true] at hmm
    subst hmm
    obtain ⟨cap, rfl⟩ : ∃ cap, cap = m := ⟨m, rfl⟩
    simp only [Prod.mk.injEq] at hx
    have hd' := hd
    rw [hx.1] at hd'
    have hr := sized_slice hsz hj hd' ht
    rw [hb8] at hr
    simp only [List.length_map, List.length_range, reachBytes] at hr
    have hcap : len * 8 ≤ 140737488351232 := by omega
    have hall : ∀ i, i < len → ∃ x : Nat, w.cell? (a.add i) = some (.int .u64 (x : Int)) ∧ x < 18446744073709551616 := by
      intro i hil
      obtain ⟨cs', hc, ht'⟩ := hi i (by omega)
      obtain ⟨u, hu, n, rfl, hwf⟩ := trod_flat n' 4 e cs' _ _ ht' hks 0 _ rfl
      obtain ⟨_, hcl, hat⟩ := World.cells?_some hc
      have := hat 0 (by omega)
      rw [Go.Deep.add_add, hc1, Nat.mul_one, Nat.add_zero, hu] at this
      have h2 : 0 ≤ n ∧ n < 18446744073709551616 := by
        simp [Lit.wf, IntKind.min, IntKind.max, IntKind.signed, IntKind.bits] at hwf
        omega
      refine ⟨n.toNat, ?_, by omega⟩
      rw [this, show ((n.toNat : Nat) : Int) = n from by omega]
    let g : List Nat := (List.range len).map fun i => if h : i < len then (hall i h).choose else 0
    have hgl : g.length = len := by simp [g]
    have hgi : ∀ i x, g[i]? = some x → ∃ h : i < len, x = (hall i h).choose := by
      intro i x hix
      have hil : i < len := by
        have := (List.getElem?_eq_some_iff.1 hix).1
        omega
      simp only [g, List.getElem?_map, List.getElem?_range hil, Option.map_some, Option.some.injEq, dif_pos hil] at hix
      exact ⟨hil, hix.symm⟩
    refine ⟨g, ⟨by rw [words_len, Nat.mul_one], .inr ⟨a, cap, by rw [hgl], fun j u hu => ?_⟩⟩, fun x hx => ?_, by rw [hgl]; exact hcap, some a, cap, by rw [hgl], by rw [hgl]; exact hl, hm⟩
    · have hjl : j < g.length := by
        have := (List.getElem?_eq_some_iff.1 hu).1
        rw [words_len] at this
        exact this
      have hg1 : g[j]? = some (g[j]'hjl) := List.getElem?_eq_getElem hjl
      rw [words_get hg1] at hu
      simp only [Option.some.injEq] at hu
      subst hu
      obtain ⟨hil, hx⟩ := hgi j _ hg1
      rw [hx]
      exact (hall j hil).choose_spec.1
    · obtain ⟨i, hi', rfl⟩ := List.getElem_of_mem hx
      obtain ⟨hil, hx⟩ := hgi i _ (List.getElem?_eq_getElem hi')
      rw [hx]
      exact (hall i hil).choose_spec.2
end
end Go.Proofs.Ytigakendeghoaaa

/-
  Contracts: package mem. No condition. (Printed by mkmem.py.)
-/
namespace Go.Proofs.Ytigakendeghoaaa.Mem
open Go.RowKit
attribute [local go_sem ↓] Go.wp_at_zero Go.wp_at_succ
/-- words, as a block's cells -/
def wRow (g : List Nat) : Array Value := (words g).toArray
theorem wRow_get {g : List Nat} {i x : Nat} (h : g[i]? = some x) : (wRow g)[i]? = some (.int .u64 (x : Int)) := by simp [wRow, words, h]
theorem wRow_set (g : List Nat) (i x : Nat) : (wRow g).setIfInBounds i (.int .u64 (x : Int)) = wRow (g.set i x) := by
  unfold wRow words
  rw [List.map_set]
  simp
/-- a memory's own block -/
def mB (b0 b1 N k : Nat) : Nat × Obj := (b0, .cells #[.slice (some ⟨b1, 0, none⟩) N N, .int .i64 (k : Int)] 70)
/-- its words' block -/
def wB (b1 : Nat) (g : List Nat) : Nat × Obj := (b1, .cells (wRow g) 22)
/-- a word in a box -/
def uB (b : Nat) (x : Int) : Nat × Obj := (b, .cells #[.int .u64 x] 22)
section
variable {W w : World} {m : List (Nat × Obj)} {b0 b1 N k b : Nat} {g : List Nat}
theorem box_m (h : Own W (mB b0 b1 N k :: m) w) : w.cell? ⟨b0, 0, none⟩ = some (.slice (some ⟨b1, 0, none⟩) N N) ∧ w.cell? ⟨b0, 1, none⟩ = some (.int .i64 (k : Int)) ∧ w.frozen? ⟨b0, 1, none⟩ = false :=
  ⟨h.cell List.mem_cons_self 0, h.cell List.mem_cons_self 1, h.frozen List.mem_cons_self 1⟩
theorem set_m (h : Own W (mB b0 b1 N k :: m) w) (k' : Nat) : Own W (mB b0 b1 N k' :: m) (w.setCell ⟨b0, 1, none⟩ (.int .i64 (k' : Int))) := h.set 1 (.int .i64 (k' : Int))
theorem cell_w (h : Own W (wB b1 g :: m) w) {i x : Nat} (hx : g[i]? = some x) : w.cell? ⟨b1, i, none⟩ = some (.int .u64 (x : Int)) ∧ w.frozen? ⟨b1, i, none⟩ = false := by
  have h1 := h.cell List.mem_cons_self i
  rw [wRow_get hx] at h1
  exact ⟨h1, h.frozen List.mem_cons_self i⟩
theorem set_w (h : Own W (wB b1 g :: m) w) (i x : Nat) : Own W (wB b1 (g.set i x) :: m) (w.setCell ⟨b1, i, none⟩ (.int .u64 (x : Int))) := by
  have h1 := h.set i (.int .u64 (x : Int))
  rw [wRow_set] at h1
  exact h1
theorem box_u {x : Int} (h : Own W (uB b x :: m) w) : w.cell? ⟨b, 0, none⟩ = some (.int .u64 x) ∧ w.frozen? ⟨b, 0, none⟩ = false := ⟨h.cell List.mem_cons_self 0, h.frozen List.mem_cons_self 0⟩
theorem set_u {x : Int} (h : Own W (uB b x :: m) w) (y : Int) : Own W (uB b y :: m) (w.setCell ⟨b, 0, none⟩ (.int .u64 y)) := h.set 0 (.int .u64 y)
theorem sw {α : Type} (x y : α) (l : List α) : (x :: y :: l).Perm (y :: x :: l) := List.Perm.swap _ _ _
theorem len_spec (h : Own W (mB b0 b1 N k :: m) w) : Calls Try.prog 76 #[.pointer (some ⟨b0, 0, none⟩)] w fun e w' => e = .returned (.int .i64 (N : Int)) ∧ Own W (mB b0 b1 N k :: m) w' := by
  obtain ⟨y0, y1, f1⟩ := box_m h
  go_enter Try.func76, Try.ntmps76
  go_wp2_with fail
  go_ret
  exact ⟨rfl, h⟩
set_option maxRecDepth 100000 in
theorem access_bad (fv : Value) (q : Nat) (hq : q = 1 ∨ q = 2) (h : Own W (mB b0 b1 N k :: m) w) (i : Int) (hi : i < 0 ∨ (N : Int) - q < i) (hN2 : N ≤ 4096) (hk : k ≤ 1000000000) : Calls Try.prog 78 #[.pointer (some ⟨b0, 0, none⟩), .int .i64 i, .int .i64 q, fv] w fun e w' => e = .returned (.int .i64 9) ∧ Own W (mB b0 b1 N k :: m) w' := by
  obtain ⟨y0, y1, f1⟩ := box_m h
  have he := fun w => Lib.run_eql_slice_nil (P := Try.prog) w 35 22 (some ⟨b1, 0, none⟩) N N 0 0 Try.underlying35
  have hi' : i < 0 ∨ (¬ i < 0 ∧ (N : Int) - q < i) := by omega
  clear hi
  rcases hi' with hi | ⟨h0, hi⟩
  · have hd : decide (i < 0) = true := decide_eq_true hi
    rcases hq with rfl | rfl
    all_goals
      go_enter Try.func78, Try.ntmps78
      go_wp2_with fail
      go_ret
      exact ⟨rfl, h⟩
  · have hd : decide (i < 0) = false := decide_eq_false h0
    rcases hq with rfl | rfl
    · have h2 : (N : Int) - 1 < i := hi
      go_enter Try.func78, Try.ntmps78
      go_wp2_with fail
      go_ret
      exact ⟨rfl, h⟩
    · have h2 : (N : Int) - 2 < i := hi
      go_enter Try.func78, Try.ntmps78
      go_wp2_with fail
      go_ret
      exact ⟨rfl, h⟩
theorem up1 {α : Type} (x y : α) (l : List α) : (x :: y :: l).Perm (y :: x :: l) := List.Perm.swap _ _ _
theorem up2 {α : Type} (x1 x2 y : α) (l : List α) : (x1 :: x2 :: y :: l).Perm (y :: x1 :: x2 :: l) := ((up1 x2 y l).cons x1).trans (up1 _ _ _)
theorem up3 {α : Type} (x1 x2 x3 y : α) (l : List α) : (x1 :: x2 :: x3 :: y :: l).Perm (y :: x1 :: x2 :: x3 :: l) := ((up2 x2 x3 y l).cons x1).trans (up1 _ _ _)
theorem up4 {α : Type} (x1 x2 x3 x4 y : α) (l : List α) : (x1 :: x2 :: x3 :: x4 :: y :: l).Perm (y :: x1 :: x2 :: x3 :: x4 :: l) := ((up3 x2 x3 x4 y l).cons x1).trans (up1 _ _ _)
theorem up5 {α : Type} (x1 x2 x3 x4 x5 y : α) (l : List α) : (x1 :: x2 :: x3 :: x4 :: x5 :: y :: l).Perm (y :: x1 :: x2 :: x3 :: x4 :: x5 :: l) := ((up4 x2 x3 x4 x5 y l).cons x1).trans (up1 _ _ _)
theorem up6 {α : Type} (x1 x2 x3 x4 x5 x6 y : α) (l : List α) : (x1 :: x2 :: x3 :: x4 :: x5 :: x6 :: y :: l).Perm (y :: x1 :: x2 :: x3 :: x4 :: x5 :: x6 :: l) := ((up5 x2 x3 x4 x5 x6 y l).cons x1).trans (up1 _ _ _)
theorem eql_pair (w : World) (x y a b : Int) : (binOp .eql 149 (.agg #[.int .u64 x, .int .u64 y]) (.agg #[.int .u64 a, .int .u64 b])).run Try.prog w = .ok (.bool (decide (x = a ∧ y = b))) w := by
  have e1 : (Try.prog.fieldsOf 149).toList.map (fun f => (f.name == "_", f.type, f.offset)) = [(false, 22, 0), (false, 22, 1)] := by kernel_rfl
  rw [run_eql_struct, run_equalIn_struct w 9999 149 _ _ (by kernel_rfl) (by kernel_rfl)]
  obtain ⟨f1, f2, hf, e1, e2⟩ : ∃ f1 f2, (Try.prog.fieldsOf 149).toList = [f1, f2] ∧ (f1.name == "_", f1.type, f1.offset) = (false, 22, 0) ∧ (f2.name == "_", f2.type, f2.offset) = (false, 22, 1) := by
    match hl : (Try.prog.fieldsOf 149).toList, e1 with
    | [f1, f2], e1 => simp only [List.map_cons, List.map_nil, List.cons.injEq, and_true] at e1; exact ⟨f1, f2, rfl, e1.1, e1.2⟩
    | [], e1 => simp at e1
    | [_], e1 => simp at e1
    | _ :: _ :: _ :: _, e1 => simp at e1
  simp only [Prod.mk.injEq] at e1 e2
  obtain ⟨n1, t1, o1⟩ := e1
  obtain ⟨n2, t2, o2⟩ := e2
  have n1 : f1.name ≠ "_" := by simpa using n1
  have n2 : f2.name ≠ "_" := by simpa using n2
  rw [hf]
  have ha : Try.prog.underlying 22 = some (.int .u64) := Try.underlying22
  simp [Op.eqFields, n1, n2, t1, t2, o1, o2, part, run_equalIn_int, ha, isAgg]
  by_cases h1 : x = a <;> by_cases h2 : y = b <;> simp [h1, h2]
/-- a bool in a box -/
def bB (b : Nat) (x : Bool) : Nat × Obj := (b, .cells #[.bool x] 4)
theorem box_b {x : Bool} (h : Own W (bB b x :: m) w) : w.cell? ⟨b, 0, none⟩ = some (.bool x) ∧ w.frozen? ⟨b, 0, none⟩ = false := ⟨h.cell List.mem_cons_self 0, h.frozen List.mem_cons_self 0⟩
theorem set_b {x : Bool} (h : Own W (bB b x :: m) w) (y : Bool) : Own W (bB b y :: m) (w.setCell ⟨b, 0, none⟩ (.bool y)) := h.set 0 (.bool y)
/-! Load -/
set_option maxRecDepth 100000 in
theorem load1_spec (v : Int) (h : Own W (uB b v :: mB b0 b1 N k :: wB b1 g :: m) w) {i x : Nat} (hx : g[i]? = some x) (q : Nat) : Calls Try.prog 128 #[.slice (some ⟨b1, i, none⟩) 1 q, .pointer (some ⟨b, 0, none⟩)] w fun e w' => e = .returned (.tuple #[]) ∧ Own W (uB b x :: mB b0 b1 N k :: wB b1 g :: m) w' := by
  obtain ⟨y0, f0⟩ := box_u h
  obtain ⟨z0, -⟩ := cell_w h.skip.skip hx
  have h2 := set_u h (x : Int)
  clear hx
  go_enter Try.func128, Try.ntmps128
  go_wp2_with fail
  go_end0
  exact ⟨rfl, h2⟩
set_option maxRecDepth 100000 in
theorem access_load (v : Int) (h : Own W (uB b v :: mB b0 b1 N k :: wB b1 g :: m) w) {i x : Nat} (hx : g[i]? = some x) (hN : g.length = N) (hN2 : N ≤ 4096) (hk : k ≤ 1000000000) : Calls Try.prog 78 #[.pointer (some ⟨b0, 0, none⟩), .int .i64 i, .int .i64 1, .func (.func 128) #[] #[.pointer (some ⟨b, 0, none⟩)]] w fun e w' => e = .returned (.int .i64 0) ∧ Own W (uB b x :: mB b0 b1 N (k + 1) :: wB b1 g :: m) w' := by
  obtain ⟨y0, y1, f1⟩ := box_m h.skip
  have hlt : i + (1 - 1) < N := by rw [← hN]; exact (List.getElem?_eq_some_iff.1 hx).1
  have h2 := (set_m (h.perm (up1 _ _ _)) (k + 1)).perm (up1 _ _ _).symm
  have hi1 : (i : Int) ≤ (N : Int) - 1 := by omega
  have he := fun w => Lib.run_eql_slice_nil (P := Try.prog) w 35 22 (some ⟨b1, 0, none⟩) N N 0 0 Try.underlying35
  have HX := Lib.hid hx
  have H2 := Lib.hid h2
  clear hx h2 h hN
  go_enter Try.func78, Try.ntmps78
  go_wp2_with fail
  refine (load1_spec _ H2.out HX.out _).mono ?_
  rintro e w3 ⟨rfl, h3⟩
  go_wp2_with fail
  go_ret
  exact ⟨rfl, h3⟩
/-! Store -/
set_option maxRecDepth 100000 in
theorem store1_spec (v : Nat) (h : Own W (uB b (v : Int) :: mB b0 b1 N k :: wB b1 g :: m) w) {i x : Nat} (hx : g[i]? = some x) (q : Nat) : Calls Try.prog 79 #[.slice (some ⟨b1, i, none⟩) 1 q, .pointer (some ⟨b, 0, none⟩)] w fun e w' => e = .returned (.tuple #[]) ∧ Own W (uB b (v : Int) :: mB b0 b1 N k :: wB b1 (g.set i v) :: m) w' := by
  obtain ⟨y0, f0⟩ := box_u h
  obtain ⟨z0, z1⟩ := cell_w h.skip.skip hx
  have h2 := (set_w (h.perm (up2 _ _ _ _)) i v).perm (up2 _ _ _ _).symm
  clear hx
  go_enter Try.func79, Try.ntmps79
  go_wp2_with fail
  go_end0
  exact ⟨rfl, h2⟩
set_option maxRecDepth 100000 in
theorem access_store (v : Nat) (h : Own W (uB b (v : Int) :: mB b0 b1 N k :: wB b1 g :: m) w) {i x : Nat} (hx : g[i]? = some x) (hN : g.length = N) (hN2 : N ≤ 4096) (hk : k ≤ 1000000000) : Calls Try.prog 78 #[.pointer (some ⟨b0, 0, none⟩), .int .i64 i, .int .i64 1, .func (.func 79) #[] #[.pointer (some ⟨b, 0, none⟩)]] w fun e w' => e = .returned (.int .i64 0) ∧ Own W (uB b (v : Int) :: mB b0 b1 N (k + 1) :: wB b1 (g.set i v) :: m) w' := by
  obtain ⟨y0, y1, f1⟩ := box_m h.skip
  have hlt : i + (1 - 1) < N := by rw [← hN]; exact (List.getElem?_eq_some_iff.1 hx).1
  have h2 := (set_m (h.perm (up1 _ _ _)) (k + 1)).perm (up1 _ _ _).symm
  have hi1 : (i : Int) ≤ (N : Int) - 1 := by omega
  have he := fun w => Lib.run_eql_slice_nil (P := Try.prog) w 35 22 (some ⟨b1, 0, none⟩) N N 0 0 Try.underlying35
  have HX := Lib.hid hx
  have H2 := Lib.hid h2
  clear hx h2 h hN
  go_enter Try.func78, Try.ntmps78
  go_wp2_with fail
  refine (store1_spec _ H2.out HX.out _).mono ?_
  rintro e w3 ⟨rfl, h3⟩
  go_wp2_with fail
  go_ret
  exact ⟨rfl, h3⟩
/-! Cas2 -/
set_option maxRecDepth 100000 in
theorem cas21_spec (z : Bool) (ol se tw ot c0 c1 c2 c3 c4 : Nat) (h : Own W (bB c4 z :: uB c3 (ot : Int) :: uB c2 (tw : Int) :: uB c1 (se : Int) :: uB c0 (ol : Int) :: mB b0 b1 N k :: wB b1 g :: m) w) {i x y : Nat} (hx : g[i]? = some x) (hy : g[i + 1]? = some y) {t : Bool} {g' : List Nat} (ht : Hid (t = decide (x = ol ∧ y = se) ∧ g' = if x = ol ∧ y = se then (g.set i tw).set (i + 1) ot else g)) (q : Nat) : Calls Try.prog 130 #[.slice (some ⟨b1, i, none⟩) 2 q, .pointer (some ⟨c0, 0, none⟩), .pointer (some ⟨c1, 0, none⟩), .pointer (some ⟨c4, 0, none⟩), .pointer (some ⟨c2, 0, none⟩), .pointer (some ⟨c3, 0, none⟩)] w fun e w' => e = .returned (.tuple #[]) ∧ Own W (bB c4 t :: uB c3 (ot : Int) :: uB c2 (tw : Int) :: uB c1 (se : Int) :: uB c0 (ol : Int) :: mB b0 b1 N k :: wB b1 g' :: m) w' := by
  obtain ⟨y4, f4⟩ := box_b h
  obtain ⟨y3, f3⟩ := box_u h.skip
  obtain ⟨y2, f2⟩ := box_u h.skip.skip
  obtain ⟨y1, f1⟩ := box_u h.skip.skip.skip
  obtain ⟨y0, f0⟩ := box_u h.skip.skip.skip.skip
  obtain ⟨z0, z1⟩ := cell_w h.skip.skip.skip.skip.skip.skip hx
  obtain ⟨z2, z3⟩ := cell_w h.skip.skip.skip.skip.skip.skip hy
  have hg : (Try.prog.eqGuardType Try.prog.depth 149) = false := by kernel_rfl
  have hnd := h.nd
  simp only [bB, uB, mB, wB, List.map_cons, List.nodup_cons, List.mem_cons, not_or] at hnd
  obtain ⟨⟨-, -, p1, p0, -, pb, -⟩, ⟨-, -, -, -, r1, -⟩, ⟨-, -, -, r2, -⟩, -⟩ := hnd
  have n1 : b1 ≠ c4 := fun e => pb e.symm
  have n2 : c0 ≠ c4 := fun e => p0 e.symm
  have n3 : c1 ≠ c4 := fun e => p1 e.symm
  have n4 : c3 ≠ b1 := r1
  have n5 : c2 ≠ b1 := r2
  have n6 : b1 ≠ c3 := fun e => r1 e.symm
  have n7 : b1 ≠ c2 := fun e => r2 e.symm
  have HX := Lib.hid hx
  have HY := Lib.hid hy
  clear hx hy
  obtain ⟨ht, hgg⟩ := ht
  by_cases hc : x = ol ∧ y = se
  · rw [if_pos hc] at hgg
    rw [decide_eq_true hc] at ht
    subst ht hgg
    have heq : ∀ w, (binOp .eql 149 (.agg #[.int .u64 (x : Int), .int .u64 (y : Int)]) (.agg #[.int .u64 (ol : Int), .int .u64 (se : Int)])).run Try.prog w = .ok (.bool true) w := fun w => by rw [eql_pair, decide_eq_true ⟨by omega, by omega⟩]
    have h1 := (set_b h true).drew
    have H := Lib.hid h1
    clear hc h h1
    go_enter Try.func130, Try.ntmps130
    go_wp2_with fail
    go_region_held3 (fun w' => w'.cell? ⟨b1, i, none⟩ = some (.int .u64 (x : Int)) ∧ w'.cell? ⟨b1, i + 1, none⟩ = some (.int .u64 (y : Int)) ∧ w'.cell? ⟨c0, 0, none⟩ = some (.int .u64 (ol : Int)) ∧ w'.cell? ⟨c1, 0, none⟩ = some (.int .u64 (se : Int))) (first | (refine ⟨?_, ?_, ?_, ?_⟩ <;> assumption) | go_keep) (fail)
    have H1 := H.out
    obtain ⟨w1, hw1⟩ : ∃ w1, (w.setCell ⟨c4, 0, none⟩ (.bool true)).drew = w1 := ⟨_, rfl⟩
    rw [hw1] at H1 ⊢
    clear y0 y1 y2 y3 y4 f0 f1 f2 f3 f4 z0 z1 z2 z3 heq hw1 H
    obtain ⟨y4, f4⟩ := box_b H1
    go_wp2_with fail
    obtain ⟨y3, f3⟩ := box_u H1.skip
    obtain ⟨y2, f2⟩ := box_u H1.skip.skip
    obtain ⟨z0, z1⟩ := cell_w H1.skip.skip.skip.skip.skip.skip HX.out
    obtain ⟨z2, z3⟩ := cell_w H1.skip.skip.skip.skip.skip.skip HY.out
    have h5 := ((set_w (set_w (H1.perm (up6 _ _ _ _ _ _ _ _)) i tw) (i + 1) ot).perm (up6 _ _ _ _ _ _ _ _).symm).drew
    have H5 := Lib.hid h5
    clear h5 y4 f4 H1
    go_region_held3 (fun w' => w'.cell? ⟨c2, 0, none⟩ = some (.int .u64 (tw : Int)) ∧ w'.cell? ⟨c3, 0, none⟩ = some (.int .u64 (ot : Int))) (first | (refine ⟨?_, ?_⟩ <;> assumption) | go_keep) (fail)
    go_wp2_with fail
    go_end0
    exact ⟨rfl, H5.out⟩
  · rw [if_neg hc] at hgg
    rw [decide_eq_false hc] at ht
    subst ht hgg
    have heq : ∀ w, (binOp .eql 149 (.agg #[.int .u64 (x : Int), .int .u64 (y : Int)]) (.agg #[.int .u64 (ol : Int), .int .u64 (se : Int)])).run Try.prog w = .ok (.bool false) w := fun w => by rw [eql_pair, decide_eq_false (by omega)]
    have h1 := (set_b h false).drew
    have H := Lib.hid h1
    clear hc h h1
    go_enter Try.func130, Try.ntmps130
    go_wp2_with fail
    go_region_held3 (fun w' => w'.cell? ⟨b1, i, none⟩ = some (.int .u64 (x : Int)) ∧ w'.cell? ⟨b1, i + 1, none⟩ = some (.int .u64 (y : Int)) ∧ w'.cell? ⟨c0, 0, none⟩ = some (.int .u64 (ol : Int)) ∧ w'.cell? ⟨c1, 0, none⟩ = some (.int .u64 (se : Int))) (first | (refine ⟨?_, ?_, ?_, ?_⟩ <;> assumption) | go_keep) (fail)
    have H1 := H.out
    obtain ⟨w1, hw1⟩ : ∃ w1, (w.setCell ⟨c4, 0, none⟩ (.bool false)).drew = w1 := ⟨_, rfl⟩
    rw [hw1] at H1 ⊢
    clear y0 y1 y2 y3 y4 f0 f1 f2 f3 f4 z0 z1 z2 z3 heq hw1 H
    obtain ⟨y4, f4⟩ := box_b H1
    go_wp2_with fail
    go_end0
    exact ⟨rfl, H1⟩
set_option maxRecDepth 100000 in
theorem access_cas2 (z : Bool) (ol se tw ot c0 c1 c2 c3 c4 : Nat) (h : Own W (bB c4 z :: uB c3 (ot : Int) :: uB c2 (tw : Int) :: uB c1 (se : Int) :: uB c0 (ol : Int) :: mB b0 b1 N k :: wB b1 g :: m) w) {i x y : Nat} (hx : g[i]? = some x) (hy : g[i + 1]? = some y) {t : Bool} {g' : List Nat} (ht : Hid (t = decide (x = ol ∧ y = se) ∧ g' = if x = ol ∧ y = se then (g.set i tw).set (i + 1) ot else g)) (hN : g.length = N) (hN2 : N ≤ 4096) (hk : k ≤ 1000000000) : Calls Try.prog 78 #[.pointer (some ⟨b0, 0, none⟩), .int .i64 i, .int .i64 2, .func (.func 130) #[] #[.pointer (some ⟨c0, 0, none⟩), .pointer (some ⟨c1, 0, none⟩), .pointer (some ⟨c4, 0, none⟩), .pointer (some ⟨c2, 0, none⟩), .pointer (some ⟨c3, 0, none⟩)]] w fun e w' => e = .returned (.int .i64 0) ∧ Own W (bB c4 t :: uB c3 (ot : Int) :: uB c2 (tw : Int) :: uB c1 (se : Int) :: uB c0 (ol : Int) :: mB b0 b1 N (k + 1) :: wB b1 g' :: m) w' := by
  obtain ⟨y0, y1, f1⟩ := box_m h.skip.skip.skip.skip.skip
  have hlt : i + (2 - 1) < N := by rw [← hN]; exact (List.getElem?_eq_some_iff.1 hy).1
  have h2 := (set_m (h.perm (up5 _ _ _ _ _ _ _)) (k + 1)).perm (up5 _ _ _ _ _ _ _).symm
  have hi1 : (i : Int) ≤ (N : Int) - 2 := by omega
  have he := fun w => Lib.run_eql_slice_nil (P := Try.prog) w 35 22 (some ⟨b1, 0, none⟩) N N 0 0 Try.underlying35
  have HX := Lib.hid hx
  have HY := Lib.hid hy
  have H2 := Lib.hid h2
  clear hx h2 h hN hy
  go_enter Try.func78, Try.ntmps78
  go_wp2_with fail
  refine (cas21_spec _ _ _ _ _ _ _ _ _ _ H2.out HX.out HY.out ht _).mono ?_
  rintro e w3 ⟨rfl, h3⟩
  go_wp2_with fail
  go_ret
  exact ⟨rfl, h3⟩
set_option maxRecDepth 100000 in
theorem load_in  (h : Own W (mB b0 b1 N k :: wB b1 g :: m) w) {i x : Nat} (hx : g[i]? = some x) (hN : g.length = N) (hN2 : N ≤ 4096) (hk : k ≤ 1000000000) : Calls Try.prog 124 #[.pointer (some ⟨b0, 0, none⟩), .int .i64 (i : Int)] w fun e w' => e = .returned (.tuple #[.int .u64 (x : Int), .int .i64 0]) ∧ Own W (mB b0 b1 N (k + 1) :: wB b1 g :: m) w' := by
  have h1 := (h.new (.cells #[.int .u64 0] 22))
  obtain ⟨b, hb⟩ : ∃ b, w.heap.size = b := ⟨_, rfl⟩
  try simp only [World.size_alloc] at h1
  rw [hb] at h1
  have h1 : Own W (uB b 0 :: mB b0 b1 N k :: wB b1 g :: m) _ := h1
  have hac := access_load 0 h1 hx hN hN2 hk
  have HAC := Lib.hid hac
  clear hac h h1 hx hN
  go_enter Try.func124, Try.ntmps124
  go_wp2_with fail
  refine (HAC.out).mono ?_
  rintro e w3 ⟨rfl, h3⟩
  obtain ⟨y0, f0⟩ := box_u h3
  have h4 := set_u h3 (x : Int)
  obtain ⟨z0, -⟩ := box_u h4
  go_wp2_with fail
  exact bodyPost_ret (v := (.tuple #[.int .u64 (x : Int), .int .i64 0])) (by simp [results, Try.f124, go_sem, z0]) rfl ⟨rfl, h4.skip⟩
set_option maxRecDepth 100000 in
theorem load_bad  (h : Own W (mB b0 b1 N k :: wB b1 g :: m) w)  (i : Int) (hi : i < 0 ∨ (N : Int) - 1 < i) (hN2 : N ≤ 4096) (hk : k ≤ 1000000000) : Calls Try.prog 124 #[.pointer (some ⟨b0, 0, none⟩), .int .i64 i] w fun e w' => e = .returned (.tuple #[.int .u64 0, .int .i64 9]) ∧ Own W (mB b0 b1 N k :: wB b1 g :: m) w' := by
  have h1 := (h.new (.cells #[.int .u64 0] 22))
  obtain ⟨b, hb⟩ : ∃ b, w.heap.size = b := ⟨_, rfl⟩
  try simp only [World.size_alloc] at h1
  rw [hb] at h1
  have h1 : Own W (uB b 0 :: mB b0 b1 N k :: wB b1 g :: m) _ := h1
  have hac := fun fv => access_bad fv 1 (by omega) (h1.perm (up1 _ _ _)) i hi hN2 hk
  have HAC := Lib.hid hac
  clear hac h h1 hi
  go_enter Try.func124, Try.ntmps124
  go_wp2_with fail
  refine (HAC.out _).mono ?_
  rintro e w3 ⟨rfl, h3⟩
  have h3 := h3.perm (up1 _ _ _).symm
  obtain ⟨y0, f0⟩ := box_u h3
  have h4 := set_u h3 0
  obtain ⟨z0, -⟩ := box_u h4
  go_wp2_with fail
  exact bodyPost_ret (v := (.tuple #[.int .u64 0, .int .i64 9])) (by simp [results, Try.f124, go_sem, z0]) rfl ⟨rfl, h4.skip⟩
set_option maxRecDepth 100000 in
theorem store_in (v : Nat) (h : Own W (mB b0 b1 N k :: wB b1 g :: m) w) {i x : Nat} (hx : g[i]? = some x) (hN : g.length = N) (hN2 : N ≤ 4096) (hk : k ≤ 1000000000) : Calls Try.prog 49 #[.pointer (some ⟨b0, 0, none⟩), .int .i64 (i : Int), .int .u64 (v : Int)] w fun e w' => e = .returned (.int .i64 0) ∧ Own W (mB b0 b1 N (k + 1) :: wB b1 (g.set i v) :: m) w' := by
  have h1 := (h.new (.cells #[.int .u64 (v : Int)] 22))
  obtain ⟨b, hb⟩ : ∃ b, w.heap.size = b := ⟨_, rfl⟩
  try simp only [World.size_alloc] at h1
  rw [hb] at h1
  have h1 : Own W (uB b (v : Int) :: mB b0 b1 N k :: wB b1 g :: m) _ := h1
  have hac := access_store v h1 hx hN hN2 hk
  have HAC := Lib.hid hac
  clear hac h h1 hx hN
  go_enter Try.func49, Try.ntmps49
  go_wp2_with fail
  refine (HAC.out).mono ?_
  rintro e w3 ⟨rfl, h3⟩
  go_wp2_with fail
  go_ret
  exact ⟨rfl, h3.skip⟩
set_option maxRecDepth 100000 in
theorem store_bad (v : Nat) (h : Own W (mB b0 b1 N k :: wB b1 g :: m) w)  (i : Int) (hi : i < 0 ∨ (N : Int) - 1 < i) (hN2 : N ≤ 4096) (hk : k ≤ 1000000000) : Calls Try.prog 49 #[.pointer (some ⟨b0, 0, none⟩), .int .i64 i, .int .u64 (v : Int)] w fun e w' => e = .returned (.int .i64 9) ∧ Own W (mB b0 b1 N k :: wB b1 g :: m) w' := by
  have h1 := (h.new (.cells #[.int .u64 (v : Int)] 22))
  obtain ⟨b, hb⟩ : ∃ b, w.heap.size = b := ⟨_, rfl⟩
  try simp only [World.size_alloc] at h1
  rw [hb] at h1
  have h1 : Own W (uB b (v : Int) :: mB b0 b1 N k :: wB b1 g :: m) _ := h1
  have hac := fun fv => access_bad fv 1 (by omega) (h1.perm (up1 _ _ _)) i hi hN2 hk
  have HAC := Lib.hid hac
  clear hac h h1 hi
  go_enter Try.func49, Try.ntmps49
  go_wp2_with fail
  refine (HAC.out _).mono ?_
  rintro e w3 ⟨rfl, h3⟩
  have h3 := h3.perm (up1 _ _ _).symm
  go_wp2_with fail
  go_ret
  exact ⟨rfl, h3.skip⟩
set_option maxRecDepth 100000 in
theorem cas2_in (ol se tw ot : Nat) (h : Own W (mB b0 b1 N k :: wB b1 g :: m) w) {i x y : Nat} (hx : g[i]? = some x) (hy : g[i + 1]? = some y) {t : Bool} {g' : List Nat} (ht : Hid (t = decide (x = ol ∧ y = se) ∧ g' = if x = ol ∧ y = se then (g.set i tw).set (i + 1) ot else g)) (hN : g.length = N) (hN2 : N ≤ 4096) (hk : k ≤ 1000000000) : Calls Try.prog 129 #[.pointer (some ⟨b0, 0, none⟩), .int .i64 (i : Int), .int .u64 (ol : Int), .int .u64 (se : Int), .int .u64 (tw : Int), .int .u64 (ot : Int)] w fun e w' => e = .returned (.tuple #[.bool t, .int .i64 0]) ∧ Own W (mB b0 b1 N (k + 1) :: wB b1 g' :: m) w' := by
  have h1 := (((((h.new (.cells #[.int .u64 (ol : Int)] 22)).new (.cells #[.int .u64 (se : Int)] 22)).new (.cells #[.int .u64 (tw : Int)] 22)).new (.cells #[.int .u64 (ot : Int)] 22)).new (.cells #[.bool false] 4))
  obtain ⟨b, hb⟩ : ∃ b, w.heap.size = b := ⟨_, rfl⟩
  try simp only [World.size_alloc] at h1
  rw [hb] at h1
  have h1 : Own W (bB (b + 4) false :: uB (b + 3) (ot : Int) :: uB (b + 2) (tw : Int) :: uB (b + 1) (se : Int) :: uB b (ol : Int) :: mB b0 b1 N k :: wB b1 g :: m) _ := h1
  have hac := access_cas2 false ol se tw ot _ _ _ _ _ h1 hx hy ht hN hN2 hk
  have HAC := Lib.hid hac
  clear hac h h1 hx hy hN
  go_enter Try.func129, Try.ntmps129
  go_wp2_with fail
  refine (HAC.out).mono ?_
  rintro e w3 ⟨rfl, h3⟩
  obtain ⟨y0, f0⟩ := box_b h3
  have h4 := set_b h3 t
  obtain ⟨z0, -⟩ := box_b h4
  go_wp2_with fail
  exact bodyPost_ret (v := (.tuple #[.bool t, .int .i64 0])) (by simp [results, Try.f129, go_sem, z0]) rfl ⟨rfl, h4.skip.skip.skip.skip.skip⟩
set_option maxRecDepth 100000 in
theorem cas2_bad (ol se tw ot : Nat) (h : Own W (mB b0 b1 N k :: wB b1 g :: m) w)  (i : Int) (hi : i < 0 ∨ (N : Int) - 2 < i) (hN2 : N ≤ 4096) (hk : k ≤ 1000000000) : Calls Try.prog 129 #[.pointer (some ⟨b0, 0, none⟩), .int .i64 i, .int .u64 (ol : Int), .int .u64 (se : Int), .int .u64 (tw : Int), .int .u64 (ot : Int)] w fun e w' => e = .returned (.tuple #[.bool false, .int .i64 9]) ∧ Own W (mB b0 b1 N k :: wB b1 g :: m) w' := by
  have h1 := (((((h.new (.cells #[.int .u64 (ol : Int)] 22)).new (.cells #[.int .u64 (se : Int)] 22)).new (.cells #[.int .u64 (tw : Int)] 22)).new (.cells #[.int .u64 (ot : Int)] 22)).new (.cells #[.bool false] 4))
  obtain ⟨b, hb⟩ : ∃ b, w.heap.size = b := ⟨_, rfl⟩
  try simp only [World.size_alloc] at h1
  rw [hb] at h1
  have h1 : Own W (bB (b + 4) false :: uB (b + 3) (ot : Int) :: uB (b + 2) (tw : Int) :: uB (b + 1) (se : Int) :: uB b (ol : Int) :: mB b0 b1 N k :: wB b1 g :: m) _ := h1
  have hac := fun fv => access_bad fv 2 (by omega) (h1.perm (up5 _ _ _ _ _ _ _)) i hi hN2 hk
  have HAC := Lib.hid hac
  clear hac h h1 hi
  go_enter Try.func129, Try.ntmps129
  go_wp2_with fail
  refine (HAC.out _).mono ?_
  rintro e w3 ⟨rfl, h3⟩
  have h3 := h3.perm (up5 _ _ _ _ _ _ _).symm
  obtain ⟨y0, f0⟩ := box_b h3
  have h4 := set_b h3 false
  obtain ⟨z0, -⟩ := box_b h4
  go_wp2_with fail
  exact bodyPost_ret (v := (.tuple #[.bool false, .int .i64 9])) (by simp [results, Try.f129, go_sem, z0]) rfl ⟨rfl, h4.skip.skip.skip.skip.skip⟩
end
end Go.Proofs.Ytigakendeghoaaa.Mem

/-
  What a core's words say, in plain Lean. No condition.
-/
namespace Go.Proofs.Ytigakendeghoaaa.See
/-- a list of free objects: what shows the next one, the slab's links; what is out already -/
def walk (sh : Nat → Int → Option Int) (l : List Nat) : Nat → List Int → Int → Option (List Int)
  | 0, _, _ => none
  | n + 1, out, i => if i = -1 then some out else if i ∈ out then none else match sh (l.getD i.toNat 0) i with
    | none => none
    | some x => if (l.length : Int) ≤ x then none else walk sh l n (out ++ [i]) x
/-- slabs, one behind the other -/
def chain (of : Nat → Option Int) (nx : Int → Nat) (S : Nat) : Nat → List Int → Nat → Option (List Int)
  | 0, _, _ => none
  | n + 1, out, w => match of w with
    | none => none
    | some s => if (S : Int) ≤ s ∨ s ∈ out then none else if s = -1 then some out else chain of nx S n (out ++ [s]) (nx s)
/-- unlike numbers from 0 to below S: there are S at most; when there are S, all are there -/
theorem few : ∀ {S : Nat} {l : List Int}, l.Nodup → (∀ x ∈ l, 0 ≤ x ∧ x < S) → l.length ≤ S
  | 0, l, _, hb => by
    cases l with
    | nil => simp
    | cons x l =>
      have := hb x List.mem_cons_self
      omega
  | S + 1, l, hn, hb => by
    have h1 := few (S := S) (l := l.erase (S : Int)) (hn.erase _) fun x hx => by
      have h2 := (hn.mem_erase_iff).1 hx
      have := hb x h2.2
      omega
    by_cases hm : (S : Int) ∈ l
    · rw [List.length_erase_of_mem hm] at h1
      omega
    · rw [List.erase_of_not_mem hm] at h1
      omega
theorem few_lt {S : Nat} {l : List Int} (hn : l.Nodup) (hb : ∀ x ∈ l, 0 ≤ x ∧ x < S) {i : Int} (h0 : 0 ≤ i) (h1 : i < S) (hi : i ∉ l) : l.length < S := by
  have := few (S := S) (l := l ++ [i]) (List.nodup_append.2 ⟨hn, by simp, fun a ha b hb' he => by
    simp at hb'
    subst hb'
    subst he
    exact hi ha⟩) (fun x hx => by
    rcases List.mem_append.1 hx with hx | hx
    · exact hb x hx
    · simp at hx
      subst hx
      exact ⟨h0, h1⟩)
  simp at this
  omega
/-- words are numbers below 2^64 -/
def W64 (g : List Nat) : Prop := ∀ x ∈ g, x < 18446744073709551616
/-- a head: a slab, an object -/
def headOf (w : Nat) : Option (Int × Int) := if w = 0 then some (-1, -1) else if 64 ≤ w ∧ w < 2112 ∧ w % 64 ≤ 16 then some (((w / 64 : Nat) : Int) - 1, ((w % 64 : Nat) : Int) - 1) else none
/-- a part: a slab, how many -/
def partOf (w : Nat) : Option (Int × Int) := if w = 0 then some (-1, 0) else if 64 ≤ w ∧ w < 4096 ∧ 1 ≤ w % 64 ∧ w % 64 ≤ 32 then some (((w % 64 : Nat) : Int) - 1, ((w / 64 : Nat) : Int)) else none
def shelfOf (w : Nat) : Option Int := if w ≤ 32 then some ((w : Int) - 1) else none
/-- a slab's numbers -/
structure CountsP where
  inuse : Nat
  objects : Nat
  frozen : Bool
  live : Bool
  deriving DecidableEq
def countsOf (w : Nat) : Option CountsP := if w = 0 then some ⟨0, 0, false, false⟩ else
  if 131072 ≤ w ∧ w < 262144 ∧ 1 ≤ w / 256 % 256 ∧ w / 256 % 256 ≤ 16 ∧ w % 256 ≤ w / 256 % 256 then some ⟨w % 256, w / 256 % 256, decide (w / 65536 % 2 = 1), true⟩ else none
/-- the key at an object -/
def turned (key n : Nat) : Nat := (((key <<< (5 * n % 64)) % 18446744073709551616 ||| key >>> (64 - 5 * n % 64)) + n * 2654435769) % 18446744073709551616
def showOf (w key n : Nat) : Option Int := if w ^^^ turned key n ≤ 16 then some (((w ^^^ turned key n : Nat) : Int) - 1) else none
def keyOf (key s : Nat) : Nat := (key + s * 11400714819323198485) % 18446744073709551616
/-- a chart's numbers -/
structure Ch where
  C : Nat
  S : Nat
  O : Nat
  key : Nat
def Ch.words (c : Ch) : Nat := 4 * c.C + 4 + 4 * c.S + c.S * c.O
def Ch.ok (c : Ch) : Prop := 1 ≤ c.C ∧ c.C ≤ 8 ∧ 1 ≤ c.S ∧ c.S ≤ 32 ∧ 1 ≤ c.O ∧ c.O ≤ 16
def at_ (g : List Nat) (i : Nat) : Nat := g.getD i 0
def nextAt (c : Ch) (g : List Nat) (s : Int) : Nat := at_ g (4 * c.C + 4 + 4 * s.toNat + 2)
def links (c : Ch) (g : List Nat) (s : Nat) : List Nat := (g.drop (4 * c.C + 4 + 4 * c.S + s * c.O)).take c.O
/-- the free objects of a slab, from one on -/
def listP (c : Ch) (g : List Nat) (s i : Int) : Option (List Int) :=
  if 0 ≤ s ∧ s < c.S ∧ -1 ≤ i ∧ i < c.O then walk (fun w o => showOf w (keyOf c.key s.toNat) o.toNat) (links c g s.toNat) (c.O + 1) [] i else none
structure SlotP where
  slab : Int
  list : List Int
  turn : Nat
  parts : List Int
structure SlabP where
  counts : CountsP
  first : List Int
def partsP (c : Ch) (g : List Nat) (w : Nat) : Option (List Int) := chain (fun w => (partOf w).map (·.1)) (nextAt c g) c.S (c.S + 1) [] w
def shelfP (c : Ch) (g : List Nat) : Option (List Int) := chain shelfOf (nextAt c g) c.S (c.S + 1) [] (at_ g (4 * c.C + 1))
def slotP (c : Ch) (g : List Nat) (i : Nat) : Option SlotP :=
  match headOf (at_ g (4 * i)) with
  | none => none
  | some (s, o) => match (if s = -1 then some [] else listP c g s o) with
    | none => none
    | some l => match partsP c g (at_ g (4 * i + 2)) with
      | none => none
      | some p => some ⟨s, l, at_ g (4 * i + 1), p⟩
def slabP (c : Ch) (g : List Nat) (s : Nat) : Option SlabP :=
  match countsOf (at_ g (4 * c.C + 4 + 4 * s + 1)) with
  | none => none
  | some n => if c.O < at_ g (4 * c.C + 4 + 4 * s) then none else match listP c g s ((at_ g (4 * c.C + 4 + 4 * s) : Int) - 1) with
    | none => none
    | some l => some ⟨n, l⟩
/-- the first ones, as many as are asked for, if all may be -/
def upto {α : Type} (f : Nat → Option α) : Nat → Option (List α)
  | 0 => some []
  | n + 1 => match upto f n with
    | none => none
    | some l => match f n with
      | none => none
      | some x => some (l ++ [x])
theorem upto_none {α : Type} {f : Nat → Option α} {k : Nat} (h : f k = none) : ∀ {n : Nat}, k < n → upto f n = none
  | 0, hk => by omega
  | n + 1, hk => by
    unfold upto
    by_cases he : k = n
    · subst he
      rw [h]
      cases upto f k <;> rfl
    · rw [upto_none h (show k < n by omega)]
theorem upto_len {α : Type} {f : Nat → Option α} : ∀ {n : Nat} {l : List α}, upto f n = some l → l.length = n
  | 0, l, h => by
    simp only [upto, Option.some.injEq] at h
    subst h
    rfl
  | n + 1, l, h => by
    unfold upto at h
    split at h <;> first | (cases h; done) | skip
    rename_i l' hl
    split at h <;> first | (cases h; done) | skip
    simp only [Option.some.injEq] at h
    subst h
    simp [upto_len hl]
theorem upto_get {α : Type} {f : Nat → Option α} : ∀ {n : Nat} {l : List α}, upto f n = some l → ∀ i, i < n → f i = l[i]?
  | 0, l, h, i, hi => by omega
  | n + 1, l, h, i, hi => by
    unfold upto at h
    split at h <;> first | (cases h; done) | skip
    rename_i l' hl
    split at h <;> first | (cases h; done) | skip
    rename_i x hx
    simp only [Option.some.injEq] at h
    subst h
    have hlen := upto_len hl
    by_cases he : i = n
    · subst he
      rw [hx, List.getElem?_append_right (by omega), hlen, Nat.sub_self]
      rfl
    · rw [List.getElem?_append_left (by omega)]
      exact upto_get hl i (by omega)
structure CoreP where
  slots : List SlotP
  shelf : List Int
  locked : Bool
  slabs : List SlabP
/-- what words say -/
def seeP (c : Ch) (g : List Nat) : Option CoreP :=
  match upto (slotP c g) c.C with
  | none => none
  | some a => match shelfP c g with
    | none => none
    | some l => match upto (slabP c g) c.S with
      | none => none
      | some b => some ⟨a, l, decide (at_ g (4 * c.C) ≠ 0), b⟩
end Go.Proofs.Ytigakendeghoaaa.See

/-
  Contracts: a head, a part, a slab's numbers (package count). No condition.
-/
namespace Go.Proofs.Ytigakendeghoaaa.See
open Go.RowKit
attribute [local go_sem ↓] Go.wp_at_zero Go.wp_at_succ
theorem and63 (w : Nat) (h : w < 18446744073709551616) : bits .and .u64 (w : Int) 63 = ((w % 64 : Nat) : Int) := by
  have := u64_and_nat w 63 h (by omega)
  rw [show (63 : Int) = ((63 : Nat) : Int) from rfl, this, show (63 : Nat) = 2 ^ 6 - 1 from rfl, Nat.and_two_pow_sub_one_eq_mod]
theorem and255 (w : Nat) (h : w < 18446744073709551616) : bits .and .u64 (w : Int) 255 = ((w % 256 : Nat) : Int) := by
  have := u64_and_nat w 255 h (by omega)
  rw [show (255 : Int) = ((255 : Nat) : Int) from rfl, this, show (255 : Nat) = 2 ^ 8 - 1 from rfl, Nat.and_two_pow_sub_one_eq_mod]
def headOk (s o : Int) : Prop := 0 ≤ s ∧ s < 32 ∧ -1 ≤ o ∧ o < 16
instance (s o : Int) : Decidable (headOk s o) := inferInstanceAs (Decidable (0 ≤ s ∧ s < 32 ∧ -1 ≤ o ∧ o < 16))
/-- the word of a head -/
def headW (s o : Int) : Nat := (64 * (s + 1) + (o + 1)).toNat
theorem or64 (a b : Nat) (ha : a < 1000) (hb : b < 64) : bits .or .u64 ((64 * a : Nat) : Int) (b : Int) = ((64 * a + b : Nat) : Int) := by
  have := u64_or_nat (64 * a) b (by omega) (by omega)
  rw [this]
  have h := Nat.two_pow_add_eq_or_of_lt (i := 6) (b := b) hb a
  rw [← h]
def smay (s : Int) : Bool := decide (0 ≤ s ∧ s < 32)
theorem smay_yes {s : Int} (h : 0 ≤ s ∧ s < 32) : smay s = true := decide_eq_true h
theorem smay_no {s : Int} (h : ¬ (0 ≤ s ∧ s < 32)) : smay s = false := decide_eq_false h
theorem slabMay_spec (s : Int) (w : World) : Calls Try.prog 90 #[.int .i64 s] w fun e w' => e = .returned (.bool (smay s)) ∧ w = w' := by
  by_cases h0 : 0 ≤ s
  · by_cases h1 : s < 32
    · rw [smay_yes ⟨h0, h1⟩]
      go_enter Try.func90, Try.ntmps90
      go_wp2_with fail
      go_ret
      exact ⟨rfl, rfl⟩
    · rw [smay_no (by omega)]
      go_enter Try.func90, Try.ntmps90
      go_wp2_with fail
      go_ret
      exact ⟨rfl, rfl⟩
  · rw [smay_no (by omega)]
    go_enter Try.func90, Try.ntmps90
    go_wp2_with fail
    go_ret
    exact ⟨rfl, rfl⟩
/-- a head's word is made -/
theorem head_ok (s o : Int) (h : headOk s o) (w : World) : Calls Try.prog 73 #[.int .i64 s, .int .i64 o] w fun e w' => e = .returned (.tuple #[.int .u64 (headW s o), .int .i64 0]) ∧ w = w' := by
  obtain ⟨h0, h1, h2, h3⟩ := h
  have hb : (s == -1) = false := beq_eq_false_iff_ne.2 (by omega)
  have hw : bits .or .u64 ((s + 1) * 64) (o + 1) = headW s o := by
    have := or64 (s + 1).toNat (o + 1).toNat (by omega) (by omega)
    rw [show ((64 * (s + 1).toNat : Nat) : Int) = (s + 1) * 64 by omega, show ((o + 1).toNat : Int) = o + 1 by omega] at this
    rw [this]
    unfold headW
    omega
  have HW := Lib.hid hw
  clear hw
  go_enter Try.func73, Try.ntmps73
  go_wp2_with (go_at_call 90; refine (slabMay_spec s _).mono ?_; rintro e w' ⟨rfl, rfl⟩; rw [smay_yes ⟨h0, h1⟩])
  go_ret2
  exact ⟨by rw [← HW.out]; rfl, rfl⟩
theorem head_none (w : World) : Calls Try.prog 73 #[.int .i64 (-1), .int .i64 (-1)] w fun e w' => e = .returned (.tuple #[.int .u64 0, .int .i64 0]) ∧ w = w' := by
  go_enter Try.func73, Try.ntmps73
  go_wp2_with fail
  go_ret2
  exact ⟨rfl, rfl⟩
theorem head_bad (s o : Int) (h : ¬ headOk s o) (hn : ¬ (s = -1 ∧ o = -1)) (w : World) : Calls Try.prog 73 #[.int .i64 s, .int .i64 o] w fun e w' => e = .returned (.tuple #[.int .u64 0, .int .i64 2]) ∧ w = w' := by
  unfold headOk at h
  by_cases hs : s = -1
  · subst hs
    have hb : (o == -1) = false := beq_eq_false_iff_ne.2 (by omega)
    go_enter Try.func73, Try.ntmps73
    go_wp2_with (go_at_call 90; refine (slabMay_spec (-1) _).mono ?_; rintro e w' ⟨rfl, rfl⟩)
    go_ret2
    exact ⟨rfl, rfl⟩
  · have hb : (s == -1) = false := beq_eq_false_iff_ne.2 hs
    by_cases hm : 0 ≤ s ∧ s < 32
    · rcases (show o < -1 ∨ (¬ o < -1 ∧ 16 ≤ o) by omega) with ho | ⟨ho, ho2⟩
      all_goals
        go_enter Try.func73, Try.ntmps73
        go_wp2_with (go_at_call 90; refine (slabMay_spec s _).mono ?_; rintro e w' ⟨rfl, rfl⟩; rw [smay_yes hm])
        go_ret2
        exact ⟨rfl, rfl⟩
    · go_enter Try.func73, Try.ntmps73
      go_wp2_with (go_at_call 90; refine (slabMay_spec s _).mono ?_; rintro e w' ⟨rfl, rfl⟩; rw [smay_no hm])
      go_ret2
      exact ⟨rfl, rfl⟩
/-- is that a head? -/
def hIs (s o : Int) : Bool := decide (headOk s o ∨ (s = -1 ∧ o = -1))
theorem hc_spec (s o : Int) (w : World) : Calls Try.prog 102 #[.int .i64 s, .int .i64 o] w fun e w' => e = .returned (.bool (hIs s o)) ∧ w = w' := by
  by_cases h : headOk s o
  · rw [show hIs s o = true from decide_eq_true (.inl h)]
    have HH := Lib.hid h
    go_enter Try.func102, Try.ntmps102
    go_wp2_with (go_at_call 73; refine (head_ok s o HH.out _).mono ?_; rintro e w' ⟨rfl, rfl⟩)
    go_ret
    exact ⟨rfl, rfl⟩
  · by_cases hn : s = -1 ∧ o = -1
    · obtain ⟨rfl, rfl⟩ := hn
      rw [show hIs (-1) (-1) = true from decide_eq_true (.inr ⟨rfl, rfl⟩)]
      go_enter Try.func102, Try.ntmps102
      go_wp2_with (go_at_call 73; refine (head_none _).mono ?_; rintro e w' ⟨rfl, rfl⟩)
      go_ret
      exact ⟨rfl, rfl⟩
    · rw [show hIs s o = false from decide_eq_false (by intro hh; exact hh.elim h hn)]
      have HH := Lib.hid h
      have HN := Lib.hid hn
      clear h hn
      go_enter Try.func102, Try.ntmps102
      go_wp2_with (go_at_call 73; refine (head_bad s o HH.out HN.out _).mono ?_; rintro e w' ⟨rfl, rfl⟩)
      go_ret
      exact ⟨rfl, rfl⟩
/-- what told answers -/
def toldV (w : Nat) (hi lo : Int) (p : Int → Int → Bool) : Value :=
  if w ≤ 4095 ∧ p (((w / 64 : Nat) : Int) - hi) (((w % 64 : Nat) : Int) - lo) = true then .tuple #[.int .i64 (((w / 64 : Nat) : Int) - hi), .int .i64 (((w % 64 : Nat) : Int) - lo), .bool true] else .tuple #[.int .i64 0, .int .i64 0, .bool false]
set_option maxRecDepth 100000 in
theorem told_h (x : Nat) (hx : x < 18446744073709551616) (hi lo : Int) (h0 : 0 ≤ hi) (h1 : hi ≤ 1) (l0 : 0 ≤ lo) (l1 : lo ≤ 1) (w : World) :
    Calls Try.prog 101 #[.int .u64 x, .int .i64 hi, .int .i64 lo, .func (.func 102) #[] #[]] w fun e w' => e = .returned (toldV x hi lo hIs) ∧ w = w' := by
  have ha := and63 x hx
  have hd : (x : Int) / 64 = ((x / 64 : Nat) : Int) := by omega
  obtain ⟨q, hq⟩ : ∃ q : Nat, x / 64 = q := ⟨_, rfl⟩
  obtain ⟨r, hr⟩ : ∃ r : Nat, x % 64 = r := ⟨_, rfl⟩
  have hqb : x ≤ 4095 → q ≤ 63 := by omega
  have hrb : r < 64 := by omega
  unfold toldV
  rw [hq, hr]
  rw [hr] at ha
  rw [hq] at hd
  clear hq hr
  by_cases hbig : x ≤ 4095
  · have hbi : (x : Int) ≤ 4095 := by omega
    have hqb := hqb hbig
    clear hx
    cases hc : hIs ((q : Int) - hi) ((r : Int) - lo)
    · rw [if_neg (by simp)]
      go_enter Try.func101, Try.ntmps101
      go_wp2_with fail
      refine (hc_spec _ _ _).mono ?_
      rintro e w' ⟨rfl, rfl⟩
      rw [hc]
      go_wp2_with fail
      go_ret3
      exact ⟨rfl, rfl⟩
    · rw [if_pos ⟨hbig, rfl⟩]
      go_enter Try.func101, Try.ntmps101
      go_wp2_with fail
      refine (hc_spec _ _ _).mono ?_
      rintro e w' ⟨rfl, rfl⟩
      rw [hc]
      go_wp2_with fail
      go_ret3
      exact ⟨rfl, rfl⟩
  · have hbi : ¬ (x : Int) ≤ 4095 := by omega
    rw [if_neg (by intro h; exact hbig h.1)]
    clear hx hqb
    go_enter Try.func101, Try.ntmps101
    go_wp2_with fail
    go_ret3
    exact ⟨rfl, rfl⟩
/-- what HeadOf answers -/
def headV (w : Nat) : Value := match headOf w with
  | some (s, o) => .tuple #[.int .i64 s, .int .i64 o, .bool true]
  | none => .tuple #[.int .i64 (-1), .int .i64 (-1), .bool false]
theorem headOf_told (w : Nat) : headOf w = if w ≤ 4095 ∧ hIs (((w / 64 : Nat) : Int) - 1) (((w % 64 : Nat) : Int) - 1) = true then some (((w / 64 : Nat) : Int) - 1, ((w % 64 : Nat) : Int) - 1) else none := by
  unfold headOf hIs headOk
  by_cases h0 : w = 0
  · subst h0
    rw [if_pos rfl, if_pos ⟨by omega, by decide⟩]
    rfl
  · rw [if_neg h0]
    by_cases h1 : 64 ≤ w ∧ w < 2112 ∧ w % 64 ≤ 16
    · rw [if_pos h1, if_pos ⟨by omega, decide_eq_true (.inl (by omega))⟩]
    · rw [if_neg h1, if_neg]
      rintro ⟨h2, h3⟩
      have h3 := of_decide_eq_true h3
      omega
theorem headOf_spec (x : Nat) (hx : x < 18446744073709551616) (w : World) : Calls Try.prog 80 #[.int .u64 x] w fun e w' => e = .returned (headV x) ∧ w = w' := by
  have ht := fun w => told_h x hx 1 1 (by omega) (by omega) (by omega) (by omega) w
  have HT := Lib.hid ht
  unfold headV
  have he := headOf_told x
  clear hx ht
  by_cases hc : x ≤ 4095 ∧ hIs (((x / 64 : Nat) : Int) - 1) (((x % 64 : Nat) : Int) - 1) = true
  · rw [if_pos hc] at he
    rw [he]
    have hv : toldV x 1 1 hIs = .tuple #[.int .i64 (((x / 64 : Nat) : Int) - 1), .int .i64 (((x % 64 : Nat) : Int) - 1), .bool true] := by
      unfold toldV
      rw [if_pos hc]
    have HV := Lib.hid hv
    clear hv he hc
    go_enter Try.func80, Try.ntmps80
    go_wp2_with fail
    refine (HT.out _).mono ?_
    rintro e w' ⟨rfl, rfl⟩
    rw [HV.out]
    go_wp2_with fail
    go_ret3
    exact ⟨rfl, rfl⟩
  · rw [if_neg hc] at he
    rw [he]
    have hv : toldV x 1 1 hIs = .tuple #[.int .i64 0, .int .i64 0, .bool false] := by
      unfold toldV
      rw [if_neg hc]
    have HV := Lib.hid hv
    clear hv he hc
    go_enter Try.func80, Try.ntmps80
    go_wp2_with fail
    refine (HT.out _).mono ?_
    rintro e w' ⟨rfl, rfl⟩
    rw [HV.out]
    go_wp2_with fail
    go_ret3
    exact ⟨rfl, rfl⟩
def partOk (s n : Int) : Prop := 0 ≤ s ∧ s < 32 ∧ 1 ≤ n ∧ n ≤ 63
instance (s n : Int) : Decidable (partOk s n) := inferInstanceAs (Decidable (0 ≤ s ∧ s < 32 ∧ 1 ≤ n ∧ n ≤ 63))
/-- the word of a part -/
def partW (s n : Int) : Nat := (64 * n + (s + 1)).toNat
theorem part_ok (s n : Int) (h : partOk s n) (w : World) : Calls Try.prog 120 #[.int .i64 s, .int .i64 n] w fun e w' => e = .returned (.tuple #[.int .u64 (partW s n), .int .i64 0]) ∧ w = w' := by
  obtain ⟨h0, h1, h2, h3⟩ := h
  have hb : (s == -1) = false := beq_eq_false_iff_ne.2 (by omega)
  have hw : bits .or .u64 (n * 64) (s + 1) = partW s n := by
    have := or64 n.toNat (s + 1).toNat (by omega) (by omega)
    rw [show ((64 * n.toNat : Nat) : Int) = n * 64 by omega, show ((s + 1).toNat : Int) = s + 1 by omega] at this
    rw [this]
    unfold partW
    omega
  have HW := Lib.hid hw
  clear hw
  go_enter Try.func120, Try.ntmps120
  go_wp2_with (go_at_call 90; refine (slabMay_spec s _).mono ?_; rintro e w' ⟨rfl, rfl⟩; rw [smay_yes ⟨h0, h1⟩])
  go_ret2
  exact ⟨by rw [← HW.out]; rfl, rfl⟩
theorem part_none (w : World) : Calls Try.prog 120 #[.int .i64 (-1), .int .i64 0] w fun e w' => e = .returned (.tuple #[.int .u64 0, .int .i64 0]) ∧ w = w' := by
  go_enter Try.func120, Try.ntmps120
  go_wp2_with fail
  go_ret2
  exact ⟨rfl, rfl⟩
theorem part_bad (s n : Int) (h : ¬ partOk s n) (hn : ¬ (s = -1 ∧ n = 0)) (w : World) : Calls Try.prog 120 #[.int .i64 s, .int .i64 n] w fun e w' => e = .returned (.tuple #[.int .u64 0, .int .i64 2]) ∧ w = w' := by
  unfold partOk at h
  by_cases hs : s = -1
  · subst hs
    have hb : (n == 0) = false := beq_eq_false_iff_ne.2 (by omega)
    go_enter Try.func120, Try.ntmps120
    go_wp2_with (go_at_call 90; refine (slabMay_spec (-1) _).mono ?_; rintro e w' ⟨rfl, rfl⟩)
    go_ret2
    exact ⟨rfl, rfl⟩
  · have hb : (s == -1) = false := beq_eq_false_iff_ne.2 hs
    by_cases hm : 0 ≤ s ∧ s < 32
    · rcases (show n < 1 ∨ (¬ n < 1 ∧ 63 < n) by omega) with ho | ⟨ho, ho2⟩
      all_goals
        go_enter Try.func120, Try.ntmps120
        go_wp2_with (go_at_call 90; refine (slabMay_spec s _).mono ?_; rintro e w' ⟨rfl, rfl⟩; rw [smay_yes hm])
        go_ret2
        exact ⟨rfl, rfl⟩
    · go_enter Try.func120, Try.ntmps120
      go_wp2_with (go_at_call 90; refine (slabMay_spec s _).mono ?_; rintro e w' ⟨rfl, rfl⟩; rw [smay_no hm])
      go_ret2
      exact ⟨rfl, rfl⟩
/-- is that a part? (how many, which slab) -/
def pIs (n s : Int) : Bool := decide (partOk s n ∨ (s = -1 ∧ n = 0))
theorem pc_spec (n s : Int) (w : World) : Calls Try.prog 119 #[.int .i64 n, .int .i64 s] w fun e w' => e = .returned (.bool (pIs n s)) ∧ w = w' := by
  by_cases h : partOk s n
  · rw [show pIs n s = true from decide_eq_true (.inl h)]
    have HH := Lib.hid h
    clear h
    go_enter Try.func119, Try.ntmps119
    go_wp2_with (go_at_call 120; refine (part_ok s n HH.out _).mono ?_; rintro e w' ⟨rfl, rfl⟩)
    go_ret
    exact ⟨rfl, rfl⟩
  · by_cases hn : s = -1 ∧ n = 0
    · obtain ⟨rfl, rfl⟩ := hn
      rw [show pIs 0 (-1) = true from decide_eq_true (.inr ⟨rfl, rfl⟩)]
      go_enter Try.func119, Try.ntmps119
      go_wp2_with (go_at_call 120; refine (part_none _).mono ?_; rintro e w' ⟨rfl, rfl⟩)
      go_ret
      exact ⟨rfl, rfl⟩
    · rw [show pIs n s = false from decide_eq_false (by intro hh; exact hh.elim h hn)]
      have HH := Lib.hid h
      have HN := Lib.hid hn
      clear h hn
      go_enter Try.func119, Try.ntmps119
      go_wp2_with (go_at_call 120; refine (part_bad s n HH.out HN.out _).mono ?_; rintro e w' ⟨rfl, rfl⟩)
      go_ret
      exact ⟨rfl, rfl⟩
set_option maxRecDepth 100000 in
theorem told_p (x : Nat) (hx : x < 18446744073709551616) (hi lo : Int) (h0 : 0 ≤ hi) (h1 : hi ≤ 1) (l0 : 0 ≤ lo) (l1 : lo ≤ 1) (w : World) :
    Calls Try.prog 101 #[.int .u64 x, .int .i64 hi, .int .i64 lo, .func (.func 119) #[] #[]] w fun e w' => e = .returned (toldV x hi lo pIs) ∧ w = w' := by
  have ha := and63 x hx
  have hd : (x : Int) / 64 = ((x / 64 : Nat) : Int) := by omega
  obtain ⟨q, hq⟩ : ∃ q : Nat, x / 64 = q := ⟨_, rfl⟩
  obtain ⟨r, hr⟩ : ∃ r : Nat, x % 64 = r := ⟨_, rfl⟩
  have hqb : x ≤ 4095 → q ≤ 63 := by omega
  have hrb : r < 64 := by omega
  unfold toldV
  rw [hq, hr]
  rw [hr] at ha
  rw [hq] at hd
  clear hq hr
  by_cases hbig : x ≤ 4095
  · have hbi : (x : Int) ≤ 4095 := by omega
    have hqb := hqb hbig
    clear hx
    cases hc : pIs ((q : Int) - hi) ((r : Int) - lo)
    · rw [if_neg (by simp)]
      go_enter Try.func101, Try.ntmps101
      go_wp2_with fail
      refine (pc_spec _ _ _).mono ?_
      rintro e w' ⟨rfl, rfl⟩
      rw [hc]
      go_wp2_with fail
      go_ret3
      exact ⟨rfl, rfl⟩
    · rw [if_pos ⟨hbig, rfl⟩]
      go_enter Try.func101, Try.ntmps101
      go_wp2_with fail
      refine (pc_spec _ _ _).mono ?_
      rintro e w' ⟨rfl, rfl⟩
      rw [hc]
      go_wp2_with fail
      go_ret3
      exact ⟨rfl, rfl⟩
  · have hbi : ¬ (x : Int) ≤ 4095 := by omega
    rw [if_neg (by intro h; exact hbig h.1)]
    clear hx hqb
    go_enter Try.func101, Try.ntmps101
    go_wp2_with fail
    go_ret3
    exact ⟨rfl, rfl⟩
/-- what PartOf answers -/
def partV (w : Nat) : Value := match partOf w with
  | some (s, n) => .tuple #[.int .i64 s, .int .i64 n, .bool true]
  | none => .tuple #[.int .i64 (-1), .int .i64 0, .bool false]
theorem partOf_told (w : Nat) : partOf w = if w ≤ 4095 ∧ pIs (((w / 64 : Nat) : Int) - 0) (((w % 64 : Nat) : Int) - 1) = true then some (((w % 64 : Nat) : Int) - 1, ((w / 64 : Nat) : Int) - 0) else none := by
  unfold partOf pIs partOk
  by_cases h0 : w = 0
  · subst h0
    rw [if_pos rfl, if_pos ⟨by omega, by decide⟩]
    rfl
  · rw [if_neg h0]
    by_cases h1 : 64 ≤ w ∧ w < 4096 ∧ 1 ≤ w % 64 ∧ w % 64 ≤ 32
    · rw [if_pos h1, if_pos ⟨by omega, decide_eq_true (.inl (by omega))⟩, Int.sub_zero]
    · rw [if_neg h1, if_neg]
      rintro ⟨h2, h3⟩
      have h3 := of_decide_eq_true h3
      omega
theorem partOf_spec (x : Nat) (hx : x < 18446744073709551616) (w : World) : Calls Try.prog 104 #[.int .u64 x] w fun e w' => e = .returned (partV x) ∧ w = w' := by
  have ht := fun w => told_p x hx 0 1 (by omega) (by omega) (by omega) (by omega) w
  have HT := Lib.hid ht
  unfold partV
  have he := partOf_told x
  clear hx ht
  by_cases hc : x ≤ 4095 ∧ pIs (((x / 64 : Nat) : Int) - 0) (((x % 64 : Nat) : Int) - 1) = true
  · rw [if_pos hc] at he
    rw [he]
    have hv : toldV x 0 1 pIs = .tuple #[.int .i64 (((x / 64 : Nat) : Int) - 0), .int .i64 (((x % 64 : Nat) : Int) - 1), .bool true] := by
      unfold toldV
      rw [if_pos hc]
    have HV := Lib.hid hv
    clear hv he hc
    go_enter Try.func104, Try.ntmps104
    go_wp2_with fail
    refine (HT.out _).mono ?_
    rintro e w' ⟨rfl, rfl⟩
    rw [HV.out]
    go_wp2_with fail
    go_ret3
    exact ⟨by simp, rfl⟩
  · rw [if_neg hc] at he
    rw [he]
    have hv : toldV x 0 1 pIs = .tuple #[.int .i64 0, .int .i64 0, .bool false] := by
      unfold toldV
      rw [if_neg hc]
    have HV := Lib.hid hv
    clear hv he hc
    go_enter Try.func104, Try.ntmps104
    go_wp2_with fail
    refine (HT.out _).mono ?_
    rintro e w' ⟨rfl, rfl⟩
    rw [HV.out]
    go_wp2_with fail
    go_ret3
    exact ⟨rfl, rfl⟩
end Go.Proofs.Ytigakendeghoaaa.See
