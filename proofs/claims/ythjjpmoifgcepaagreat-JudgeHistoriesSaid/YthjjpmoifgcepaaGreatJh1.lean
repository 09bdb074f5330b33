/-
  Texts of this claim, joined. No condition.
-/
import Derived.Test.YthjjpmoifgcepaaGreatRows
import Derived.WalkKit
import Derived.WalkSpells
import Derived.WalkLawsBesides
import Derived.Deep.Draws
import Derived.Deep.QuietTactic
import Derived.BigQuiet
import Derived.Lib.Hide
import Derived.ProofKit
import Derived.Sort.AtCall
import Derived.Deep.RegionHeld3
import Derived.Deep.RegionWith
import Derived.Deep.DrawnRows
import Derived.Maps.AppendAt
import Derived.Laws.AppendOwnNone
import Derived.Lib.SliceRun
import Derived.Deep.DeepCutAuto
import Derived.Deep.CutBlock
import Derived.DeepKeys3
/-
  Memory as a list of owned blocks over the memory that was there at the start. Used by all walks of this seat. No condition.
-/
namespace Go.Proofs.YthjjpmoifgcepaaGreat
open Go.RowKit

/-- 'w' is 'W' with new blocks, of which the listed ones hold what is listed. -/
structure Own (W : World) (m : List (Nat × Obj)) (w : World) : Prop where
  below : Below W.heap.size W w
  at_ : ∀ p ∈ m, W.heap.size ≤ p.1 ∧ w.heap[p.1]? = some p.2
  nd : (m.map (·.1)).Nodup

theorem heap_lt {w : World} {g : Nat} {o : Obj} (h : w.heap[g]? = some o) : g < w.heap.size := by
  rcases Nat.lt_or_ge g w.heap.size with hlt | hge
  · exact hlt
  · rw [Array.getElem?_eq_none hge] at h; cases h

theorem perm_swap {α : Type} (A B C : List α) : (A ++ (B ++ C)).Perm (B ++ (A ++ C)) := by
  rw [← List.append_assoc, ← List.append_assoc]
  exact List.Perm.append_right _ List.perm_append_comm

namespace Own
variable {W w w' : World} {m m' : List (Nat × Obj)} {b i : Nat} {cs : Array Value} {t : TypeId} {o : Obj}

theorem init (W : World) : Own W [] W := ⟨Below.refl _ _, by simp, by simp⟩
theorem self (w : World) : Own w [] w := init w
theorem get (h : Own W m w) (hm : (b, o) ∈ m) : w.heap[b]? = some o := (h.at_ _ hm).2
theorem lt (h : Own W m w) (hm : (b, o) ∈ m) : b < w.heap.size := heap_lt (h.get hm)
theorem ge (h : Own W m w) (hm : (b, o) ∈ m) : W.heap.size ≤ b := (h.at_ _ hm).1
theorem cell (h : Own W m w) (hm : (b, .cells cs t) ∈ m) (i : Nat) : w.cell? ⟨b, i, none⟩ = cs[i]? := by
  simp [World.cell?, h.get hm]
theorem frozen (h : Own W m w) (hm : (b, .cells cs t) ∈ m) (i : Nat) : w.frozen? ⟨b, i, none⟩ = false := by
  simp [World.frozen?, h.get hm]
theorem old (h : Own W m w) {a : Addr} (ha : a.block < W.heap.size) : w.cell? a = W.cell? a := h.below.cell ha
theorem size_le (h : Own W m w) : W.heap.size ≤ w.heap.size := h.below.size
theorem drew (h : Own W m w) : Own W m w.drew := ⟨h.below.drew, h.at_, h.nd⟩
theorem drewN (h : Own W m w) (n : Nat) : Own W m (w.drewN n) := ⟨⟨h.below.os, h.below.tape, h.below.output, h.below.size, h.below.block⟩, h.at_, h.nd⟩
theorem perm (h : Own W m w) (hp : m.Perm m') : Own W m' w :=
  ⟨h.below, fun p hm => h.at_ p (hp.mem_iff.2 hm), (hp.map (·.1)).nodup_iff.1 h.nd⟩
theorem sub (h : Own W m w) (hs : m'.Sublist m) : Own W m' w :=
  ⟨h.below, fun p hm => h.at_ p (hs.subset hm), h.nd.sublist (hs.map _)⟩
theorem skip {x : Nat × Obj} (h : Own W (x :: m) w) : Own W m w := h.sub (List.sublist_cons_self _ _)
theorem dropL (h : Own W (m' ++ m) w) : Own W m w := h.sub (List.sublist_append_right _ _)
theorem dropR (h : Own W (m ++ m') w) : Own W m w := h.sub (List.sublist_append_left _ _)
theorem swap {m1 m2 m3 : List (Nat × Obj)} (h : Own W (m1 ++ (m2 ++ m3)) w) : Own W (m2 ++ (m1 ++ m3)) w :=
  h.perm (by rw [← List.append_assoc, ← List.append_assoc]; exact List.Perm.append_right _ List.perm_append_comm)
theorem comm {m1 m2 : List (Nat × Obj)} (h : Own W (m1 ++ m2) w) : Own W (m2 ++ m1) w := h.perm List.perm_append_comm
/-- nothing that was there has turned -/
theorem then_below (h : Own W m w) (hb : Below w.heap.size w w') : Own W m w' :=
  ⟨h.below.trans (hb.mono h.size_le), fun p hm => ⟨(h.at_ p hm).1, (hb.block p.1 (heap_lt (h.at_ p hm).2)).trans (h.at_ p hm).2⟩, h.nd⟩
theorem alloc (h : Own W m w) (o : Obj) : Own W m (w.alloc o) := h.then_below ((Below.refl _ _).alloc (Nat.le_refl _) _)
theorem new (h : Own W m w) (o : Obj) : Own W ((w.heap.size, o) :: m) (w.alloc o) :=
  ⟨(h.alloc o).below, fun p hm => by
    rcases List.mem_cons.1 hm with rfl | hm
    · exact ⟨h.size_le, heap_alloc_new w o⟩
    · exact (h.alloc o).at_ p hm, by
    simp only [List.map_cons, List.nodup_cons]
    refine ⟨fun hin => ?_, h.nd⟩
    obtain ⟨p, hp, he⟩ := List.mem_map.1 hin
    have := heap_lt (h.at_ p hp).2
    omega⟩
theorem set (h : Own W ((b, .cells cs t) :: m) w) (i : Nat) (v : Value) : Own W ((b, .cells (cs.setIfInBounds i v) t) :: m) (w.setCell ⟨b, i, none⟩ v) := by
  have hg := h.get (List.mem_cons_self)
  have hge := h.ge (List.mem_cons_self)
  refine ⟨h.below.setCell hge v, fun p hm => ?_, h.nd⟩
  rcases List.mem_cons.1 hm with rfl | hm
  · exact ⟨hge, by simp [World.setCell, Array.getElem?_modify, hg]⟩
  · have hne : p.1 ≠ b := fun he => by
      have := h.nd
      simp only [List.map_cons, List.nodup_cons] at this
      exact this.1 (he ▸ List.mem_map_of_mem (f := (·.1)) hm)
    exact ⟨(h.at_ p (List.mem_cons_of_mem _ hm)).1, (Below.heap_setCell w _ v p.1 hne).trans (h.at_ p (List.mem_cons_of_mem _ hm)).2⟩
theorem setIn {m1 m2 : List (Nat × Obj)} (h : Own W (m1 ++ (b, .cells cs t) :: m2) w) (i : Nat) (v : Value) :
    Own W (m1 ++ (b, .cells (cs.setIfInBounds i v) t) :: m2) (w.setCell ⟨b, i, none⟩ v) :=
  ((h.perm List.perm_middle).set i v).perm List.perm_middle.symm
theorem toBelow (h : Own w m w') : Below w.heap.size w w' := h.below
theorem of_self (h : Own W m w) (h' : Own w [] w') : Own W m w' := h.then_below h'.below
/-- what a call makes, beside what was there -/
theorem join (h : Own W m w) (h' : Own w m' w') : Own W (m' ++ m) w' := by
  have hk := h.then_below h'.below
  refine ⟨hk.below, fun p hp => ?_, ?_⟩
  · rcases List.mem_append.1 hp with hp | hp
    · exact ⟨Nat.le_trans h.size_le (h'.at_ p hp).1, (h'.at_ p hp).2⟩
    · exact hk.at_ p hp
  · rw [List.map_append, List.nodup_append]
    refine ⟨h'.nd, h.nd, fun a ha b hb => ?_⟩
    obtain ⟨p, hp, rfl⟩ := List.mem_map.1 ha
    obtain ⟨q, hq, rfl⟩ := List.mem_map.1 hb
    have h1 := (h'.at_ p hp).1
    have h2 := heap_lt (h.at_ q hq).2
    omega
theorem ne {b' : Nat} {o' : Obj} (h : Own W ((b, o) :: m) w) (hm : (b', o') ∈ m) : b' ≠ b := fun he => by
  have := h.nd
  simp only [List.map_cons, List.nodup_cons] at this
  exact this.1 (he ▸ List.mem_map_of_mem (f := (·.1)) hm)
theorem front3 {m1 m2 m3 m4 : List (Nat × Obj)} (h : Own W (m1 ++ (m2 ++ (m3 ++ m4))) w) : Own W (m3 ++ (m1 ++ (m2 ++ m4))) w :=
  h.perm ((List.Perm.append_left _ (perm_swap _ _ _)).trans (perm_swap _ _ _))
theorem dropIn {m1 m2 m3 : List (Nat × Obj)} (h : Own W (m1 ++ (m2 ++ m3)) w) : Own W (m1 ++ m3) w :=
  h.sub ((List.Sublist.refl _).append (List.sublist_append_right _ _))
theorem drop1 {x : Nat × Obj} {m1 : List (Nat × Obj)} (h : Own W (m1 ++ x :: m) w) : Own W (m1 ++ m) w :=
  h.sub ((List.Sublist.refl _).append (List.sublist_cons_self _ _))
theorem drop2 {x : Nat × Obj} {m1 m2 : List (Nat × Obj)} (h : Own W (m1 ++ (m2 ++ x :: m)) w) : Own W (m1 ++ (m2 ++ m)) w :=
  h.sub ((List.Sublist.refl _).append ((List.Sublist.refl _).append (List.sublist_cons_self _ _)))
/-- a new block behind one, or two, groups of blocks -/
theorem new1 {m1 : List (Nat × Obj)} (h : Own W (m1 ++ m) w) (o : Obj) : Own W (m1 ++ (w.heap.size, o) :: m) (w.alloc o) := (h.new o).perm List.perm_middle.symm
theorem new2 {m1 m2 : List (Nat × Obj)} (h : Own W (m1 ++ (m2 ++ m)) w) (o : Obj) : Own W (m1 ++ (m2 ++ (w.heap.size, o) :: m)) (w.alloc o) :=
  (h.new o).perm (by rw [← List.append_assoc, ← List.append_assoc]; exact List.perm_middle.symm)
end Own

/-! ### make -/
theorem run_make_rowN {P : Program} (t e : TypeId) (i : TypeInfo) (z : Value) (ht : P.underlying t = some (.slice e)) (hi : P.info? e = some i) (hz : i.zero = some z)
    (kl kc : IntKind) (n c : Nat) (hnc : n ≤ c) (hbytes : i.bytes * c ≤ 281474976710656) (h63 : c ≤ 9223372036854775807) (w : World) :
    (Instr.makeSlice t (.int kl (n : Int)) (.int kc (c : Int))).run P w = .ok (.slice (some ⟨w.heap.size, 0, none⟩) n c) (w.alloc (.cells (madeCells z.cells (c * i.size)) e)) := by
  have hb : (i.bytes : Int) * (c : Int) ≤ 281474976710656 := by
    have h : ((i.bytes * c : Nat) : Int) ≤ 281474976710656 := by omega
    rwa [Int.natCast_mul] at h
  have hr := run_make (P := P) w t e i z ht hi hz kl kc n c (by omega) (by omega) hb (by omega)
  simp only [Int.toNat_natCast] at hr
  exact hr
theorem madeCells_const (z : Array Value) (x : Value) (n : Nat) (h0 : 0 < z.size) (h : ∀ i, i < z.size → z[i]! = x) : madeCells z n = Array.replicate n x := by
  apply Array.ext
  · simp [madeCells]
  · intro i h1 h2
    simp [madeCells, h (i % z.size) (Nat.mod_lt _ h0)]
/-- what is told of a type -/
theorem info_get {P : Program} {t n b : Nat} {z : Value} (h : (P.info? t).map (fun i => (i.zero, i.size, i.bytes)) = some (some z, n, b)) : ∃ i, P.info? t = some i ∧ i.zero = some z ∧ i.size = n ∧ i.bytes = b := by
  cases hi : P.info? t with
  | none => rw [hi] at h; cases h
  | some i => rw [hi] at h; simp at h; exact ⟨i, rfl, h⟩
end Go.Proofs.YthjjpmoifgcepaaGreat

/-
  Rows of numbers in memory: a function on indexes, or a list. No condition.
-/
namespace Go.Proofs.YthjjpmoifgcepaaGreat
open Go.RowKit

/-- n cells, each the number that a function gives -/
def rowOf (n : Nat) (f : Nat → Int) : Array Value := ((List.range n).map fun i => Value.int .i64 (f i)).toArray
theorem rowOf_size (n : Nat) (f : Nat → Int) : (rowOf n f).size = n := by simp [rowOf]
theorem rowOf_get {n i : Nat} (f : Nat → Int) (h : i < n) : (rowOf n f)[i]? = some (.int .i64 (f i)) := by simp [rowOf, h]
theorem rowOf_congr {n : Nat} {f g : Nat → Int} (h : ∀ i, i < n → f i = g i) : rowOf n f = rowOf n g := by
  unfold rowOf
  congr 1
  exact List.map_congr_left fun i hi => by rw [h i (by simpa using hi)]
theorem rowOf_set {n i : Nat} (f : Nat → Int) (v : Int) (h : i < n) : (rowOf n f).setIfInBounds i (.int .i64 v) = rowOf n (fun j => if j = i then v else f j) := by
  apply Array.ext_getElem?
  intro j
  rw [Array.getElem?_setIfInBounds]
  by_cases hj : j < n
  · rw [rowOf_size, rowOf_get (fun j => if j = i then v else f j) hj]
    by_cases hij : i = j
    · subst hij; simp [h]
    · rw [if_neg hij, rowOf_get f hj, if_neg (by omega)]
  · rw [if_neg (by omega), Array.getElem?_eq_none (by rw [rowOf_size]; omega), Array.getElem?_eq_none (by rw [rowOf_size]; omega)]
theorem rowOf_rep (n : Nat) : Array.replicate n (Value.int .i64 0) = rowOf n (fun _ => 0) := by
  apply Array.ext_getElem?
  intro j
  by_cases hj : j < n
  · rw [rowOf_get _ hj]; simp [hj]
  · rw [Array.getElem?_eq_none (by simp; omega), Array.getElem?_eq_none (by rw [rowOf_size]; omega)]

/-- the cells of a list of numbers -/
def intCells (l : List Int) : Array Value := (l.map fun n => Value.int .i64 n).toArray
theorem intCells_size (l : List Int) : (intCells l).size = l.length := by simp [intCells]
theorem intCells_get (l : List Int) (i : Nat) : (intCells l)[i]? = (l[i]?).map fun n => Value.int .i64 n := by simp [intCells]
theorem intCells_set (l : List Int) (i : Nat) (v : Int) : (intCells l).setIfInBounds i (.int .i64 v) = intCells (l.set i v) := by
  apply Array.ext_getElem?
  intro j
  rw [Array.getElem?_setIfInBounds, intCells_get, intCells_get, intCells_size, List.getElem?_set]
  by_cases hij : i = j
  · subst hij
    by_cases h : i < l.length
    · simp [h]
    · simp [h]
  · simp [hij]

section
variable {W w : World} {X m : List (Nat × Obj)} {hb n i : Nat} {f : Nat → Int} {T : TypeId}
theorem row_at (h : Own W (X ++ (hb, .cells (rowOf n f) T) :: m) w) (hi : i < n) : w.cell? ⟨hb, i, none⟩ = some (.int .i64 (f i)) := by
  rw [h.cell (List.mem_append_right _ List.mem_cons_self), rowOf_get f hi]
theorem row_free (h : Own W (X ++ (hb, .cells (rowOf n f) T) :: m) w) : w.frozen? ⟨hb, i, none⟩ = false :=
  h.frozen (List.mem_append_right _ List.mem_cons_self) i
theorem row_lt (h : Own W (X ++ (hb, .cells (rowOf n f) T) :: m) w) : hb < w.heap.size := h.lt (List.mem_append_right _ List.mem_cons_self)
theorem row_set (h : Own W (X ++ (hb, .cells (rowOf n f) T) :: m) w) (hi : i < n) (v : Int) (g : Nat → Int) (hg : ∀ j, j < n → (if j = i then v else f j) = g j) :
    Own W (X ++ (hb, .cells (rowOf n g) T) :: m) (w.setCell ⟨hb, i, none⟩ (.int .i64 v)) := by
  have := h.setIn i (.int .i64 v)
  rw [rowOf_set f v hi, rowOf_congr hg] at this
  exact this
end
end Go.Proofs.YthjjpmoifgcepaaGreat

/-
  Slices that the call owns: what they hold, and append onto them. No condition but sizes.
-/
namespace Go.Proofs.YthjjpmoifgcepaaGreat
open Go.RowKit

/-- a slice value of n elements, whose cells are 'xs', and the blocks that it owns: none, or one ('ex': the block has just the slice's room) -/
def SlO (ex : Bool) (e size : Nat) (v : Value) (n : Nat) (xs : List Value) (bs : List (Nat × Obj)) : Prop :=
  xs.length = n * size ∧ ((v = .slice none 0 0 ∧ n = 0 ∧ bs = []) ∨
    ∃ g cap cur, v = .slice (some ⟨g, 0, none⟩) n cap ∧ bs = [(g, .cells cur e)] ∧ n ≤ cap ∧ cap ≤ maxLen ∧ (cap * size ≤ cur.size ∧ (ex = true → cur.size = cap * size)) ∧ cur.toList.take (n * size) = xs)
/-- .. one that may be appended to: its block has no more room than it knows of -/
abbrev SlOwn := SlO true
/-- a slice value of n elements that reads as the cells 'xs' -/
def Src (w : World) (size : Nat) (v : Value) (n : Nat) (xs : List Value) : Prop :=
  xs.length = n * size ∧ ((v = .slice none 0 0 ∧ n = 0) ∨ ∃ a c, v = .slice (some a) n c ∧ ∀ j u, xs[j]? = some u → w.cell? (a.add j) = some u)

theorem add_lit0 (g j : Nat) : (⟨g, 0, none⟩ : Addr).add j = ⟨g, j, none⟩ := by
  unfold Addr.add
  split <;> simp_all
theorem add_lit (g o j : Nat) : (⟨g, o, none⟩ : Addr).add j = ⟨g, o + j, none⟩ := by
  unfold Addr.add
  split <;> simp_all

section
variable {ex : Bool} {W w : World} {m : List (Nat × Obj)} {e size n : Nat} {v : Value} {xs : List Value} {bs : List (Nat × Obj)} {P : Program}

theorem SlO.nil (ex : Bool) (e size : Nat) : SlO ex e size (.slice none 0 0) 0 [] [] := ⟨by simp, .inl ⟨rfl, rfl, rfl⟩⟩
theorem SlO.made (ex : Bool) (e size g cap : Nat) (cur : Array Value) (n : Nat) (hn : n ≤ cap) (hc : cap ≤ maxLen) (hs : cur.size = cap * size) :
    SlO ex e size (.slice (some ⟨g, 0, none⟩) n cap) n (cur.toList.take (n * size)) [(g, .cells cur e)] :=
  ⟨by rw [List.length_take, Array.length_toList, hs, Nat.min_eq_left (Nat.mul_le_mul_right _ hn)], .inr ⟨g, cap, cur, rfl, rfl, hn, hc, ⟨by omega, fun _ => hs⟩, rfl⟩⟩
theorem SlO.form (h : SlO ex e size v n xs bs) (hn : 0 < n) : ∃ g cap cur, v = .slice (some ⟨g, 0, none⟩) n cap ∧ bs = [(g, .cells cur e)] ∧ n ≤ cap ∧ cap ≤ maxLen ∧ (cap * size ≤ cur.size ∧ (ex = true → cur.size = cap * size)) ∧ cur.toList.take (n * size) = xs := by
  rcases h.2 with ⟨_, h0, _⟩ | h
  · omega
  · exact h
theorem SlO.len (h : SlO ex e size v n xs bs) : xs.length = n * size := h.1
theorem SlO.slice (h : SlO ex e size v n xs bs) : ∃ A cap, v = .slice A n cap ∧ n ≤ cap ∧ cap ≤ maxLen := by
  rcases h.2 with ⟨rfl, rfl, _⟩ | ⟨g, cap, cur, rfl, _, h1, h2, _⟩
  · exact ⟨none, 0, rfl, Nat.le_refl _, by unfold maxLen; omega⟩
  · exact ⟨_, cap, rfl, h1, h2⟩
/-- the cell at an index -/
theorem SlO.cell (h : SlO ex e size v n xs bs) (hO : Own W (bs ++ m) w) {g cap : Nat} (hv : v = .slice (some ⟨g, 0, none⟩) n cap) {j : Nat} {u : Value} (hj : xs[j]? = some u) : w.cell? ⟨g, j, none⟩ = some u := by
  rcases h.2 with ⟨rfl, _, _⟩ | ⟨g', cap', cur, rfl, rfl, h1, h2, h3, h4⟩
  · cases hv
  · simp only [Value.slice.injEq, Option.some.injEq, Addr.mk.injEq, and_true, true_and] at hv
    obtain ⟨rfl, rfl⟩ := hv
    rw [hO.cell List.mem_cons_self]
    rw [← h4] at hj
    rw [List.getElem?_take] at hj
    split at hj
    · simpa using hj
    · cases hj
theorem SlO.src (h : SlO ex e size v n xs bs) (hO : Own W (bs ++ m) w) : Src w size v n xs := by
  refine ⟨h.1, ?_⟩
  rcases h.2 with ⟨rfl, rfl, _⟩ | ⟨g, cap, cur, rfl, h0, _⟩
  · exact .inl ⟨rfl, rfl⟩
  · refine .inr ⟨_, _, rfl, fun j u hj => ?_⟩
    rw [add_lit0]
    exact h.cell hO rfl hj
theorem SlO.free (h : SlO ex e size v n xs bs) (hO : Own W (bs ++ m) w) {g cap : Nat} (hv : v = .slice (some ⟨g, 0, none⟩) n cap) (j : Nat) : w.frozen? ⟨g, j, none⟩ = false := by
  rcases h.2 with ⟨rfl, _, _⟩ | ⟨g', cap', cur, rfl, rfl, _⟩
  · cases hv
  · simp only [Value.slice.injEq, Option.some.injEq, Addr.mk.injEq, and_true, true_and] at hv
    obtain ⟨rfl, rfl⟩ := hv
    exact hO.frozen List.mem_cons_self j
theorem SlO.lt (h : SlO ex e size v n xs bs) (hO : Own W (bs ++ m) w) {g cap : Nat} (hv : v = .slice (some ⟨g, 0, none⟩) n cap) : g < w.heap.size := by
  rcases h.2 with ⟨rfl, _, _⟩ | ⟨g', cap', cur, rfl, rfl, _⟩
  · cases hv
  · simp only [Value.slice.injEq, Option.some.injEq, Addr.mk.injEq, and_true, true_and] at hv
    obtain ⟨rfl, rfl⟩ := hv
    exact hO.lt List.mem_cons_self
/-- a cell is stored -/
theorem SlO.store (h : SlO ex e size v n xs bs) (hO : Own W (bs ++ m) w) {g cap : Nat} (hv : v = .slice (some ⟨g, 0, none⟩) n cap) {j : Nat} (_hj : j < n * size) (u : Value) :
    ∃ bs', SlO ex e size v n (xs.set j u) bs' ∧ Own W (bs' ++ m) (w.setCell ⟨g, j, none⟩ u) := by
  rcases h.2 with ⟨rfl, _, _⟩ | ⟨g', cap', cur, rfl, rfl, h1, h2, h3, h4⟩
  · cases hv
  · simp only [Value.slice.injEq, Option.some.injEq, Addr.mk.injEq, and_true, true_and] at hv
    obtain ⟨rfl, rfl⟩ := hv
    refine ⟨[(g', .cells (cur.setIfInBounds j u) e)], ⟨by rw [List.length_set]; exact h.1, .inr ⟨g', cap', _, rfl, rfl, h1, h2, by rw [Array.size_setIfInBounds]; exact h3, ?_⟩⟩, hO.set j u⟩
    rw [Array.toList_setIfInBounds, List.take_set, h4]
/-- shorter: the same block -/
theorem SlO.shorter (h : SlO ex e size v n xs bs) {g cap k : Nat} (hv : v = .slice (some ⟨g, 0, none⟩) n cap) (hk : k ≤ n) : SlO ex e size (.slice (some ⟨g, 0, none⟩) k cap) k (xs.take (k * size)) bs := by
  rcases h.2 with ⟨rfl, _, _⟩ | ⟨g', cap', cur, rfl, rfl, h1, h2, h3, h4⟩
  · cases hv
  · simp only [Value.slice.injEq, Option.some.injEq, Addr.mk.injEq, and_true, true_and] at hv
    obtain ⟨rfl, rfl⟩ := hv
    have hle : k * size ≤ n * size := Nat.mul_le_mul_right _ hk
    refine ⟨by rw [List.length_take, h.1]; omega, .inr ⟨g', cap', cur, rfl, rfl, by omega, h2, h3, ?_⟩⟩
    rw [← h4, List.take_take, Nat.min_eq_left hle]
/-- what may be appended to may be read and written -/
theorem SlO.weak (h : SlO ex e size v n xs bs) : SlO false e size v n xs bs := by
  refine ⟨h.1, ?_⟩
  rcases h.2 with h0 | ⟨g, cap, cur, hv, hb, h1, h2, h3, h4⟩
  · exact .inl h0
  · exact .inr ⟨g, cap, cur, hv, hb, h1, h2, ⟨h3.1, fun h => by cases h⟩, h4⟩
/-- shorter, and with less room ('s[:k:k]') -/
theorem SlO.cut (h : SlO ex e size v n xs bs) {g cap k : Nat} (hv : v = .slice (some ⟨g, 0, none⟩) n cap) (hk : k ≤ n) : SlO false e size (.slice (some ⟨g, 0, none⟩) k k) k (xs.take (k * size)) bs := by
  rcases h.2 with ⟨rfl, _, _⟩ | ⟨g', cap', cur, rfl, rfl, h1, h2, h3, h4⟩
  · cases hv
  · simp only [Value.slice.injEq, Option.some.injEq, Addr.mk.injEq, and_true, true_and] at hv
    obtain ⟨rfl, rfl⟩ := hv
    have hle : k * size ≤ n * size := Nat.mul_le_mul_right _ hk
    have hle2 : n * size ≤ cap' * size := Nat.mul_le_mul_right _ h1
    refine ⟨by rw [List.length_take, h.1]; omega, .inr ⟨g', k, cur, rfl, rfl, Nat.le_refl _, by omega, ⟨by omega, fun h => by cases h⟩, ?_⟩⟩
    rw [← h4, List.take_take, Nat.min_eq_left hle]
theorem Src.setCell (h : Src w size v n xs) {a : Addr} {u : Value} (ha : ∀ b c, v = .slice (some b) n c → b.block ≠ a.block) : Src (w.setCell a u) size v n xs := by
  refine ⟨h.1, ?_⟩
  rcases h.2 with h0 | ⟨b, c, hv, hc⟩
  · exact .inl h0
  · refine .inr ⟨b, c, hv, fun j x hj => ?_⟩
    rw [World.cell?_of_block (w := w) (Below.heap_setCell w a u _ (by rw [ChangeShapes.block_add]; exact ha b c hv))]
    exact hc j x hj
theorem Src.below (h : Src w size v n xs) {w' : World} (hb : Below w.heap.size w w') : Src w' size v n xs := by
  refine ⟨h.1, ?_⟩
  rcases h.2 with h0 | ⟨b, c, hv, hc⟩
  · exact .inl h0
  · refine .inr ⟨b, c, hv, fun j x hj => ?_⟩
    have := hc j x hj
    rw [hb.cell (World.block_lt_of_cell? w _ this)]
    exact this
theorem Src.ofOwn (h : Src W size v n xs) (hO : Own W m w) : Src w size v n xs := h.below hO.below

/-- APPEND onto a slice that the call owns: what it is then, and what is owned. -/
theorem run_app (t ty e : TypeId) (i : TypeInfo) (z : Value) (size bytes : Nat) (ht : P.underlying t = some (.slice e)) (hi : P.info? e = some i) (hz : i.zero = some z)
    (hsize : i.size = size) (hby : i.bytes = bytes) (hzs : z.cells.size = size) (hsz : 0 < size)
    (hs : SlOwn e size v n xs bs) (hO : Own W (bs ++ m) w) {x : Value} {k : Nat} {news : List Value} (hx : Src w size x k news) (h1 : ∀ u ∈ news, u.oneCell' = true)
    (h63 : n + k ≤ maxLen) (hbytes : (n + k) * bytes ≤ 140737488355328) :
    ∃ v' w' bs', (Builtin.append_ #[t, t] ty #[v, x]).run P w = .ok v' w' ∧ SlOwn e size v' (n + k) (xs ++ news) bs' ∧ Own W (bs' ++ m) w' ∧ (v' = .slice none 0 0 ↔ v = .slice none 0 0 ∧ k = 0) := by
  have hown : w.ownsRow W.heap.size e size v n xs := by
    refine ⟨hs.1, ?_⟩
    rcases hs.2 with ⟨h0, h1, _⟩ | ⟨g, cap, cur, hv, hb, ha, hc, hd, he⟩
    · exact .inl ⟨h0, h1⟩
    · subst hb
      exact .inr ⟨g, cap, cur, hv, hO.ge List.mem_cons_self, hO.get List.mem_cons_self, ha, hc, hd.2 rfl, he⟩
  rcases hx.2 with ⟨rfl, rfl⟩ | ⟨ad, c, rfl, hc⟩
  · have hn : news = [] := List.eq_nil_of_length_eq_zero (by simpa using hx.1)
    subst hn
    refine ⟨v, w, bs, ?_, by simpa using hs, hO, by simp⟩
    obtain ⟨A, cap, rfl, hle, _⟩ := SlO.slice hs
    cases A with
    | none => simp [Builtin.append_, run_underlying ht, sizeOf, typeInfo, hi, Builtin.lenOf, Builtin.firstCells, hle]
    | some a => simp [Builtin.append_, run_underlying ht, sizeOf, typeInfo, hi, Builtin.lenOf, Builtin.firstCells, hle, storeCells]
  · obtain ⟨v', w', hr, h2, h3, h4, h5⟩ := run_append_own_at (P := P) w W.heap.size t ty e i z size bytes ht hi hz hsize hby hzs hsz v n xs hown ad k c news hx.1 hc h1 h63 hbytes hO.size_le
    have hbel : Below W.heap.size W w' := hO.below.grown h3 hO.size_le (fun q hq => (hown.lt q hq).1)
    rcases h2.2 with ⟨hv', hn'⟩ | ⟨g, cap, cur, hv', hge, hg, ha, hb, hcs, htk⟩
    · subst hv'
      have hv0 := (h4.1 rfl).1
      subst hv0
      have hbs : bs = [] := by
        rcases hs.2 with ⟨_, _, h⟩ | ⟨g, cap, cur, hv, _⟩
        · exact h
        · cases hv
      subst hbs
      refine ⟨_, w', [], hr, ⟨h2.1, .inl ⟨rfl, hn', rfl⟩⟩, ⟨hbel, fun p hp => ⟨(hO.at_ p hp).1, ?_⟩, hO.nd⟩, h4⟩
      rw [h3.block p.1 (heap_lt (hO.at_ p hp).2) (by simp [Value.ownBlock])]
      exact (hO.at_ p hp).2
    · subst hv'
      refine ⟨_, w', [(g, .cells cur e)], hr, ⟨h2.1, .inr ⟨g, cap, cur, rfl, rfl, ha, hb, ⟨by omega, fun _ => hcs⟩, htk⟩⟩, ⟨hbel, fun p hp => ?_, ?_⟩, h4⟩
      · rcases List.mem_cons.1 hp with rfl | hp
        · exact ⟨hge, hg⟩
        · have hp' := hO.at_ p (List.mem_append_right _ hp)
          refine ⟨hp'.1, (h3.block p.1 (heap_lt hp'.2) (fun he => ?_)).trans hp'.2⟩
          rcases hs.2 with ⟨rfl, _, _⟩ | ⟨g0, cap0, cur0, rfl, rfl, _⟩
          · simp [Value.ownBlock] at he
          · simp only [Value.ownBlock, Option.some.injEq] at he
            exact Own.ne hO (b' := p.1) (o' := p.2) hp he
      · simp only [List.singleton_append, List.map_cons, List.nodup_cons]
        refine ⟨fun hin => ?_, (hO.dropL).nd⟩
        obtain ⟨p, hp, he⟩ := List.mem_map.1 hin
        have hp' := hO.at_ p (List.mem_append_right _ hp)
        rcases h5 with h5 | h5
        · rcases hs.2 with ⟨rfl, _, _⟩ | ⟨g0, cap0, cur0, rfl, rfl, _⟩
          · simp [Value.ownBlock] at h5
          · simp only [Value.ownBlock, Option.some.injEq] at h5
            exact Own.ne hO (b' := p.1) (o' := p.2) hp (by omega)
        · simp only [Value.ownBlock, Option.some.injEq] at h5
          have := heap_lt hp'.2
          omega
/-- .. at an operation of the walk: 'at_builtin; refine wpList_app rfl _ _ _ rfl rfl rfl ..' -/
theorem wpList_app {ops : Array Oper} {rest : List Oper} {o : Oper} {a : Act} {Q : Exit → Act → World → Prop} (hgd : o.guard = none) (s x : Operand) (t : TypeId)
    (ho : o.op = .call { callee := .builtin .append, args := #[s, x], argTypes := #[t, t] }) {v xv : Value} (hes : a.eval s = v) (hex : a.eval x = xv)
    (e : TypeId) (i : TypeInfo) (z : Value) (size bytes : Nat) (ht : P.underlying t = some (.slice e)) (hi : P.info? e = some i) (hz : i.zero = some z)
    (hsize : i.size = size) (hby : i.bytes = bytes) (hzs : z.cells.size = size) (hsz : 0 < size)
    (hs : SlOwn e size v n xs bs) (hO : Own W (bs ++ m) w) {k : Nat} {news : List Value} (hx : Src w size xv k news) (h1 : ∀ u ∈ news, u.oneCell' = true)
    (h63 : n + k ≤ maxLen) (hbytes : (n + k) * bytes ≤ 140737488355328)
    (h : ∀ v' w' bs', SlOwn e size v' (n + k) (xs ++ news) bs' → Own W (bs' ++ m) w' → (v' = .slice none 0 0 ↔ v = .slice none 0 0 ∧ k = 0) → wpList P ops Q rest (a.put o.dst v') w') :
    wpList P ops Q (o :: rest) a w := by
  obtain ⟨v', w', bs', hr, h2, h3, h4⟩ := run_app (P := P) t o.type e i z size bytes ht hi hz hsize hby hzs hsz hs hO hx h1 h63 hbytes
  refine wpList_plain hgd fun K hK => ?_
  unfold Oper.wp execOp
  simp only [ho, resolve, invoke, builtin, Sem.run_bind, Sem.run_pure, Result.andThen_ok, List.map_toArray, List.map_cons, List.map_nil, hes, hex, hr]
  exact hK _ _ (h v' w' bs' h2 h3 h4)
end
end Go.Proofs.YthjjpmoifgcepaaGreat

/-
  append at a step of a region that draws its order: for 'go_region_held3'. No condition but sizes.
-/
namespace Go.Proofs.YthjjpmoifgcepaaGreat
open Go.RowKit
section
variable {W w : World} {m : List (Nat × Obj)} {e size n : Nat} {v : Value} {xs : List Value} {bs : List (Nat × Obj)} {P : Program}
/-- '((with_reducible refine step_app (by rfl) _ _ _ (by rfl) (by rfl) (by rfl) ..); intro v' w' bs' k1 k2)' -/
theorem step_app {ops : Array Oper} {o : Oper} {a : Act} {K : Act → World → Prop} {Q : Exit → Act → World → Prop} {E : Prop} (hgd : o.guard = none) (s x : Operand) (t : TypeId)
    (ho : o.op = .call { callee := .builtin .append, args := #[s, x], argTypes := #[t, t] }) {v xv : Value} (hes : a.eval s = v) (hex : a.eval x = xv)
    (e : TypeId) (i : TypeInfo) (z : Value) (size bytes : Nat) (ht : P.underlying t = some (.slice e)) (hi : P.info? e = some i) (hz : i.zero = some z)
    (hsize : i.size = size) (hby : i.bytes = bytes) (hzs : z.cells.size = size) (hsz : 0 < size)
    (hs : SlOwn e size v n xs bs) (hO : Own W (bs ++ m) w) {k : Nat} {news : List Value} (hx : Src w size xv k news) (h1 : ∀ u ∈ news, u.oneCell' = true)
    (h63 : n + k ≤ maxLen) (hbytes : (n + k) * bytes ≤ 140737488355328)
    (h : ∀ v' w' bs', SlOwn e size v' (n + k) (xs ++ news) bs' → Own W (bs' ++ m) w' → K (a.put o.dst v') w') :
    if Region.wanted o (yielded ops a.tmps) = true then Oper.wp P o a w K Q else E := by
  have hw : Region.wanted o (yielded ops a.tmps) = true := by simp [Region.wanted, hgd]
  rw [if_pos hw]
  obtain ⟨v', w', bs', hr, h2, h3, h4⟩ := run_app (P := P) t o.type e i z size bytes ht hi hz hsize hby hzs hsz hs hO hx h1 h63 hbytes
  unfold Oper.wp execOp
  simp only [ho, resolve, invoke, builtin, Sem.run_bind, Sem.run_pure, Result.andThen_ok, List.map_toArray, List.map_cons, List.map_nil, hes, hex, hr]
  exact h v' w' bs' h2 h3
end
end Go.Proofs.YthjjpmoifgcepaaGreat

/-
  Slices of numbers: append, one number, numbers that the code writes down.
-/
namespace Go.Proofs.YthjjpmoifgcepaaGreat
open Go.RowKit

theorem int_info : (Tryz.prog.info? 3).map (fun i => (i.zero, i.size, i.bytes)) = some (some (.int .i64 0), 1, 8) := by kernel_rfl
/-- numbers as values -/
def ints (l : List Int) : List Value := l.map fun n => .int .i64 n
theorem ints_len (l : List Int) : (ints l).length = l.length := by simp [ints]
theorem ints_get {l : List Int} {i : Nat} {n : Int} (h : l[i]? = some n) : (ints l)[i]? = some (.int .i64 n) := by simp [ints, h]
theorem ints_one (l : List Int) : ∀ u ∈ ints l, u.oneCell' = true := by
  intro u hu
  obtain ⟨n, _, rfl⟩ := List.mem_map.1 hu
  rfl
theorem ints_append (a b : List Int) : ints a ++ ints b = ints (a ++ b) := by simp [ints]
theorem ints_take (l : List Int) (k : Nat) : (ints l).take k = ints (l.take k) := by simp [ints]
theorem ints_drop (l : List Int) (k : Nat) : (ints l).drop k = ints (l.drop k) := by simp [ints]
theorem ints_set (l : List Int) (k : Nat) (n : Int) : (ints l).set k (.int .i64 n) = ints (l.set k n) := by simp [ints]
/-- a slice of numbers that the call owns -/
abbrev IntsOwn (ex : Bool) (v : Value) (l : List Int) (bs : List (Nat × Obj)) : Prop := SlO ex 3 1 v l.length (ints l) bs
/-- a slice that reads as numbers -/
abbrev IntsSrc (w : World) (v : Value) (l : List Int) : Prop := Src w 1 v l.length (ints l)

section
variable {W w : World} {m bs : List (Nat × Obj)} {v x : Value} {l l' : List Int}

/-- append, of numbers: 'at_builtin; refine wpList_app_ints rfl _ _ rfl rfl rfl hs hO hx hlen ?_; intro v' w' bs' h1 h2 h3' -/
theorem wpList_app_ints {ops : Array Oper} {rest : List Oper} {o : Oper} {a : Act} {Q : Exit → Act → World → Prop} (hgd : o.guard = none) (s x : Operand)
    (ho : o.op = .call { callee := .builtin .append, args := #[s, x], argTypes := #[22, 22] }) {v xv : Value} (hes : a.eval s = v) (hex : a.eval x = xv)
    (hs : IntsOwn true v l bs) (hO : Own W (bs ++ m) w) (hx : IntsSrc w xv l') (hlen : l.length + l'.length ≤ 60000)
    (h : ∀ v' w' bs', IntsOwn true v' (l ++ l') bs' → Own W (bs' ++ m) w' → (v' = .slice none 0 0 ↔ v = .slice none 0 0 ∧ l' = []) → wpList Tryz.prog ops Q rest (a.put o.dst v') w') :
    wpList Tryz.prog ops Q (o :: rest) a w := by
  obtain ⟨i, hi, hz, hsz, hb⟩ := info_get int_info
  refine wpList_app hgd s x _ ho hes hex 3 i _ 1 8 Tryz.underlying22 hi hz hsz hb rfl (by omega) hs hO hx (ints_one l') (by unfold maxLen; omega) (by omega) fun v' w' bs' h1 h2 h3 => ?_
  rw [ints_append, ← List.length_append] at h1
  exact h v' w' bs' h1 h2 (by rw [h3, List.length_eq_zero_iff])

/-- one number, in a block of its own -/
theorem src_one (w : World) (p : Int) : IntsSrc (w.alloc (.cells #[.int .i64 p] 3)) (.slice (some ⟨w.heap.size, 0, none⟩) 1 1) [p] := by
  refine ⟨rfl, .inr ⟨_, _, rfl, fun j u hj => ?_⟩⟩
  rw [add_lit0]
  match j, hj with
  | 0, hj => simp [ints] at hj; subst hj; simp
  | j + 1, hj => simp [ints] at hj

end
/-- structs that the code writes down, in a block of their own -/
theorem src_lit (w : World) (e : TypeId) (size n : Nat) (l : List Int) (hl : l.length = n * size) :
    Src (w.alloc (.cells (ints l).toArray e)) size (.slice (some ⟨w.heap.size, 0, none⟩) n n) n (ints l) := by
  refine ⟨by simpa [ints] using hl, .inr ⟨_, _, rfl, fun j u hj => ?_⟩⟩
  rw [add_lit0]
  simp [hj]

end Go.Proofs.YthjjpmoifgcepaaGreat

/-
  append of numbers at a step of a region that draws its order. No condition but sizes.
-/
namespace Go.Proofs.YthjjpmoifgcepaaGreat
open Go.RowKit
section
variable {W w : World} {m bs : List (Nat × Obj)} {l l' : List Int}
theorem step_app_ints {ops : Array Oper} {o : Oper} {a : Act} {K : Act → World → Prop} {Q : Exit → Act → World → Prop} {E : Prop} (hgd : o.guard = none) (s x : Operand)
    (ho : o.op = .call { callee := .builtin .append, args := #[s, x], argTypes := #[22, 22] }) {v xv : Value} (hes : a.eval s = v) (hex : a.eval x = xv)
    (hs : IntsOwn true v l bs) (hO : Own W (bs ++ m) w) (hx : IntsSrc w xv l') (hlen : l.length + l'.length ≤ 60000)
    (h : ∀ v' w' bs', IntsOwn true v' (l ++ l') bs' → Own W (bs' ++ m) w' → K (a.put o.dst v') w') :
    if Region.wanted o (yielded ops a.tmps) = true then Oper.wp Tryz.prog o a w K Q else E := by
  obtain ⟨i, hi, hz, hsz, hb⟩ := info_get int_info
  refine step_app hgd s x _ ho hes hex 3 i _ 1 8 Tryz.underlying22 hi hz hsz hb rfl (by omega) hs hO hx (ints_one l') (by unfold maxLen; omega) (by omega) fun v' w' bs' h1 h2 => ?_
  rw [ints_append, ← List.length_append] at h1
  exact h v' w' bs' h1 h2
end
end Go.Proofs.YthjjpmoifgcepaaGreat

/-
  A runner of calls without inputs: it runs the model's code over memory whose blocks bear names. Here: what it computes. No condition.
-/
namespace Go.Proofs.YthjjpmoifgcepaaGreat.Ex
open Go
noncomputable section

/-- a table by number -/
inductive T (α : Type) where
  | e
  | n (l : T α) (v : Option α) (r : T α)
/-- where a number's value lies -/
inductive Ps where
  | x
  | h
  | o (p : Ps)
  | i (p : Ps)
/-- numbers below 2^20 - 1 are served -/
def top : Nat := 1048575
def toPs : Nat → Nat → Ps
  | 0, _ => .x
  | d + 1, k => match Nat.beq k 0 with
    | true => .h
    | false => match Nat.beq (Nat.mod k 2) 1 with
      | true => .i (toPs d (Nat.div k 2))
      | false => .o (toPs d (Nat.sub (Nat.div k 2) 1))
noncomputable def T.getP {α : Type} (p : Ps) : T α → Option α :=
  Ps.rec (motive := fun _ => T α → Option α) (fun _ => none)
    (fun t => T.rec (motive := fun _ => Option α) none (fun _ v _ _ _ => v) t)
    (fun _ ih t => T.rec (motive := fun _ => Option α) none (fun _ _ r _ _ => ih r) t)
    (fun _ ih t => T.rec (motive := fun _ => Option α) none (fun l _ _ _ _ => ih l) t) p
noncomputable def T.setP {α : Type} (x : Option α) (p : Ps) : T α → T α :=
  Ps.rec (motive := fun _ => T α → T α) (fun t => t)
    (fun t => T.rec (motive := fun _ => T α) (.n .e x .e) (fun l _ r _ _ => .n l x r) t)
    (fun _ ih t => T.rec (motive := fun _ => T α) (.n .e none (ih .e)) (fun l v r _ _ => .n l v (ih r)) t)
    (fun _ ih t => T.rec (motive := fun _ => T α) (.n (ih .e) none .e) (fun l v r _ _ => .n (ih l) v r) t) p
noncomputable def T.get {α : Type} (t : T α) (k : Nat) : Option α := T.getP (toPs 20 k) t
noncomputable def T.put {α : Type} (t : T α) (k : Nat) (x : Option α) : T α := T.setP x (toPs 20 k) t

/-- a number that is not known -/
inductive SO where
  | add
  | sub
  | mul
  | quo
  | rem
inductive SE where
  | var (i : Nat)
  | lit (n : Int)
  | bin (op : SO) (a b : SE)
  | ubin (op : SO) (a b : SE)
  | cv (k : IntKind) (a : SE)
  /-- the i-th list of records; one with a record's field turned; one with one more; a record; a field; a length -/
  | lvar (i : Nat)
  | lset (l e : SE) (j : Nat) (v : SE)
  | lsnoc (l r : SE)
  | rnil
  /-- so many records of zeros -/
  | rep (n : SE)
  | rcons (v r : SE)
  | at (l e : SE) (j : Nat)
  | len (l : SE)
/-- what a record's field is -/
inductive CK where
  | int (k : IntKind)
  | bool
def SO.beq : SO → SO → Bool
  | .add, .add => true
  | .sub, .sub => true
  | .mul, .mul => true
  | .quo, .quo => true
  | .rem, .rem => true
  | _, _ => false
def SE.beq : SE → SE → Bool
  | .var i, .var j => Nat.beq i j
  | .lit m, .lit n => m == n
  | .bin o a b, .bin o' a' b' => SO.beq o o' && (SE.beq a a' && SE.beq b b')
  | .ubin o a b, .ubin o' a' b' => SO.beq o o' && (SE.beq a a' && SE.beq b b')
  | .cv k a, .cv k' a' => decide (k = k') && SE.beq a a'
  | .lvar i, .lvar j => Nat.beq i j
  | .lset l e j v, .lset l' e' j' v' => (SE.beq l l' && SE.beq e e') && (Nat.beq j j' && SE.beq v v')
  | .lsnoc l r, .lsnoc l' r' => SE.beq l l' && SE.beq r r'
  | .rnil, .rnil => true
  | .rep a, .rep b => SE.beq a b
  | .rcons v r, .rcons v' r' => SE.beq v v' && SE.beq r r'
  | .at l e j, .at l' e' j' => SE.beq l l' && (SE.beq e e' && Nat.beq j j')
  | .len l, .len l' => SE.beq l l'
  | _, _ => false
def CK.beq : CK → CK → Bool
  | .int k, .int k' => decide (k = k')
  | .bool, .bool => true
  | _, _ => false
/-- a list's length -/
def lenE : SE → SE
  | .lset l _ _ _ => lenE l
  | l => .len l
/-- what may be known of numbers -/
inductive Cnd where
  | lt (a b : SE)
  | eq (a b : SE)
/-- what is known of them -/
class Fc where
  facts : List (Cnd × Bool)
  /-- package-level tables of numbers that nobody changes -/
  globs : List (Nat × List Int) := []
  /-- slices of numbers that nobody changes: of which kind -/
  rks : List (Nat × CK) := []
def findK (i : Nat) : List (Nat × CK) → Option CK
  | [] => none
  | (x, k) :: r => match Nat.beq x i with
    | true => some k
    | false => findK i r
def Fc.rk [Fc] (i : Nat) : Option CK := findK i Fc.rks
def findG (g : Nat) : List (Nat × List Int) → Option (List Int)
  | [] => none
  | (x, l) :: r => match Nat.beq x g with
    | true => some l
    | false => findG g r
def findLt (a b : SE) : List (Cnd × Bool) → Option Bool
  | [] => none
  | (.lt x y, r) :: l => match SE.beq x a && SE.beq y b with
    | true => some r
    | false => findLt a b l
  | _ :: l => findLt a b l
def findEq (a b : SE) : List (Cnd × Bool) → Option Bool
  | [] => none
  | (.eq x y, r) :: l => match SE.beq x a && SE.beq y b with
    | true => some r
    | false => findEq a b l
  | _ :: l => findEq a b l
/-- bounds of a number -/
def lowOf (e : SE) : List (Cnd × Bool) → Option Int
  | [] => none
  | (.lt x (.lit n), false) :: l => match SE.beq x e with
    | true => match lowOf e l with
      | none => some n
      | some m => some (if m < n then n else m)
    | false => lowOf e l
  | (.lt (.lit n) x, true) :: l => match SE.beq x e with
    | true => match lowOf e l with
      | none => some (n + 1)
      | some m => some (if m < n + 1 then n + 1 else m)
    | false => lowOf e l
  | (.eq x (.lit n), true) :: l => match SE.beq x e with
    | true => some n
    | false => lowOf e l
  | _ :: l => lowOf e l
def highOf (e : SE) : List (Cnd × Bool) → Option Int
  | [] => none
  | (.lt x (.lit n), true) :: l => match SE.beq x e with
    | true => match highOf e l with
      | none => some (n - 1)
      | some m => some (if n - 1 < m then n - 1 else m)
    | false => highOf e l
  | (.lt (.lit n) x, false) :: l => match SE.beq x e with
    | true => match highOf e l with
      | none => some n
      | some m => some (if n < m then n else m)
    | false => highOf e l
  | (.eq x (.lit n), true) :: l => match SE.beq x e with
    | true => some n
    | false => highOf e l
  | _ :: l => highOf e l
def inI64 (lo hi : Int) : Option (Int × Int) := match decide (-9223372036854775808 ≤ lo) && decide (hi ≤ 9223372036854775807) with
  | true => some (lo, hi)
  | false => none
def ivAt (fs : List (Cnd × Bool)) (e : SE) : Option (Int × Int) := match lowOf e fs with
    | none => none
    | some lo => match highOf e fs with
      | none => none
      | some hi => some (lo, hi)
def ivOf (fs : List (Cnd × Bool)) : SE → Option (Int × Int)
  | .lit n => some (n, n)
  | .var i => ivAt fs (.var i)
  | .at l e j => ivAt fs (.at l e j)
  | .len l => ivAt fs (.len l)
  | .bin o a b => match ivOf fs a with
    | none => none
    | some (la, ha) => match ivOf fs b with
      | none => none
      | some (lb, hb) => match o with
        | .add => inI64 (la + lb) (ha + hb)
        | .sub => inI64 (la - hb) (ha - lb)
        | .mul => match decide (0 ≤ la) && decide (0 ≤ lb) with
          | true => inI64 (la * lb) (ha * hb)
          | false => none
        | .quo => match decide (0 ≤ la) && decide (0 < lb) with
          | true => inI64 0 ha
          | false => none
        | .rem => match decide (0 ≤ la) && decide (0 < lb) with
          | true => inI64 0 (hb - 1)
          | false => none
  | .cv k a => match k with
    | .u64 => match ivOf fs a with
      | some (la, ha) => match decide (0 ≤ la) with
        | true => inI64 la ha
        | false => none
      | none => none
    | .i64 => match ivOf fs a with
      | some (la, ha) => inI64 la ha
      | none => none
    | _ => none
  | _ => none
section
variable [Fc]
def askLt (a b : SE) : Option Bool := match SE.beq a b with
  | true => some false
  | false => match findLt a b Fc.facts with
    | some r => some r
    | none => match ivOf Fc.facts a with
      | none => none
      | some (la, ha) => match ivOf Fc.facts b with
        | none => none
        | some (lb, hb) => match decide (ha < lb) with
          | true => some true
          | false => match decide (hb ≤ la) with
            | true => some false
            | false => none
def askEq (a b : SE) : Option Bool := match SE.beq a b with
  | true => some true
  | false => match findEq a b Fc.facts with
    | some r => some r
    | none => match ivOf Fc.facts a with
      | none => none
      | some (la, ha) => match ivOf Fc.facts b with
        | none => none
        | some (lb, hb) => match decide (ha < lb) || decide (hb < la) with
          | true => some false
          | false => none
def askC : Cnd → Option Bool
  | .lt a b => askLt a b
  | .eq a b => askEq a b
/-- a number that is known -/
def litOf (e : SE) : Option Int := match ivOf Fc.facts e with
  | some (lo, hi) => match lo == hi with
    | true => some lo
    | false => none
  | none => none
/-- an index of a list -/
def within (e n : SE) : Bool := match askLt e (.lit 0) with
  | some false => match askLt e n with
    | some true => true
    | _ => false
  | _ => false
end
/-- what is known of a slice's room -/
inductive Room where
  | whole
  | any
  | ex (c : Nat)
/-- a value over named blocks -/
inductive AV where
  | bool (b : Bool)
  | int (k : IntKind) (n : Int)
  | sym (k : IntKind) (e : SE)
  /-- a question's answer, or its contrary -/
  | bsym (c : Cnd) (p : Bool)
  | str (s : ByteArray)
  | nilp
  /-- the j-th cell of the e-th record of so many cells -/
  | eptr (n : Nat) (e : SE) (s j : Nat)
  /-- a slice of so many records of so many cells, and all of its block -/
  | dsl (n : Nat) (e : SE) (s : Nat)
  /-- so many records of it, from one on -/
  | ssl (n : Nat) (e : SE) (len s : Nat)
  /-- a slice of numbers that nobody changes; a place of it -/
  | rsl (i : Nat)
  | rptr (i : Nat) (e : SE)
  | ptr (n off : Nat)
  | gptr (g off : Nat)
  | nilsl
  | sl (n off len sz : Nat) (r : Room)
  | esl (n : Nat)
  /-- a slice of nothing, nil or not -/
  | zsl
  /-- a slice of which its length alone is known -/
  | osl (e : SE)
  | nilmap
  | map (n : Nat)
  | fn (f : Fn) (first cap : List AV)
  | nilfn
  | nilif
  | ifc (t : TypeId) (v : AV)
  | agg (l : List AV)
  | tup (l : List AV)

def AV.one : AV → Bool
  | .agg _ | .tup _ => false
  | _ => true
def AV.cells : AV → List AV
  | .agg l => l
  | v => [v]
def und : AV := .tup []

mutual
/-- a constant of the text -/
def ofV : Value → Option AV
  | .bool b => some (.bool b)
  | .int k n => some (.int k n)
  | .string s => some (.str s)
  | .pointer none => some .nilp
  | .slice none 0 0 => some .nilsl
  | .map none => some .nilmap
  | .nilFunc => some .nilfn
  | .nilIface => some .nilif
  | .agg cs => (ofA cs).map .agg
  | .tuple cs => (ofA cs).map .tup
  | _ => none
def ofA : Array Value → Option (List AV)
  | ⟨l⟩ => ofL l
def ofL : List Value → Option (List AV)
  | [] => some []
  | v :: l => match ofV v with
    | some x => match ofL l with
      | some xs => some (x :: xs)
      | none => none
    | none => none
end

/-- a block -/
inductive AO where
  | cells (cs : T AV) (k : Nat) (e : TypeId)
  /-- a map: its entries, when each was put in, its clock -/
  | map (es : List (AV × AV)) (bs : List Nat) (ck : Nat)
  /-- an iterator over a map, or over nil: since when, which entries were seen, when it stepped last -/
  | mit (m : Option Nat) (since : Nat) (seen : List Nat) (last : Nat)
  /-- one of which nothing is known but that it is the i-th -/
  | opq (i : Nat)
  /-- .., beside two other ones -/
  | opb (i n m : Nat)
  /-- records -/
  | recs (l : SE) (ks : List CK) (e : TypeId)
inductive AH where
  | mk (m : T AO) (next : Nat)
def AH.get : AH → Nat → Option AO
  | .mk m _, k => m.get k
def AH.next : AH → Nat
  | .mk _ n => n
def AH.put : AH → Nat → Option AO → AH
  | .mk m n, k, o => .mk (m.put k o) n
def AH.skip : AH → Nat → AH
  | .mk m n, k => .mk m (Nat.add n k)

def ev (env : T AV) : Operand → Option AV
  | .tmp t => env.get t
  | .const v => ofV v
  | .func f => some (.fn (.func f) [] [])
  | .global g => some (.gptr g 0)
def evs (env : T AV) : List Operand → Option (List AV)
  | [] => some []
  | o :: l => match ev env o with
    | some v => match evs env l with
      | some vs => some (v :: vs)
      | none => none
    | none => none

section
variable [Fc] (P : Program)
def toSE : AV → Option (IntKind × SE)
  | .int k n => some (k, .lit n)
  | .sym k e => some (k, e)
  | _ => none
def aggT (t : TypeId) : Option Bool := match P.underlying t with
  | some (.struct _) | some (.array _ _) => some true
  | some _ => some false
  | none => none
def sizeT (t : TypeId) : Option Nat := match P.info? t with
  | some i => some i.size
  | none => none
def zeroT (t : TypeId) : Option AV := match P.info? t with
  | some i => match i.zero with
    | some v => ofV v
    | none => none
  | none => none

/-- cells from an offset on -/
def getN (cs : T AV) : Nat → Nat → Option (List AV)
  | _, 0 => some []
  | i, n + 1 => match cs.get i with
    | some v => match getN cs (Nat.add i 1) n with
      | some l => some (v :: l)
      | none => none
    | none => none
def setN (cs : T AV) : Nat → List AV → T AV
  | _, [] => cs
  | i, v :: l => setN (cs.put i (some v)) (Nat.add i 1) l
def mkCells (l : List AV) : T AV := setN .e 0 l
def allOne : List AV → Bool
  | [] => true
  | v :: l => match v.one with
    | true => allOne l
    | false => false
def rep : Nat → List AV → List AV
  | 0, _ => []
  | n + 1, z => z ++ rep n z

def part (t : TypeId) (cs : List AV) (off : Nat) : Option AV := match aggT P t with
  | some true => match sizeT P t with
    | some s => some (.agg ((cs.drop off).take s))
    | none => none
  | some false => cs[off]?
  | none => none

/-- parts laid into cells -/
def afill (place : Nat → Option (Nat × Nat)) (cells : List AV) : List (Nat × AV) → Option (List AV)
  | [] => some cells
  | (i, v) :: rest => match place i with
    | none => none
    | some (off, size) =>
      match Nat.beq v.cells.length size with
      | false => none
      | true => match Nat.ble (Nat.add off size) cells.length with
        | false => none
        | true => afill place (cells.take off ++ (v.cells ++ cells.drop (Nat.add off size))) rest
def zipParts : List (Nat × Operand) → List AV → Option (List (Nat × AV))
  | [], [] => some []
  | (i, _) :: l, v :: vs => match zipParts l vs with
    | some r => some ((i, v) :: r)
    | none => none
  | _, _ => none

def abin (op : BinOp) (k : IntKind) (x y : Int) : Option AV := match op with
  | .add => some (.int k (k.wrap (x + y)))
  | .sub => some (.int k (k.wrap (x - y)))
  | .mul => some (.int k (k.wrap (x * y)))
  | .quo => match decide (y = 0) with
    | true => none
    | false => some (.int k (k.wrap (x.tdiv y)))
  | .rem => match decide (y = 0) with
    | true => none
    | false => some (.int k (x.tmod y))
  | .and => some (.int k (k.wrap (BitVec.ofInt k.bits x &&& BitVec.ofInt k.bits y).toNat))
  | .or => some (.int k (k.wrap (BitVec.ofInt k.bits x ||| BitVec.ofInt k.bits y).toNat))
  | .xor => some (.int k (k.wrap (BitVec.ofInt k.bits x ^^^ BitVec.ofInt k.bits y).toNat))
  | .andNot => some (.int k (k.wrap (BitVec.ofInt k.bits x &&& ~~~(BitVec.ofInt k.bits y)).toNat))
  | .eql => some (.bool (x == y))
  | .neq => some (.bool (x != y))
  | .lss => some (.bool (x < y))
  | .leq => some (.bool (x ≤ y))
  | .gtr => some (.bool (x > y))
  | .geq => some (.bool (x ≥ y))
  | _ => none
def ashift (op : BinOp) (k : IntKind) (x y : Int) : Option AV := match decide (y < 0) with
  | true => none
  | false => match op with
    | .shl => some (.int k (k.wrap (x * 2 ^ (min y.toNat k.bits))))
    | .shr => some (.int k (x.fdiv (2 ^ (min y.toNat k.bits))))
    | _ => none

/-- a bool that is known -/
def boolOf : AV → Option Bool
  | .bool b => some b
  | .bsym c p => match askC c with
    | some q => some (q == p)
    | none => none
  | _ => none
/-- == of the fields of structs -/
def aeqF (rec : TypeId → AV → AV → Option Bool) (a b : List AV) : List Field → Option Bool
  | [] => some true
  | f :: fs => match f.name == "_" with
    | true => none
    | false => match part P f.type a f.offset with
      | none => none
      | some u => match part P f.type b f.offset with
        | none => none
        | some v => match rec f.type u v with
          | none => none
          | some false => some false
          | some true => aeqF rec a b fs
/-- == -/
def aeq : Nat → TypeId → AV → AV → Option Bool
  | 0, _, _, _ => none
  | d + 1, t, x, y => match P.underlying t with
    | some .bool => match x, y with
      | .bool a, .bool b => some (a == b)
      | x, y => match boolOf x with
        | none => none
        | some a => match boolOf y with
          | none => none
          | some b => some (a == b)
    | some (.int _) => match x, y with
      | .int k a, .int k' b => match decide (k = k') with
        | true => some (a == b)
        | false => none
      | x, y => match toSE x, toSE y with
        | some (k, a), some (k', b) => match decide (k = k') with
          | true => askEq a b
          | false => none
        | _, _ => none
    | some (.pointer _) => match x, y with
      | .nilp, .nilp => some true
      | .nilp, .ptr _ _ => some false
      | .ptr _ _, .nilp => some false
      | .eptr .., .nilp => some false
      | _, _ => none
    | some (.slice _) => match x, y with
      | .nilsl, .nilsl => some true
      | .nilsl, .sl .. => some false
      | .sl .., .nilsl => some false
      | .nilsl, .esl _ => some false
      | .esl _, .nilsl => some false
      | .dsl .., .nilsl => some false
      | .ssl .., .nilsl => some false
      | _, _ => none
    | some (.map _ _) => match x, y with
      | .nilmap, .nilmap => some true
      | .nilmap, .map _ => some false
      | .map _, .nilmap => some false
      | _, _ => none
    | some (.func _ _ _) => match x, y with
      | .nilfn, .nilfn => some true
      | .nilfn, .fn .. => some false
      | .fn .., .nilfn => some false
      | _, _ => none
    | some (.struct fs) => match x, y with
      | .agg a, .agg b => match P.stoodInHeld t with
        | true => none
        | false => aeqF P (aeq d) a b fs.toList
      | _, _ => none
    | _ => none
/-- the two operands of a test: the model's guard lets it pass -/
def guardOk (t : TypeId) : AV → AV → Bool
  | .agg _, .agg _ => match P.eqGuardType P.depth t with
    | true => false
    | false => true
  | .nilif, .nilif => false
  | _, _ => true
/-- of numbers of which one is not known -/
def symOp (op : BinOp) (x y : AV) : Option AV := match toSE x with
  | none => none
  | some (k, a) => match toSE y with
    | none => none
    | some (k', b) => match decide (k = k') with
      | false => none
      | true => match op with
        | .add => match decide (k = .i64) with
          | true => some (.sym k (.bin .add a b))
          | false => match decide (k = .u64) with
            | true => some (.sym k (.ubin .add a b))
            | false => none
        | .sub => match decide (k = .i64) with
          | true => some (.sym k (.bin .sub a b))
          | false => match decide (k = .u64) with
            | true => some (.sym k (.ubin .sub a b))
            | false => none
        | .mul => match decide (k = .i64) with
          | true => some (.sym k (.bin .mul a b))
          | false => match decide (k = .u64) with
            | true => some (.sym k (.ubin .mul a b))
            | false => none
        | .quo => match decide (k = .i64) with
          | true => match askEq b (.lit 0) with
            | some false => some (.sym k (.bin .quo a b))
            | _ => none
          | false => none
        | .rem => match decide (k = .i64) with
          | true => match askEq b (.lit 0) with
            | some false => some (.sym k (.bin .rem a b))
            | _ => none
          | false => none
        | .eql => match askEq a b with
          | some r => some (.bool r)
          | none => none
        | .neq => match askEq a b with
          | some r => some (.bool (!r))
          | none => none
        | .lss => match askLt a b with
          | some r => some (.bool r)
          | none => none
        | .geq => match askLt a b with
          | some r => some (.bool (!r))
          | none => none
        | .gtr => match askLt b a with
          | some r => some (.bool r)
          | none => none
        | .leq => match askLt b a with
          | some r => some (.bool (!r))
          | none => none
        | _ => none
def abinop (op : BinOp) (t : TypeId) (x y : AV) : Option AV := match x, y with
  | .int k a, .int k' b => match op with
    | .shl => ashift .shl k a b
    | .shr => ashift .shr k a b
    | op => match decide (k = k') with
      | true => abin op k a b
      | false => none
  | .sym k a, y => symOp op (.sym k a) y
  | x, .sym k b => symOp op x (.sym k b)
  | .str _, _ => none
  | _, .str _ => none
  | x, y => match guardOk P t x y with
    | false => none
    | true => match op with
      | .eql => match aeq P 40 t x y with
        | some b => some (.bool b)
        | none => none
      | .neq => match aeq P 40 t x y with
        | some b => some (.bool (!b))
        | none => none
      | _ => none
def aun (op : UnOp) (x : AV) : Option AV := match op, x with
  | .neg, .int k n => some (.int k (k.wrap (0 - n)))
  | .xor, .int k n => some (.int k (k.wrap (BitVec.ofInt k.bits (if k.signed then -1 else k.max) ^^^ BitVec.ofInt k.bits n).toNat))
  | .not, .bool b => some (.bool (!b))
  | .not, .bsym c p => some (.bsym c (!p))
  | _, _ => none
def placesT : List Field → Option (List (Nat × Nat))
  | [] => some []
  | f :: fs => match sizeT P f.type with
    | some s => match placesT fs with
      | some r => some ((f.offset, s) :: r)
      | none => none
    | none => none
def inRange (i : Int) (len : Nat) : Option Nat := match i with
  | .ofNat k => match Nat.blt k len with
    | true => some k
    | false => none
  | .negSucc _ => none
/-- a bound of a slice expression: at most 'y' -/
def bnd (d : Nat) (y : Nat) : Option AV → Option Nat
  | none => some d
  | some (.int _ (.ofNat k)) => match Nat.ble k y with
    | true => some k
    | false => none
  | some _ => none
/-- so many on -/
def offAt (off : SE) : Nat → SE
  | 0 => off
  | k + 1 => match off with
    | .lit n => .lit (Int.add n (Int.ofNat (k + 1)))
    | off => .bin .add off (.lit (Int.ofNat (k + 1)))
/-- from where, and how many: two bounds of which the second one is some more than the first one -/
def spanOf (x y : SE) : Option (SE × Nat) := match x, y with
  | .lit a, .lit b => match b - a with
    | .ofNat k => some (.lit a, k)
    | _ => none
  | x, .bin .add x' (.lit (.ofNat k)) => match SE.beq x x' with
    | true => some (x, k)
    | false => none
  | _, _ => none
def asliceOf (e : TypeId) (x : AV) (lo hi mx : Option AV) : Option AV := match x with
  | .nilsl => match bnd 0 0 mx with
    | some _ => match bnd 0 0 hi with
      | some _ => match bnd 0 0 lo with
        | some _ => match hi, mx with
          | none, some _ => none
          | _, _ => match sizeT P e with
            | some _ => some .nilsl
            | none => none
        | none => none
      | none => none
    | none => none
  | .sl n off len sz r => match sizeT P e with
    | none => none
    | some s => match Nat.beq s sz with
      | false => none
      | true => match mx with
        | none => match bnd len len hi with
          | none => none
          | some h => match bnd 0 h lo with
            | none => none
            | some l => match Nat.beq l 0 with
              | true => some (.sl n off h sz r)
              | false => match Nat.blt l h with
                | true => some (.sl n (Nat.add off (Nat.mul l sz)) (Nat.sub h l) sz .any)
                | false => some (.esl n)
        | some _ => match hi with
          | none => none
          | some _ => match bnd 0 len mx with
            | none => none
            | some m => match bnd 0 m hi with
              | none => none
              | some h => match bnd 0 h lo with
                | none => none
                | some l => match Nat.beq l 0 with
                  | true => some (.sl n off h sz (.ex m))
                  | false => none
  | .dsl n len sz => match sizeT P e with
    | none => none
    | some s => match Nat.beq s sz && Nat.blt 0 s with
      | false => none
      | true => match lo, hi, mx with
        | some a, some b, none => match toSE a with
          | none => none
          | some (_, x) => match toSE b with
            | none => none
            | some (_, y) => match spanOf x y with
              | none => none
              | some (x', k) => match askLt x' (.lit 0) with
                | some false => match askLt x' (.lit 1000000000) with
                  | some true => match Nat.blt 0 k && Nat.blt k 1000000000 with
                    | false => none
                    | true => match askLt len (.bin .add x' (.lit (Int.ofNat k))) with
                      | some false => some (.ssl n x' k sz)
                      | _ => match within (offAt x' (Nat.sub k 1)) len with
                        | true => some (.ssl n x' k sz)
                        | false => none
                  | _ => none
                | _ => none
        | _, _, _ => none
  | _ => none
def asCells (e : TypeId) (cs : List AV) (len : Nat) (i : Int) : Option AV := match inRange i len with
  | some k => match sizeT P e with
    | some s => part P e cs (Nat.mul k s)
    | none => none
  | none => none
def aint2 (mx : Bool) : AV → AV → Option AV
  | .int k x, .int _ y => match mx with
    | true => some (.int k (if y > x then y else x))
    | false => some (.int k (if y < x then y else x))
  | x, y => match toSE x with
    | none => none
    | some (k, a) => match toSE y with
      | none => none
      | some (k', b) => match decide (k = k') with
        | false => none
        | true => match mx with
          | true => match askLt a b with
            | some true => some y
            | some false => some x
            | none => none
          | false => none
def afoldInt (mx : Bool) : AV → List AV → Option AV
  | v, [] => some v
  | v, w :: l => match aint2 mx v w with
    | some u => afoldInt mx u l
    | none => none

/-- a place of a slice, or an array, where the index is not known -/
def aindex (t : TypeId) (x : AV) (e : SE) : Option AV := match x with
  | .dsl n len z => match P.underlying t with
    | some (.slice el) => match sizeT P el with
      | some s => match Nat.beq s z with
        | true => match within e len with
          | true => some (.eptr n e z 0)
          | false => none
        | false => none
      | none => none
    | _ => none
  | .sl n off len z _ => match P.underlying t with
    | some (.slice el) => match sizeT P el with
      | some s => match Nat.beq s z && Nat.beq off 0 with
        | true => match within e (.lit (Int.ofNat len)) with
          | true => some (.eptr n e z 0)
          | false => none
        | false => none
      | none => none
    | _ => none
  | .ptr n off => match P.underlying t with
    | some (.array len el) => match sizeT P el with
      | some s => match Nat.beq off 0 with
        | true => match within e (.lit (Int.ofNat len)) with
          | true => some (.eptr n e s 0)
          | false => none
        | false => none
      | none => none
    | _ => none
  | .rsl i => match P.underlying t with
    | some (.slice el) => match sizeT P el with
      | some s => match Nat.beq s 1 with
        | true => match within e (.len (.lvar i)) with
          | true => some (.rptr i e)
          | false => none
        | false => none
      | none => none
    | _ => none
  | _ => none
/-- a bool, as a number; a value, as one of a kind -/
def toCK (k : CK) (v : AV) : Option SE := match k with
  | .int k => match toSE v with
    | some (k', e) => match decide (k = k') with
      | true => some e
      | false => none
    | none => none
  | .bool => match v with
    | .bool b => some (.lit (if b then 1 else 0))
    | .bsym c p => match askC c with
      | some b => some (.lit (if b == p then 1 else 0))
      | none => none
    | _ => none
def ofCK (k : CK) (e : SE) : AV := match k with
  | .int k => .sym k e
  | .bool => .bsym (.eq e (.lit 0)) false
/-- a cell of a record, behind what was changed since -/
def atE (e : SE) (j : Nat) : SE → SE
  | .lset l x k v => match Nat.beq j k with
    | false => atE e j l
    | true => match askEq e x with
      | some true => v
      | some false => match askLt x (.lit 0) with
        | some false => atE e j l
        | _ => .at (.lset l x k v) e j
      | none => .at (.lset l x k v) e j
  | .rep _ => .lit 0
  | l => .at l e j
/-- fields of a record -/
def recGet (l e : SE) (ks : List CK) : Nat → Nat → Option (List AV)
  | _, 0 => some []
  | j, n + 1 => match ks[j]? with
    | some k => match recGet l e ks (Nat.add j 1) n with
      | some r => some (ofCK k (atE e j l) :: r)
      | none => none
    | none => none
def recSet (l e : SE) (ks : List CK) : Nat → List AV → Option SE
  | _, [] => some l
  | j, v :: vs => match ks[j]? with
    | some k => match toCK k v with
      | some x => recSet (.lset l e j x) e ks (Nat.add j 1) vs
      | none => none
    | none => none
def recOf : List CK → List AV → Option SE
  | [], [] => some .rnil
  | k :: ks, v :: vs => match toCK k v with
    | some x => match recOf ks vs with
      | some r => some (.rcons x r)
      | none => none
    | none => none
  | _, _ => none
/-- which record, and which cell of it, lies where -/
def recAt (ks : List CK) (off : Nat) : Nat × Nat := (Nat.div off ks.length, Nat.mod off ks.length)
def recLoad (agg : Bool) (s : Nat) (l e : SE) (ks : List CK) (j : Nat) : Option AV := match within e (lenE l) with
  | false => none
  | true => match agg with
    | true => match recGet l e ks j s with
      | some r => some (.agg r)
      | none => none
    | false => match ks[j]? with
      | some k => some (ofCK k (atE e j l))
      | none => none
/-- an operation that looks at no memory -/
def apure (op : Op) (vs : List AV) : Option AV := match op with
  | .move _ => match vs with
    | [v] => some v
    | _ => none
  | .assign _ => match vs with
    | [v] => some v
    | _ => none
  | .pick _ _ _ => match vs with
    | [.bool true, a, _] => some a
    | [.bool false, _, b] => some b
    | [.bsym c p, a, b] => match askC c with
      | some q => match q == p with
        | true => some a
        | false => some b
      | none => none
    | _ => none
  | .build t parts => match zipParts parts.toList vs with
    | none => none
    | some ps => match zeroT P t with
      | none => none
      | some z => match P.underlying t with
        | some (.struct fs) => match placesT P fs.toList with
          | none => none
          | some pl => match afill (fun i => pl[i]?) z.cells ps with
            | some l => some (.agg l)
            | none => none
        | some (.array _ e) => match sizeT P e with
          | none => none
          | some s => match afill (fun i => some (Nat.mul i s, s)) z.cells ps with
            | some l => some (.agg l)
            | none => none
        | _ => none
  | .nilCheck _ => match vs with
    | [.ptr n o] => some (.ptr n o)
    | [.fn (.func f) a b] => some (.fn (.func f) a b)
    | _ => none
  | .binOp op t _ _ _ => match vs with
    | [x, y] => abinop P op t x y
    | _ => none
  | .unOp op _ _ => match vs with
    | [x] => aun op x
    | _ => none
  | .convert src dst _ => match vs with
    | [.int _ n] => match P.underlying src with
      | none => none
      | some _ => match P.underlying dst with
        | some (.int k) => some (.int k (k.wrap n))
        | _ => none
    | [.sym _ e] => match P.underlying src with
      | none => none
      | some _ => match P.underlying dst with
        | some (.int k) => some (.sym k (.cv k e))
        | _ => none
    | _ => none
  | .makeFunc fn first _ => some (.fn fn (vs.take first.size) (vs.drop first.size))
  | .slice t _ lo hi mx => match P.underlying t with
    | some (.slice e) => match vs, lo, hi, mx with
      | [x], none, none, none => asliceOf P e x none none none
      | [x, a], some _, none, none => asliceOf P e x (some a) none none
      | [x, a], none, some _, none => asliceOf P e x none (some a) none
      | [x, a, b], some _, some _, none => asliceOf P e x (some a) (some b) none
      | [x, a, b], none, some _, some _ => asliceOf P e x none (some a) (some b)
      | [x, a, b, c], some _, some _, some _ => asliceOf P e x (some a) (some b) (some c)
      | _, _, _, _ => none
    | _ => none
  | .fieldAddr s _ f => match vs with
    | [.ptr n off] => match P.underlying s with
      | some (.struct fs) => match fs[f]? with
        | some fd => match sizeT P fd.type with
          | some (_ + 1) => some (.ptr n (Nat.add off fd.offset))
          | _ => none
        | none => none
      | _ => none
    | [.eptr n e z j] => match P.underlying s with
      | some (.struct fs) => match fs[f]? with
        | some fd => match sizeT P fd.type with
          | some (_ + 1) => some (.eptr n e z (Nat.add j fd.offset))
          | _ => none
        | none => none
      | _ => none
    | _ => none
  | .field t _ f => match vs with
    | [.agg cs] => match P.underlying t with
      | some (.struct fs) => match fs[f]? with
        | some fd => part P fd.type cs fd.offset
        | none => none
      | _ => none
    | _ => none
  | .indexAddr t _ _ => match vs with
    | [.sl n off len sz _, .int _ i] => match P.underlying t with
      | some (.slice e) => match inRange i len with
        | some k => match sizeT P e with
          | some s => match Nat.beq s sz with
            | true => some (.ptr n (Nat.add off (Nat.mul k s)))
            | false => none
          | none => none
        | none => none
      | _ => none
    | [.ptr n off, .int _ i] => match P.underlying t with
      | some (.array len e) => match inRange i len with
        | some k => match sizeT P e with
          | some s => some (.ptr n (Nat.add off (Nat.mul k s)))
          | none => none
        | none => none
      | _ => none
    | [.gptr n off, .int _ i] => match P.underlying t with
      | some (.array len e) => match inRange i len with
        | some k => match sizeT P e with
          | some s => some (.gptr n (Nat.add off (Nat.mul k s)))
          | none => none
        | none => none
      | _ => none
    | [.ssl n off len z, .int _ i] => match P.underlying t with
      | some (.slice el) => match inRange i len with
        | some k => match sizeT P el with
          | some s => match Nat.beq s z with
            | true => some (.eptr n (offAt off k) z 0)
            | false => none
          | none => none
        | none => none
      | _ => none
    | [.sl n off len sz r, .sym _ e] => match litOf e with
      | none => aindex P t (.sl n off len sz r) e
      | some i => match P.underlying t with
        | some (.slice el) => match inRange i len with
          | some k => match sizeT P el with
            | some s => match Nat.beq s sz with
              | true => some (.ptr n (Nat.add off (Nat.mul k s)))
              | false => none
            | none => none
          | none => none
        | _ => none
    | [.ptr n off, .sym _ e] => match litOf e with
      | none => aindex P t (.ptr n off) e
      | some i => match P.underlying t with
        | some (.array len el) => match inRange i len with
          | some k => match sizeT P el with
            | some s => some (.ptr n (Nat.add off (Nat.mul k s)))
            | none => none
          | none => none
        | _ => none
    | [.gptr n off, .sym _ e] => match litOf e with
      | none => none
      | some i => match P.underlying t with
        | some (.array len el) => match inRange i len with
          | some k => match sizeT P el with
            | some s => some (.gptr n (Nat.add off (Nat.mul k s)))
            | none => none
          | none => none
        | _ => none
    | [x, y] => match toSE y with
      | none => none
      | some (_, e) => aindex P t x e
    | _ => none
  | .index t _ _ => match vs with
    | [.agg cs, .int _ i] => match P.underlying t with
      | some (.array len e) => asCells P e cs len i
      | _ => none
    | _ => none
  | .extract _ i => match vs with
    | [.tup l] => l[i]?
    | _ => none
  | .makeInterface t _ => match vs with
    | [v] => match P.underlying t with
      | some (.interface _) => none
      | some _ => some (.ifc t v)
      | none => none
    | _ => none
  | .call c => match c.callee with
    | .builtin .max => match vs with
      | v :: l => afoldInt true v l
      | _ => none
    | .builtin .min => match vs with
      | v :: l => afoldInt false v l
      | _ => none
    | _ => none
  | _ => none

/-- where a key lies, and what lies there -/
def lookE (k : IntKind) (e : SE) : List (AV × AV) → Option (Option (Nat × AV))
  | [] => some none
  | (x, v) :: es => match toSE x with
    | none => none
    | some (k', e') => match decide (k = k') with
      | false => none
      | true => match askEq e e' with
        | some true => some (some (0, v))
        | some false => match lookE k e es with
          | some (some (n, u)) => some (some (Nat.add n 1, u))
          | r => r
        | none => none
def lookAV (es : List (AV × AV)) (y : AV) : Option (Option (Nat × AV)) := match toSE y with
  | some (k, e) => lookE k e es
  | none => none
/-- a value without unknown numbers -/
def litV1 : AV → Option Value
  | .bool b => some (.bool b)
  | .int k n => some (.int k n)
  | _ => none
def litVs : List AV → Option (List Value)
  | [] => some []
  | v :: l => match litV1 v with
    | some x => match litVs l with
      | some xs => some (x :: xs)
      | none => none
    | none => none
def litV : AV → Option Value
  | .agg l => match litVs l with
    | some vs => some (.agg vs.toArray)
    | none => none
  | _ => none
/-- a key that is a struct of numbers -/
def keyA (kt : TypeId) (y : AV) : Bool := match litV y with
  | some v => P.keyTypeAt 20 kt && (v.formed P kt && (P.keyLits 20 kt v.cells.toList).isSome)
  | none => false
def lookA (beq : AV → AV → Bool) (kt : TypeId) (y : AV) : List (AV × AV) → Option (Option (Nat × AV))
  | [] => some none
  | (x, v) :: es => match aeq P 40 kt y x with
    | some true => match beq y x with
      | true => some (some (0, v))
      | false => none
    | some false => match lookA beq kt y es with
      | some (some (n, u)) => some (some (Nat.add n 1, u))
      | r => r
    | none => none
def litEq (y x : AV) : Bool := match y, x with
  | .agg a, .agg b => go a b
  | _, _ => false
where
  go : List AV → List AV → Bool
  | [], [] => true
  | .int k n :: a, .int k' n' :: b => decide (k = k') && (n == n' && go a b)
  | _, _ => false
/-- where a key lies, and what lies there, by the key's type -/
def lookM (kt : TypeId) (es : List (AV × AV)) (y : AV) : Option (Option (Nat × AV)) := match P.underlying kt with
  | some (.int _) => lookAV es y
  | some (.struct _) => match keyA P kt y with
    | true => lookA P litEq kt y es
    | false => none
  | _ => none
/-- entries that an iterator has not seen -/
def leftOf : List (AV × AV) → List Nat → List Nat → List (AV × AV × Nat)
  | (k, v) :: es, b :: bs, seen => match seen.contains b with
    | true => leftOf es bs seen
    | false => (k, v, b) :: leftOf es bs seen
  | _, _, _ => []
/-- the entry that an iterator stepped to -/
def lastOf : List Nat → Option Nat
  | [] => none
  | b :: l => match lastOf l with
    | some c => some c
    | none => some b
def atStamp (b : Nat) : List (AV × AV) → List Nat → Option (AV × AV)
  | p :: es, c :: bs => match Nat.beq c b with
    | true => some p
    | false => atStamp b es bs
  | _, _ => none
/-- not all that an iterator saw are gone -/
def okNext (bs seen : List Nat) (last : Nat) : Bool := seen.isEmpty || (bs.isEmpty || bs.any fun b => Nat.blt b last)
/-- an operation that reads memory -/
def aread (op : Op) (vs : List AV) (h : AH) : Option AV := match op with
  | .load t _ => match vs with
    | [.ptr n off] => match h.get n with
      | some (.cells cs _ _) => match aggT P t with
        | some true => match sizeT P t with
          | some s => match getN cs off s with
            | some l => some (.agg l)
            | none => none
          | none => none
        | some false => cs.get off
        | none => none
      | some (.recs l ks _) => match aggT P t with
        | some b => match sizeT P t with
          | some s => match Nat.blt 0 ks.length with
            | true => recLoad b s l (.lit (Int.ofNat (recAt ks off).1)) ks (recAt ks off).2
            | false => none
          | none => none
        | none => none
      | _ => none
    | [.eptr n e z j] => match h.get n with
      | some (.recs l ks _) => match Nat.beq z ks.length with
        | true => match aggT P t with
          | some b => match sizeT P t with
            | some s => recLoad b s l e ks j
            | none => none
          | none => none
        | false => none
      | _ => none
    | [.rptr i e] => match aggT P t with
      | some false => match Fc.rk i with
        | some k => some (ofCK k (.at (.lvar i) e 0))
        | none => none
      | _ => none
    | [.gptr g off] => match findG g Fc.globs with
      | some l => match aggT P t with
        | some false => match l[off]? with
          | some c => some (.int .i64 c)
          | none => none
        | _ => none
      | none => none
    | _ => none
  | .entry _ => match vs with
    | [.ptr n 0] => match h.get n with
      | some (.mit (some m) _ seen last) => match h.get m with
        | some (.map es bs ck) => match Nat.beq ck last with
          | true => match lastOf seen with
            | some b => match atStamp b es bs with
              | some (k, v) => some (.tup [k, v])
              | none => none
            | none => none
          | false => none
        | _ => none
      | _ => none
    | _ => none
  | .lookup t _ _ ok => match P.underlying t with
    | some (.map kt e) => match vs with
      | [x, y] => match (match x with
          | .nilmap => some []
          | .map n => match h.get n with
            | some (.map es _ _) => some es
            | _ => none
          | _ => none) with
        | none => none
        | some es => match lookM P kt es y with
          | none => none
          | some (some (_, v)) => match ok with
            | true => some (.tup [v, .bool true])
            | false => some v
          | some none => match zeroT P e with
            | none => none
            | some z => match ok with
              | true => some (.tup [z, .bool false])
              | false => some z
      | _ => none
    | _ => none
  | .call c => match c.callee with
    | .builtin .len => match vs, c.argTypes[0]? with
      | [x], some t => match P.underlying t with
        | some (.slice _) => match x with
          | .nilsl => some (.int .i64 0)
          | .esl _ => some (.int .i64 0)
          | .zsl => some (.int .i64 0)
          | .osl e => some (.sym .i64 e)
          | .sl _ _ len _ _ => some (.int .i64 (Int.ofNat len))
          | .dsl _ e _ => some (.sym .i64 e)
          | .ssl _ _ len _ => some (.int .i64 (Int.ofNat len))
          | .rsl i => some (.sym .i64 (.len (.lvar i)))
          | _ => none
        | some (.array n _) => some (.int .i64 (Int.ofNat n))
        | some (.map _ _) => match x with
          | .nilmap => some (.int .i64 0)
          | .map n => match h.get n with
            | some (.map es _ _) => some (.int .i64 (Int.ofNat es.length))
            | _ => none
          | _ => none
        | _ => none
      | _, _ => none
    | _ => none
  | _ => none

inductive AK where
  | ptr
  | sl (len sz : Nat)
  | dsl (len : SE) (sz : Nat)
  | map
def AK.at (k : AK) (n : Nat) : AV := match k with
  | .ptr => .ptr n 0
  | .sl len sz => .sl n 0 len sz .whole
  | .dsl len sz => .dsl n len sz
  | .map => .map n
def cellsOf (e : TypeId) (l : List AV) : AO := .cells (mkCells l) l.length e
/-- an operation that makes a block -/
def aalloc (op : Op) (vs : List AV) : Option (AO × AK) := match op with
  | .alloc t => match zeroT P t with
    | some z => match allOne z.cells with
      | true => some (cellsOf t z.cells, .ptr)
      | false => none
    | none => none
  | .box t _ => match vs with
    | [v] => match allOne v.cells with
      | true => some (cellsOf t v.cells, .ptr)
      | false => none
    | _ => none
  | .buildSlice t len parts => match P.underlying t with
    | some (.slice e) => match sizeT P e with
      | none => none
      | some s => match Nat.ble (Nat.mul len s) 16777216 && Nat.ble len 16777216 with
        | false => none
        | true => match zeroT P e with
          | none => none
          | some z => match Nat.beq z.cells.length s with
            | false => none
            | true => match zipParts parts.toList vs with
              | none => none
              | some ps => match afill (fun i => some (Nat.mul i s, s)) (rep len z.cells) ps with
                | none => none
                | some l => match allOne l with
                  | true => some (cellsOf e l, .sl len s)
                  | false => none
    | _ => none
  | .makeMap _ r => match r with
    | none => match vs with
      | [] => some (.map [] [] 0, .map)
      | _ => none
    | some _ => none
  | .makeSlice t _ _ => match P.underlying t with
    | some (.slice e) => match P.info? e with
      | none => none
      | some i => match vs with
        | [.int _ (.ofNat l), .int _ (.ofNat c)] => match Nat.ble l c with
          | false => none
          | true => match Nat.ble (Nat.mul i.bytes c) 281474976710656 with
            | false => none
            | true => match Nat.ble c 9223372036854775807 with
              | false => none
              | true => match zeroT P e with
                | none => none
                | some z => match Nat.beq z.cells.length i.size with
                  | false => none
                  | true => match Nat.blt 0 i.size with
                    | false => none
                    | true => match allOne z.cells with
                      | true => some (cellsOf e (rep c z.cells), .sl l i.size)
                      | false => none
        | [.sym _ a, .sym _ b] => match SE.beq a b with
          | false => none
          | true => match askLt a (.lit 0) with
            | some false => match askLt a (.lit 16777216) with
              | some true => match Nat.ble i.bytes 16777216 with
                | false => none
                | true => match zeroT P e with
                  | some (.int k 0) => match Nat.beq i.size 1 with
                    | true => some (.recs (.rep a) [.int k] e, .dsl a 1)
                    | false => none
                  | _ => none
              | _ => none
            | _ => none
        | _ => none
    | _ => none
  | _ => none

inductive AN where
  | val (v : AV) (h : AH)
  | call (f : FuncId) (args : List AV)
/-- cells of a source of append -/
def srcCells (h : AH) (s : Nat) : AV → Option (Nat × List AV)
  | .nilsl => some (0, [])
  | .esl _ => some (0, [])
  | .sl n off len sz _ => match Nat.beq sz s with
    | false => none
    | true => match h.get n with
      | some (.cells cs _ _) => match getN cs off (Nat.mul len sz) with
        | some l => some (len, l)
        | none => none
      | _ => none
  | _ => none
def fresh (h : AH) (o : AO) : Option AH := match Nat.blt h.next 1000000 with
  | true => some ((h.put h.next (some o)).skip 1)
  | false => none
def aappend (t : TypeId) (s x : AV) (h : AH) : Option (AV × AH) := match P.underlying t with
  | some (.slice e) => match P.info? e with
    | none => none
    | some i => match Nat.blt 0 i.size with
      | false => none
      | true => match i.zero with
        | none => none
        | some z => match Nat.beq z.cells.size i.size with
          | false => none
          | true => match srcCells h i.size x with
            | none => none
            | some (0, _) => match s with
              | .nilsl => some (.nilsl, h)
              | .esl n => some (.esl n, h)
              | .sl n off len sz r => some (.sl n off len sz r, h)
              | _ => none
            | some (m, news) => match s with
              | .nilsl => match Nat.ble m 9223372036854775807 with
                | false => none
                | true => match Nat.ble (Nat.mul m i.bytes) 140737488355328 with
                  | false => none
                  | true => match fresh h (cellsOf e news) with
                    | some h' => some (.sl h.next 0 m i.size .whole, h')
                    | none => none
              | .sl n 0 len sz r => match Nat.beq sz i.size with
                | false => none
                | true => match h.get n with
                  | some (.cells cs k e') => match Nat.beq e' e with
                    | false => none
                    | true => match Nat.ble (Nat.add len m) 9223372036854775807 with
                      | false => none
                      | true => match Nat.ble (Nat.mul (Nat.add len m) i.bytes) 140737488355328 with
                        | false => none
                        | true => match r with
                          | .whole => match Nat.ble (Nat.mul (Nat.add len m) sz) k with
                            | true => some (.sl n 0 (Nat.add len m) sz .whole, h.put n (some (.cells (setN cs (Nat.mul len sz) news) k e')))
                            | false => match getN cs 0 (Nat.mul len sz) with
                              | none => none
                              | some olds => match fresh (h.put n none) (cellsOf e (olds ++ news)) with
                                | some h' => some (.sl h.next 0 (Nat.add len m) sz .whole, h')
                                | none => none
                          | .ex c => match Nat.blt c (Nat.add len m) with
                            | false => none
                            | true => match getN cs 0 (Nat.mul len sz) with
                              | none => none
                              | some olds => match fresh h (cellsOf e (olds ++ news)) with
                                | some h' => some (.sl h.next 0 (Nat.add len m) sz .whole, h')
                                | none => none
                          | .any => none
                  | _ => none
              | .dsl n e' sz => match Nat.beq sz i.size with
                | false => none
                | true => match Nat.beq m 1 with
                  | false => none
                  | true => match h.get n with
                    | some (.recs l ks e0) => match Nat.beq e0 e && Nat.beq ks.length sz with
                      | false => none
                      | true => match SE.beq e' (lenE l) with
                        | false => none
                        | true => match askLt e' (.lit 1000000) with
                          | some true => match Nat.ble i.bytes 1000000 with
                            | false => none
                            | true => match recOf ks news with
                              | none => none
                              | some r => match fresh (h.put n none) (.recs (.lsnoc l r) ks e) with
                                | some h' => some (.dsl h.next (lenE (.lsnoc l r)) sz, h')
                                | none => none
                          | _ => none
                    | _ => none
              | _ => none
  | _ => none
/-- where a stamp stands -/
def idxOf (b : Nat) : List Nat → Option Nat
  | [] => none
  | c :: l => match Nat.beq c b with
    | true => some 0
    | false => match idxOf b l with
      | some j => some (Nat.add j 1)
      | none => none
/-- an operation that changes memory, or calls -/
def aloud (op : Op) (vs : List AV) (h : AH) : Option AN := match op with
  | .store t _ _ => match vs with
    | [.ptr n off, v] => match sizeT P t with
      | none => none
      | some s => match Nat.beq v.cells.length s with
        | false => none
        | true => match allOne v.cells with
          | false => none
          | true => match h.get n with
            | some (.cells cs k e) => match Nat.ble (Nat.add off s) k with
              | false => none
              | true => some (.val und (h.put n (some (.cells (setN cs off v.cells) k e))))
            | some (.recs l ks e) => match Nat.blt 0 ks.length with
              | true => recStore n l (.lit (Int.ofNat (recAt ks off).1)) ks e (recAt ks off).2 v h
              | false => none
            | _ => none
    | [.eptr n x z j, v] => match sizeT P t with
      | none => none
      | some s => match Nat.beq v.cells.length s with
        | false => none
        | true => match allOne v.cells with
          | false => none
          | true => match h.get n with
            | some (.recs l ks e) => match Nat.beq z ks.length with
              | true => recStore n l x ks e j v h
              | false => none
            | _ => none
    | _ => none
  | .mapUpdate t _ _ _ => mapPut t vs h
  | .insert t _ _ _ => mapPut t vs h
  | .mapEntry t _ _ => mapEnt t vs h
  | .entryStore _ _ _ _ => entSto vs h
  | .range t _ => match P.underlying t with
    | some (.map _ _) => arange vs h
    | _ => none
  | .next _ st => match st with
    | true => none
    | false => anext vs h
  | .call c => match c.callee with
    | .value _ => match vs with
      | .fn (.func f) a b :: args => some (.call f (a ++ (args ++ b)))
      | _ => none
    | .builtin .delete => match c.argTypes[0]? with
      | some t => mapDel t vs h
      | none => none
    | .builtin .append => match vs, c.argTypes with
      | [s, x], ⟨[t, t']⟩ => match Nat.beq t t' with
        | false => none
        | true => match aappend P t s x h with
          | some (v, h') => some (.val v h')
          | none => none
      | _, _ => none
    | _ => none
  | _ => none
where
  recStore (n : Nat) (l x : SE) (ks : List CK) (e : TypeId) (j : Nat) (v : AV) (h : AH) : Option AN := match within x (lenE l) with
    | false => none
    | true => match recSet l x ks j v.cells with
      | some l' => some (.val und (h.put n (some (.recs l' ks e))))
      | none => none
  arange (vs : List AV) (h : AH) : Option AN := match vs with
    | [.nilmap] => match fresh h (.mit none 0 [] 0) with
      | some h' => some (.val (.ptr h.next 0) h')
      | none => none
    | [.map n] => match h.get n with
      | some (.map _ _ ck) => match fresh h (.mit (some n) ck [] ck) with
        | some h' => some (.val (.ptr h.next 0) h')
        | none => none
      | _ => none
    | _ => none
  anext (vs : List AV) (h : AH) : Option AN := match vs with
    | [.ptr n 0] => match h.get n with
      | some (.mit none _ _ _) => some (.val (.tup [.bool false]) h)
      | some (.mit (some m) since seen last) => match h.get m with
        | some (.map es bs ck) => match okNext bs seen last with
          | false => none
          | true => match leftOf es bs seen with
            | [] => some (.val (.tup [.bool false]) h)
            | [(k, v, b)] => match Nat.blt b since with
              | true => some (.val (.tup [.bool true, k, v]) (h.put n (some (.mit (some m) since (seen ++ [b]) ck))))
              | false => none
            | _ => none
        | _ => none
      | _ => none
    | _ => none
  mapDel (t : TypeId) (vs : List AV) (h : AH) : Option AN := match P.underlying t with
    | some (.map kt _) => match vs with
      | [.map n, y] => match h.get n with
        | some (.map es bs ck) => match lookM P kt es y with
          | none => none
          | some none => some (.val und (h.put n (some (.map es bs ck))))
          | some (some (j, _)) => some (.val und (h.put n (some (.map (es.eraseIdx j) (bs.eraseIdx j) ck))))
        | _ => none
      | _ => none
    | _ => none
  mapPut (t : TypeId) (vs : List AV) (h : AH) : Option AN := match P.underlying t with
    | some (.map kt _) => match vs with
      | [.map n, y, v] => match h.get n with
        | some (.map es bs ck) => match lookM P kt es y with
          | none => none
          | some (some (j, _)) => some (.val und (h.put n (some (.map (es.modify j fun p => (p.1, v)) bs ck))))
          | some none => some (.val und (h.put n (some (.map (es ++ [(y, v)]) (bs ++ [ck]) (Nat.add ck 1)))))
        | _ => none
      | _ => none
    | _ => none
  mapEnt (t : TypeId) (vs : List AV) (h : AH) : Option AN := match P.underlying t with
    | some (.map kt e) => match vs with
      | [.map n, y] => match h.get n with
        | some (.map es bs ck) => match lookM P kt es y with
          | none => none
          | some (some (j, v)) => match (bs[j]? : Option Nat) with
            | some b => some (.val (.tup [v, .int .i64 (Int.ofNat b)]) (h.put n (some (.map es bs ck))))
            | none => none
          | some none => match zeroT P e with
            | none => none
            | some z => some (.val (.tup [z, .int .i64 (Int.ofNat ck)]) (h.put n (some (.map (es ++ [(y, z)]) (bs ++ [ck]) (Nat.add ck 1)))))
        | _ => none
      | _ => none
    | _ => none
  entSto (vs : List AV) (h : AH) : Option AN := match vs with
    | [.map n, .int _ (.ofNat b), v] => match h.get n with
      | some (.map es bs ck) => match idxOf b bs with
        | some j => some (.val und (h.put n (some (.map (es.modify j fun p => (p.1, v)) bs ck))))
        | none => none
      | _ => none
    | _ => none

inductive Kd where
  | pure
  | read
  | alloc
  | loud
def kd : Op → Kd
  | .load .. | .lookup .. | .entry _ => .read
  | .alloc _ | .box .. | .buildSlice .. | .makeMap .. | .makeSlice .. => .alloc
  | .store .. | .mapUpdate .. | .insert .. | .mapEntry .. | .entryStore .. | .range .. | .next .. => .loud
  | .call c => match c.callee with
    | .builtin .len => .read
    | .builtin .append => .loud
    | .builtin .delete => .loud
    | .builtin _ => .pure
    | _ => .loud
  | _ => .pure
end
end
end Go.Proofs.YthjjpmoifgcepaaGreat.Ex
