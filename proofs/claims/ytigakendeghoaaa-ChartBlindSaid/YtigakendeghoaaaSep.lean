/-
  Memory as a list of owned blocks over the memory that was there at the start. Used by all walks of this seat. No condition.
-/
import Derived.Test.YtigakendeghoaaaRows
import Derived.WalkKit
import Derived.WalkSpells
import Derived.WalkLawsBesides
import Derived.Deep.Draws
import Derived.Deep.QuietTactic
import Derived.BigQuiet
import Derived.Lib.Hide
import Derived.ProofKit
import Derived.Sort.AtCall
import Derived.Deep.RegionHeld3
import Derived.Deep.RegionWith
import Derived.Deep.DrawnRows
namespace Go.Proofs.Ytigakendeghoaaa
open Go.RowKit

/-- 'w' is 'W' with new blocks, of which the listed ones hold what is listed. -/
structure Own (W : World) (m : List (Nat × Obj)) (w : World) : Prop where
  below : Below W.heap.size W w
  at_ : ∀ p ∈ m, W.heap.size ≤ p.1 ∧ w.heap[p.1]? = some p.2
  nd : (m.map (·.1)).Nodup

theorem heap_lt {w : World} {g : Nat} {o : Obj} (h : w.heap[g]? = some o) : g < w.heap.size := by
  rcases Nat.lt_or_ge g w.heap.size with hlt | hge
  · exact hlt
  · rw [Array.getElem?_eq_none hge] at h; cases h

theorem perm_swap {α : Type} (A B C : List α) : (A ++ (B ++ C)).Perm (B ++ (A ++ C)) := by
  rw [← List.append_assoc, ← List.append_assoc]
  exact List.Perm.append_right _ List.perm_append_comm

namespace Own
variable {W w w' : World} {m m' : List (Nat × Obj)} {b i : Nat} {cs : Array Value} {t : TypeId} {o : Obj}

theorem init (W : World) : Own W [] W := ⟨Below.refl _ _, by simp, by simp⟩
theorem self (w : World) : Own w [] w := init w
theorem get (h : Own W m w) (hm : (b, o) ∈ m) : w.heap[b]? = some o := (h.at_ _ hm).2
theorem lt (h : Own W m w) (hm : (b, o) ∈ m) : b < w.heap.size := heap_lt (h.get hm)
theorem ge (h : Own W m w) (hm : (b, o) ∈ m) : W.heap.size ≤ b := (h.at_ _ hm).1
theorem cell (h : Own W m w) (hm : (b, .cells cs t) ∈ m) (i : Nat) : w.cell? ⟨b, i, none⟩ = cs[i]? := by
  simp [World.cell?, h.get hm]
theorem frozen (h : Own W m w) (hm : (b, .cells cs t) ∈ m) (i : Nat) : w.frozen? ⟨b, i, none⟩ = false := by
  simp [World.frozen?, h.get hm]
theorem old (h : Own W m w) {a : Addr} (ha : a.block < W.heap.size) : w.cell? a = W.cell? a := h.below.cell ha
theorem size_le (h : Own W m w) : W.heap.size ≤ w.heap.size := h.below.size
theorem drew (h : Own W m w) : Own W m w.drew := ⟨h.below.drew, h.at_, h.nd⟩
theorem drewN (h : Own W m w) (n : Nat) : Own W m (w.drewN n) := ⟨⟨h.below.os, h.below.tape, h.below.output, h.below.size, h.below.block⟩, h.at_, h.nd⟩
theorem perm (h : Own W m w) (hp : m.Perm m') : Own W m' w :=
  ⟨h.below, fun p hm => h.at_ p (hp.mem_iff.2 hm), (hp.map (·.1)).nodup_iff.1 h.nd⟩
theorem sub (h : Own W m w) (hs : m'.Sublist m) : Own W m' w :=
  ⟨h.below, fun p hm => h.at_ p (hs.subset hm), h.nd.sublist (hs.map _)⟩
theorem skip {x : Nat × Obj} (h : Own W (x :: m) w) : Own W m w := h.sub (List.sublist_cons_self _ _)
theorem dropL (h : Own W (m' ++ m) w) : Own W m w := h.sub (List.sublist_append_right _ _)
theorem dropR (h : Own W (m ++ m') w) : Own W m w := h.sub (List.sublist_append_left _ _)
theorem swap {m1 m2 m3 : List (Nat × Obj)} (h : Own W (m1 ++ (m2 ++ m3)) w) : Own W (m2 ++ (m1 ++ m3)) w :=
  h.perm (by rw [← List.append_assoc, ← List.append_assoc]; exact List.Perm.append_right _ List.perm_append_comm)
theorem comm {m1 m2 : List (Nat × Obj)} (h : Own W (m1 ++ m2) w) : Own W (m2 ++ m1) w := h.perm List.perm_append_comm
/-- nothing that was there has turned -/
theorem then_below (h : Own W m w) (hb : Below w.heap.size w w') : Own W m w' :=
  ⟨h.below.trans (hb.mono h.size_le), fun p hm => ⟨(h.at_ p hm).1, (hb.block p.1 (heap_lt (h.at_ p hm).2)).trans (h.at_ p hm).2⟩, h.nd⟩
theorem alloc (h : Own W m w) (o : Obj) : Own W m (w.alloc o) := h.then_below ((Below.refl _ _).alloc (Nat.le_refl _) _)
theorem new (h : Own W m w) (o : Obj) : Own W ((w.heap.size, o) :: m) (w.alloc o) :=
  ⟨(h.alloc o).below, fun p hm => by
    rcases List.mem_cons.1 hm with rfl | hm
    · exact ⟨h.size_le, heap_alloc_new w o⟩
    · exact (h.alloc o).at_ p hm, by
    simp only [List.map_cons, List.nodup_cons]
    refine ⟨fun hin => ?_, h.nd⟩
    obtain ⟨p, hp, he⟩ := List.mem_map.1 hin
    have := heap_lt (h.at_ p hp).2
    omega⟩
theorem set (h : Own W ((b, .cells cs t) :: m) w) (i : Nat) (v : Value) : Own W ((b, .cells (cs.setIfInBounds i v) t) :: m) (w.setCell ⟨b, i, none⟩ v) := by
  have hg := h.get (List.mem_cons_self)
  have hge := h.ge (List.mem_cons_self)
  refine ⟨h.below.setCell hge v, fun p hm => ?_, h.nd⟩
  rcases List.mem_cons.1 hm with rfl | hm
  · exact ⟨hge, by simp [World.setCell, Array.getElem?_modify, hg]⟩
  · have hne : p.1 ≠ b := fun he => by
      have := h.nd
      simp only [List.map_cons, List.nodup_cons] at this
      exact this.1 (he ▸ List.mem_map_of_mem (f := (·.1)) hm)
    exact ⟨(h.at_ p (List.mem_cons_of_mem _ hm)).1, (Below.heap_setCell w _ v p.1 hne).trans (h.at_ p (List.mem_cons_of_mem _ hm)).2⟩
theorem setIn {m1 m2 : List (Nat × Obj)} (h : Own W (m1 ++ (b, .cells cs t) :: m2) w) (i : Nat) (v : Value) :
    Own W (m1 ++ (b, .cells (cs.setIfInBounds i v) t) :: m2) (w.setCell ⟨b, i, none⟩ v) :=
  ((h.perm List.perm_middle).set i v).perm List.perm_middle.symm
theorem toBelow (h : Own w m w') : Below w.heap.size w w' := h.below
theorem of_self (h : Own W m w) (h' : Own w [] w') : Own W m w' := h.then_below h'.below
/-- what a call makes, beside what was there -/
theorem join (h : Own W m w) (h' : Own w m' w') : Own W (m' ++ m) w' := by
  have hk := h.then_below h'.below
  refine ⟨hk.below, fun p hp => ?_, ?_⟩
  · rcases List.mem_append.1 hp with hp | hp
    · exact ⟨Nat.le_trans h.size_le (h'.at_ p hp).1, (h'.at_ p hp).2⟩
    · exact hk.at_ p hp
  · rw [List.map_append, List.nodup_append]
    refine ⟨h'.nd, h.nd, fun a ha b hb => ?_⟩
    obtain ⟨p, hp, rfl⟩ := List.mem_map.1 ha
    obtain ⟨q, hq, rfl⟩ := List.mem_map.1 hb
    have h1 := (h'.at_ p hp).1
    have h2 := heap_lt (h.at_ q hq).2
    omega
theorem ne {b' : Nat} {o' : Obj} (h : Own W ((b, o) :: m) w) (hm : (b', o') ∈ m) : b' ≠ b := fun he => by
  have := h.nd
  simp only [List.map_cons, List.nodup_cons] at this
  exact this.1 (he ▸ List.mem_map_of_mem (f := (·.1)) hm)
theorem front3 {m1 m2 m3 m4 : List (Nat × Obj)} (h : Own W (m1 ++ (m2 ++ (m3 ++ m4))) w) : Own W (m3 ++ (m1 ++ (m2 ++ m4))) w :=
  h.perm ((List.Perm.append_left _ (perm_swap _ _ _)).trans (perm_swap _ _ _))
theorem dropIn {m1 m2 m3 : List (Nat × Obj)} (h : Own W (m1 ++ (m2 ++ m3)) w) : Own W (m1 ++ m3) w :=
  h.sub ((List.Sublist.refl _).append (List.sublist_append_right _ _))
theorem drop1 {x : Nat × Obj} {m1 : List (Nat × Obj)} (h : Own W (m1 ++ x :: m) w) : Own W (m1 ++ m) w :=
  h.sub ((List.Sublist.refl _).append (List.sublist_cons_self _ _))
theorem drop2 {x : Nat × Obj} {m1 m2 : List (Nat × Obj)} (h : Own W (m1 ++ (m2 ++ x :: m)) w) : Own W (m1 ++ (m2 ++ m)) w :=
  h.sub ((List.Sublist.refl _).append ((List.Sublist.refl _).append (List.sublist_cons_self _ _)))
/-- a new block behind one, or two, groups of blocks -/
theorem new1 {m1 : List (Nat × Obj)} (h : Own W (m1 ++ m) w) (o : Obj) : Own W (m1 ++ (w.heap.size, o) :: m) (w.alloc o) := (h.new o).perm List.perm_middle.symm
theorem new2 {m1 m2 : List (Nat × Obj)} (h : Own W (m1 ++ (m2 ++ m)) w) (o : Obj) : Own W (m1 ++ (m2 ++ (w.heap.size, o) :: m)) (w.alloc o) :=
  (h.new o).perm (by rw [← List.append_assoc, ← List.append_assoc]; exact List.perm_middle.symm)
end Own

/-! ### make -/
theorem run_make_rowN {P : Program} (t e : TypeId) (i : TypeInfo) (z : Value) (ht : P.underlying t = some (.slice e)) (hi : P.info? e = some i) (hz : i.zero = some z)
    (kl kc : IntKind) (n c : Nat) (hnc : n ≤ c) (hbytes : i.bytes * c ≤ 281474976710656) (h63 : c ≤ 9223372036854775807) (w : World) :
    (Instr.makeSlice t (.int kl (n : Int)) (.int kc (c : Int))).run P w = .ok (.slice (some ⟨w.heap.size, 0, none⟩) n c) (w.alloc (.cells (madeCells z.cells (c * i.size)) e)) := by
  have hb : (i.bytes : Int) * (c : Int) ≤ 281474976710656 := by
    have h : ((i.bytes * c : Nat) : Int) ≤ 281474976710656 := by omega
    rwa [Int.natCast_mul] at h
  have hr := run_make (P := P) w t e i z ht hi hz kl kc n c (by omega) (by omega) hb (by omega)
  simp only [Int.toNat_natCast] at hr
  exact hr
theorem madeCells_const (z : Array Value) (x : Value) (n : Nat) (h0 : 0 < z.size) (h : ∀ i, i < z.size → z[i]! = x) : madeCells z n = Array.replicate n x := by
  apply Array.ext
  · simp [madeCells]
  · intro i h1 h2
    simp [madeCells, h (i % z.size) (Nat.mod_lt _ h0)]
/-- what is told of a type -/
theorem info_get {P : Program} {t n b : Nat} {z : Value} (h : (P.info? t).map (fun i => (i.zero, i.size, i.bytes)) = some (some z, n, b)) : ∃ i, P.info? t = some i ∧ i.zero = some z ∧ i.size = n ∧ i.bytes = b := by
  cases hi : P.info? t with
  | none => rw [hi] at h; cases h
  | some i => rw [hi] at h; simp at h; exact ⟨i, rfl, h⟩
end Go.Proofs.Ytigakendeghoaaa
