/-
  What the methods of near.Near do: each function once.
-/
import Derived.Test.YtpmnababdjdniaaSlicesInt
namespace Go.Proofs.Ytpmnababdjdniaa
open Go.RowKit

/-- a list of pages as memory has it: its slice, what it holds, the block that it owns -/
structure NL where
  v : Value
  xs : List Int
  bs : List (Nat × Obj)
def NL.ok (x : NL) : Prop := IntsOwn true x.v x.xs x.bs
def nlNil : NL := ⟨.slice none 0 0, [], []⟩
theorem nlNil_ok : nlNil.ok := SlO.nil _ _ _

def nrBlocks (T : TypeId) (b bl : Nat) (lim : Int) (L : List NL) : List (Nat × Obj) :=
  [(b, .cells #[.slice (some ⟨bl, 0, none⟩) L.length L.length, .int .i64 lim] T), (bl, .cells (L.map (·.v)).toArray 49)] ++ L.flatMap (·.bs)

section
variable {T : TypeId} {W : World} {m : List (Nat × Obj)} {w : World} {b bl : Nat} {lim : Int} {L : List NL}

theorem nrHead (h : Own W (nrBlocks T b bl lim L ++ m) w) : w.cell? ⟨b, 0, none⟩ = some (.slice (some ⟨bl, 0, none⟩) L.length L.length) := by
  rw [h.cell (List.mem_append_left _ List.mem_cons_self)]; rfl
theorem nrLim (h : Own W (nrBlocks T b bl lim L ++ m) w) : w.cell? ⟨b, 1, none⟩ = some (.int .i64 lim) := by
  rw [h.cell (List.mem_append_left _ List.mem_cons_self)]; rfl
theorem nrCell (h : Own W (nrBlocks T b bl lim L ++ m) w) {i : Nat} {x : NL} (hx : L[i]? = some x) : w.cell? ⟨bl, i, none⟩ = some x.v := by
  rw [h.cell (List.mem_append_left _ (List.mem_cons_of_mem _ List.mem_cons_self))]; simp [hx]
theorem nrFree (h : Own W (nrBlocks T b bl lim L ++ m) w) (i : Nat) : w.frozen? ⟨bl, i, none⟩ = false :=
  h.frozen (List.mem_append_left _ (List.mem_cons_of_mem _ List.mem_cons_self)) i
theorem nrLt (h : Own W (nrBlocks T b bl lim L ++ m) w) : b < w.heap.size ∧ bl < w.heap.size :=
  ⟨h.lt (List.mem_append_left _ List.mem_cons_self), h.lt (List.mem_append_left _ (List.mem_cons_of_mem _ List.mem_cons_self))⟩
theorem nr_split (L : List NL) {i : Nat} {x : NL} (hx : L[i]? = some x) : L = L.take i ++ x :: L.drop (i + 1) ∧ ∀ y, L.set i y = L.take i ++ y :: L.drop (i + 1) := by
  obtain ⟨hi, rfl⟩ := List.getElem?_eq_some_iff.1 hx
  refine ⟨?_, fun y => List.set_eq_take_append_cons_drop.trans (by rw [if_pos hi])⟩
  have := List.take_append_drop i L
  rw [List.drop_eq_getElem_cons hi] at this
  exact this.symm
/-- one list's block, and the rest -/
def nrRest (T : TypeId) (b bl : Nat) (lim : Int) (L : List NL) (i : Nat) : List (Nat × Obj) :=
  [(b, .cells #[.slice (some ⟨bl, 0, none⟩) L.length L.length, .int .i64 lim] T), (bl, .cells (L.map (·.v)).toArray 49)] ++ ((L.take i).flatMap (·.bs) ++ (L.drop (i + 1)).flatMap (·.bs))
theorem nr_perm (L : List NL) {i : Nat} {x : NL} (hx : L[i]? = some x) : (nrBlocks T b bl lim L ++ m).Perm (x.bs ++ (nrRest T b bl lim L i ++ m)) := by
  have hs := (nr_split L hx).1
  have e : L.flatMap (·.bs) = (L.take i).flatMap (·.bs) ++ (x.bs ++ (L.drop (i + 1)).flatMap (·.bs)) := by
    conv => lhs; rw [hs]
    rw [List.flatMap_append, List.flatMap_cons]
  unfold nrBlocks nrRest
  rw [e]
  rw [← List.append_assoc x.bs]
  refine List.Perm.append_right m ?_
  exact (List.Perm.append_left _ (perm_swap _ _ _)).trans (perm_swap _ _ _)
theorem nrOut (h : Own W (nrBlocks T b bl lim L ++ m) w) {i : Nat} {x : NL} (hx : L[i]? = some x) : Own W (x.bs ++ (nrRest T b bl lim L i ++ m)) w := h.perm (nr_perm L hx)
/-- a list's slice is stored: what it owned is what the new one owns, or another's -/
theorem nrIn {i : Nat} {x : NL} (hx : L[i]? = some x) {y : NL} (h : Own W (y.bs ++ (nrRest T b bl lim L i ++ m)) w) : Own W (nrBlocks T b bl lim (L.set i y) ++ m) (w.setCell ⟨bl, i, none⟩ y.v) := by
  have hi : i < L.length := (List.getElem?_eq_some_iff.1 hx).1
  unfold nrRest at h
  have h1 : Own W ((y.bs ++ [(b, .cells #[.slice (some ⟨bl, 0, none⟩) L.length L.length, .int .i64 lim] T)]) ++ (bl, .cells (L.map (·.v)).toArray 49) :: ((L.take i).flatMap (·.bs) ++ (L.drop (i + 1)).flatMap (·.bs) ++ m)) w := by
    simpa using h
  have h2 := h1.setIn i y.v
  have hx' : (L.set i y)[i]? = some y := by simp [hi]
  refine h2.perm ?_
  refine List.Perm.trans ?_ (nr_perm (T := T) (b := b) (bl := bl) (lim := lim) (m := m) (L.set i y) hx').symm
  unfold nrRest
  have e1 : ((L.map (·.v)).toArray.setIfInBounds i y.v) = ((L.set i y).map (·.v)).toArray := by simp [List.map_set]
  have e2 : (L.set i y).take i = L.take i := by rw [List.take_set_of_le (Nat.le_refl _)]
  have e3 : (L.set i y).drop (i + 1) = L.drop (i + 1) := by rw [List.drop_set_of_lt (by omega)]
  rw [e1, e2, e3, List.length_set]
  simp

def nrAt (L : List NL) (cpu : Int) : Option NL := if 0 ≤ cpu then L[cpu.toNat]? else none
theorem nrAt_in {cpu : Int} {x : NL} (h : nrAt L cpu = some x) : ∃ i : Nat, cpu = i ∧ i < L.length ∧ L[i]? = some x := by
  unfold nrAt at h
  split at h
  · obtain ⟨i, rfl⟩ := Int.eq_ofNat_of_zero_le ‹_›
    obtain ⟨hi, _⟩ := List.getElem?_eq_some_iff.1 h
    exact ⟨i, rfl, by simpa using hi, by simpa using h⟩
  · cases h
theorem nrAt_out {cpu : Int} (h : nrAt L cpu = none) : cpu < 0 ∨ L.length ≤ cpu := by
  unfold nrAt at h
  split at h
  · rw [List.getElem?_eq_none_iff] at h; omega
  · omega

set_option maxHeartbeats 400000 in
theorem list_in (h : Own W (nrBlocks T b bl lim L ++ m) w) (hl : L.length ≤ 8) (i : Nat) (hi : i < L.length) :
    Calls Try.prog 44 #[.pointer (some ⟨b, 0, none⟩), .int .i64 i] w fun e w' => e = .returned (.pointer (some ⟨bl, i, none⟩)) ∧ w = w' := by
  have c0 := nrHead h
  go_enter Try.func44, Try.ntmps44
  go_wp2
  go_ret
  exact ⟨rfl, rfl⟩
set_option maxHeartbeats 400000 in
theorem list_out (h : Own W (nrBlocks T b bl lim L ++ m) w) (hl : L.length ≤ 8) (cpu : Int) (h0 : cpu < 0 ∨ L.length ≤ cpu) :
    Calls Try.prog 44 #[.pointer (some ⟨b, 0, none⟩), .int .i64 cpu] w fun e w' => e = .returned (.pointer none) ∧ w = w' := by
  have c0 := nrHead h
  by_cases hc : cpu < 0
  · go_enter Try.func44, Try.ntmps44
    go_wp2
    go_ret
    exact ⟨rfl, rfl⟩
  · have h2 : (L.length : Int) ≤ cpu := by omega
    have h3 : 0 ≤ cpu := by omega
    clear h0
    go_enter Try.func44, Try.ntmps44
    go_wp2
    go_ret
    exact ⟨rfl, rfl⟩

/-- lists as they may be: cap pages at most -/
def NrOk (lim : Int) (L : List NL) : Prop := L.length ≤ 8 ∧ 0 ≤ lim ∧ lim ≤ 64 ∧ ∀ x ∈ L, x.ok ∧ x.xs.length ≤ 64
theorem NrOk.at_ (h : NrOk lim L) {i : Nat} {x : NL} (hx : L[i]? = some x) : x.ok ∧ x.xs.length ≤ 64 := h.2.2.2 x (List.mem_of_getElem? hx)

set_option maxHeartbeats 400000 in
theorem has1_spec {p : Nat} {n : Int} (hp : w.cell? ⟨p, 0, none⟩ = some (.int .i64 n)) {v : Value} {l : List Int} (hv : IntsSrc w v l) (hlen : l.length ≤ 60000) :
    Calls Try.prog 49 #[v, .pointer (some ⟨p, 0, none⟩)] w fun e w' => e = .returned (.bool (decide (n ∈ l))) ∧ w = w' := by
  go_enter Try.func49, Try.ntmps49
  go_wp2_with (go_at_call 50; refine (contains_spec hv hlen n).mono ?_; rintro e w' ⟨rfl, rfl⟩)
  go_ret
  exact ⟨rfl, rfl⟩
end
end Go.Proofs.Ytpmnababdjdniaa
