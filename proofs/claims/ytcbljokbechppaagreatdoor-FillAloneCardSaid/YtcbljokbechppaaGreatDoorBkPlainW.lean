import Derived.Test.YtcbljokbechppaaGreatDoorBk8
/-
  Lists of free objects, and words that are set: plain. No condition.
-/
namespace Go.Proofs.YtcbljokbechppaaGreatDoor.Back
open See Fast
/-- a list's first one, -1 if there is none -/
def fst (L : List Int) : Int := L.headD (-1)
theorem fst_in {L : List Int} {O : Nat} (h : ∀ x ∈ L, 0 ≤ x ∧ x < (O : Int)) : -1 ≤ fst L ∧ fst L < O := by
  cases L with
  | nil => exact ⟨by decide, by show (-1 : Int) < O; omega⟩
  | cons x L =>
    have := h x List.mem_cons_self
    exact ⟨by show (-1 : Int) ≤ x; omega, by show x < (O : Int); omega⟩
theorem at_set_self {g : List Nat} {i w : Nat} (h : i < g.length) : at_ (g.set i w) i = w := by
  unfold at_
  rw [List.getD_eq_getElem?_getD, List.getElem?_set_self h]
  rfl
theorem at_set_ne {g : List Nat} {i j w : Nat} (h : i ≠ j) : at_ (g.set i w) j = at_ g j := by
  unfold at_
  rw [List.getD_eq_getElem?_getD, List.getD_eq_getElem?_getD, List.getElem?_set_ne h]
theorem at_set {g : List Nat} {i w : Nat} (h : i < g.length) (j : Nat) : at_ (g.set i w) j = if j = i then w else at_ g j := by
  by_cases hj : j = i
  · subst hj
    rw [if_pos rfl, at_set_self h]
  · rw [if_neg hj, at_set_ne (fun h => hj h.symm)]
theorem w64_set {g : List Nat} {i w : Nat} (h : W64 g) (hw : w < 18446744073709551616) : W64 (g.set i w) := fun x hx => by
  rcases List.mem_or_eq_of_mem_set hx with hx | rfl
  · exact h x hx
  · exact hw
theorem w64_at {g : List Nat} (h : W64 g) (i : Nat) : at_ g i < 18446744073709551616 := by
  unfold at_
  rw [List.getD_eq_getElem?_getD]
  cases hr : g[i]? with
  | none => show 0 < _; omega
  | some x => exact h x (List.mem_of_getElem? hr)
theorem at_get {g : List Nat} {i : Nat} (h : i < g.length) : g[i]? = some (at_ g i) := by
  unfold at_
  rw [List.getD_eq_getElem?_getD, List.getElem?_eq_getElem h]
  rfl
/-- the numbers from one up to below another -/
def upL (k i : Nat) : List Int := (List.range' i (k - i)).map fun (n : Nat) => (n : Int)
theorem upL_cons {k i : Nat} (h : i < k) : upL k i = (i : Int) :: upL k (i + 1) := by
  unfold upL
  rw [show k - i = (k - (i + 1)) + 1 from by omega, List.range'_succ]
  rfl
theorem upL_nil {k i : Nat} (h : k ≤ i) : upL k i = [] := by
  unfold upL
  rw [show k - i = 0 from by omega]
  rfl
theorem upL_len (k i : Nat) : (upL k i).length = k - i := by simp [upL]
theorem mem_upL {k i : Nat} {x : Int} : x ∈ upL k i ↔ (i : Int) ≤ x ∧ x < k := by
  unfold upL
  rw [List.mem_map]
  constructor
  · rintro ⟨n, hn, rfl⟩
    rw [List.mem_range'_1] at hn
    omega
  · intro h
    exact ⟨x.toNat, by rw [List.mem_range'_1]; omega, by omega⟩
theorem fst_upL {k i : Nat} : fst (upL k i) = if i < k then (i : Int) else -1 := by
  by_cases h : i < k
  · rw [upL_cons h, if_pos h]; rfl
  · rw [upL_nil (by omega), if_neg h]; rfl
theorem upL_nodup (k i : Nat) : (upL k i).Nodup := by
  unfold upL
  refine List.Pairwise.map _ (fun a b h => ?_) (List.nodup_range' (s := i) (n := k - i) (step := 1))
  intro he
  exact h (by omega)
theorem upL_get {k i j : Nat} (h : i + j < k) : (upL k i)[j]? = some ((i + j : Nat) : Int) := by
  unfold upL
  rw [List.getElem?_map, List.getElem?_range' (by omega)]
  simp
theorem packN_lt {A B : Nat} {f l : Bool} (h : A ≤ 16) (h2 : B ≤ 16) : packN A B f l < 18446744073709551616 := by
  unfold packN
  split <;> split <;> omega
theorem countsOf_pack {A B : Nat} {fz : Bool} (h1 : A ≤ B) (h2 : 1 ≤ B) (h3 : B ≤ 16) : countsOf (packN A B fz true) = some ⟨A, B, fz, true⟩ := by
  have key : ∀ B : Fin 17, ∀ A : Fin 17, ∀ fz : Bool, 1 ≤ B.val → A.val ≤ B.val → countsOf (packN A.val B.val fz true) = some ⟨A.val, B.val, fz, true⟩ := by decide
  exact key ⟨B, by omega⟩ ⟨A, by omega⟩ fz h2 h1
end Go.Proofs.YtcbljokbechppaaGreatDoor.Back
