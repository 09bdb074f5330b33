/-
  What the functions of wainscotref13 do: each once.
-/
import Derived.Test.YtpmnababdjdniaaStockWorks
namespace Go.Proofs.Ytpmnababdjdniaa.ref
open Go.RowKit

def blocks (b bl : Nat) (l : List (Int × Int)) : List (Nat × Obj) :=
  [(b, .cells #[.slice (some ⟨bl, 0, none⟩) l.length l.length] 75), (bl, .cells (stCells l) 81)]
section
variable {W : World} {m : List (Nat × Obj)} {w : World} {b bl : Nat} {l : List (Int × Int)}
theorem head (h : Own W (blocks b bl l ++ m) w) : w.cell? ⟨b, 0, none⟩ = some (.slice (some ⟨bl, 0, none⟩) l.length l.length) := by
  rw [h.cell (List.mem_append_left _ List.mem_cons_self)]; rfl
theorem cellG (h : Own W (blocks b bl l ++ m) w) {i : Nat} {p : Int × Int} (hp : l[i]? = some p) : w.cell? ⟨bl, i * 2, none⟩ = some (.int .i64 p.1) := by
  rw [h.cell (List.mem_append_left _ (List.mem_cons_of_mem _ List.mem_cons_self)), Nat.mul_comm]; exact (stCells_at l i p hp).1
theorem cellN (h : Own W (blocks b bl l ++ m) w) {i : Nat} {p : Int × Int} (hp : l[i]? = some p) : w.cell? ⟨bl, i * 2 + 1, none⟩ = some (.int .i64 p.2) := by
  rw [h.cell (List.mem_append_left _ (List.mem_cons_of_mem _ List.mem_cons_self)), Nat.mul_comm]; exact (stCells_at l i p hp).2
theorem free (h : Own W (blocks b bl l ++ m) w) (i : Nat) : w.frozen? ⟨bl, i, none⟩ = false :=
  h.frozen (List.mem_append_left _ (List.mem_cons_of_mem _ List.mem_cons_self)) i
theorem lt (h : Own W (blocks b bl l ++ m) w) : b < w.heap.size ∧ bl < w.heap.size :=
  ⟨h.lt (List.mem_append_left _ List.mem_cons_self), h.lt (List.mem_append_left _ (List.mem_cons_of_mem _ List.mem_cons_self))⟩
theorem put2 (h : Own W (blocks b bl l ++ m) w) {i : Nat} (hi : i < l.length) (g n : Int) :
    Own W (blocks b bl (l.set i (g, n)) ++ m) ((w.setCell ⟨bl, i * 2, none⟩ (.int .i64 g)).setCell ⟨bl, i * 2 + 1, none⟩ (.int .i64 n)) := by
  have h1 : Own W ([(b, .cells #[.slice (some ⟨bl, 0, none⟩) l.length l.length] 75)] ++ (bl, .cells (stCells l) 81) :: m) w := h
  have h2 := (h1.setIn (2 * i) (.int .i64 g)).setIn (2 * i + 1) (.int .i64 n)
  rw [stCells_set l i (g, n) hi] at h2
  rw [Nat.mul_comm]
  simpa [blocks] using h2

set_option maxHeartbeats 400000 in
theorem has_in (h : Own W (blocks b bl l ++ m) w) (i : Nat) (hi : i < l.length) :
    Calls Try.prog 38 #[.pointer (some ⟨b, 0, none⟩), .int .i64 i] w fun e w' => e = .returned (.bool true) ∧ w = w' := by
  have c0 := head h
  go_enter Try.func38, Try.ntmps38
  go_wp2
  go_ret
  exact ⟨rfl, rfl⟩
set_option maxHeartbeats 400000 in
theorem has_out (h : Own W (blocks b bl l ++ m) w) (cpu : Int) (hc : cpu < 0 ∨ l.length ≤ cpu) :
    Calls Try.prog 38 #[.pointer (some ⟨b, 0, none⟩), .int .i64 cpu] w fun e w' => e = .returned (.bool false) ∧ w = w' := by
  have c0 := head h
  go_enter Try.func38, Try.ntmps38
  go_wp2
  all_goals go_ret
  all_goals (refine ⟨?_, rfl⟩)
  all_goals (simp; try omega)
set_option maxHeartbeats 400000 in
theorem set_spec (h : Own W (blocks b bl l ++ m) w) (hl : l.length ≤ 8) (i : Nat) (hi : i < l.length) (g n : Int) :
    Calls Try.prog 51 #[.pointer (some ⟨b, 0, none⟩), .int .i64 i, .int .i64 g, .int .i64 n] w fun e w' => e = .returned (.tuple #[]) ∧ Own W (blocks b bl (l.set i (stWhole g n)) ++ m) w' := by
  obtain ⟨p, hp⟩ : ∃ p, l[i]? = some p := ⟨_, List.getElem?_eq_getElem hi⟩
  have c0 := head h
  have cg := cellG h hp
  have cn := cellN h hp
  have fg := free h (i * 2)
  have fn := free h (i * 2 + 1)
  have hlt := (lt h).2
  by_cases hn : n = 0
  · subst hn
    go_enter Try.func51, Try.ntmps51
    go_wp2
    go_end0
    exact ⟨rfl, put2 h hi _ _⟩
  · have hs : stWhole g n = (g, n) := by simp [stWhole, hn]
    have hb : (n == 0) = false := by simpa using hn
    rw [hs]
    go_enter Try.func51, Try.ntmps51
    go_wp2
    go_end0
    exact ⟨rfl, put2 h hi _ _⟩
set_option maxHeartbeats 400000 in
theorem take_in (h : Own W (blocks b bl l ++ m) w) (hl : l.length ≤ 8) (i : Nat) (g n k g0 : Int) (hi : i < l.length) (hp : l[i]? = some (g0, k)) (hk : 0 ≤ k ∧ k ≤ 1024) :
    Calls Try.prog 34 #[.pointer (some ⟨b, 0, none⟩), .int .i64 i, .int .i64 g, .int .i64 n] w fun e w' => e = .returned (.bool (stTake l i g n).1) ∧ Own W (blocks b bl (stTake l i g n).2 ++ m) w' := by
  have c0 := head h
  have cg := cellG h hp
  have cn := cellN h hp
  have hs := stAt_nat hp
  go_enter Try.func34, Try.ntmps34
  go_wp2_with (first | (go_at_call 38; refine (has_in h i hi).mono ?_; rintro e w' ⟨rfl, rfl⟩) | (go_at_call 51; refine (set_spec h hl i hi _ _).mono ?_; rintro e w1 ⟨rfl, h1⟩))
  all_goals go_ret
  all_goals clear c0 cg cn
  all_goals first
    | (have e1 : stTake l i g n = (false, l) := by grind [stTake]
       rw [e1]; exact ⟨rfl, h⟩)
    | (have e1 : stTake l i g n = (true, l.set i (stWhole g (k - n))) := by grind [stTake]
       rw [e1]; exact ⟨rfl, h1⟩)
end
end Go.Proofs.Ytpmnababdjdniaa.ref
