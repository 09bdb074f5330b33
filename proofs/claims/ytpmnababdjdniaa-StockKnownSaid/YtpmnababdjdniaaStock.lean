/-
  What the methods of stock.Stock do: each function once.
-/
import Derived.Test.YtpmnababdjdniaaSep
namespace Go.Proofs.Ytpmnababdjdniaa
open Go.RowKit

/-- the cells of stocks -/
def stCells (l : List (Int × Int)) : Array Value := (l.flatMap fun p => [.int .i64 p.1, .int .i64 p.2]).toArray
theorem stCells_at : ∀ (l : List (Int × Int)) (i : Nat) (p : Int × Int), l[i]? = some p → (stCells l)[2*i]? = some (.int .i64 p.1) ∧ (stCells l)[2*i+1]? = some (.int .i64 p.2)
  | [], i, p, h => by simp at h
  | q :: l, 0, p, h => by simp at h; subst h; simp [stCells]
  | q :: l, i + 1, p, h => by
    have := stCells_at l i p (by simpa using h)
    simp [stCells] at this ⊢
    rw [show 2 * (i + 1) = 2 * i + 1 + 1 from by omega]
    simpa using this
theorem stCells_set : ∀ (l : List (Int × Int)) (i : Nat) (p : Int × Int), i < l.length → ((stCells l).setIfInBounds (2*i) (.int .i64 p.1)).setIfInBounds (2*i+1) (.int .i64 p.2) = stCells (l.set i p)
  | [], i, p, h => by simp at h
  | q :: l, 0, p, h => by simp [stCells]
  | q :: l, i + 1, p, h => by
    have := stCells_set l i p (by simpa using h)
    simp [stCells] at this ⊢
    rw [show 2 * (i + 1) = 2 * i + 1 + 1 from by omega]
    simpa using this

def stBlocks (b bl : Nat) (l : List (Int × Int)) : List (Nat × Obj) :=
  [(b, .cells #[.slice (some ⟨bl, 0, none⟩) l.length l.length] 48), (bl, .cells (stCells l) 79)]

section
variable {W : World} {m : List (Nat × Obj)} {w : World} {b bl : Nat} {l : List (Int × Int)}

theorem stHead (h : Own W (stBlocks b bl l ++ m) w) : w.cell? ⟨b, 0, none⟩ = some (.slice (some ⟨bl, 0, none⟩) l.length l.length) := by
  rw [h.cell (List.mem_append_left _ List.mem_cons_self)]; rfl
theorem stCellG (h : Own W (stBlocks b bl l ++ m) w) {i : Nat} {p : Int × Int} (hp : l[i]? = some p) : w.cell? ⟨bl, i * 2, none⟩ = some (.int .i64 p.1) := by
  rw [h.cell (List.mem_append_left _ (List.mem_cons_of_mem _ List.mem_cons_self)), Nat.mul_comm]; exact (stCells_at l i p hp).1
theorem stCellN (h : Own W (stBlocks b bl l ++ m) w) {i : Nat} {p : Int × Int} (hp : l[i]? = some p) : w.cell? ⟨bl, i * 2 + 1, none⟩ = some (.int .i64 p.2) := by
  rw [h.cell (List.mem_append_left _ (List.mem_cons_of_mem _ List.mem_cons_self)), Nat.mul_comm]; exact (stCells_at l i p hp).2
theorem stFree (h : Own W (stBlocks b bl l ++ m) w) (i : Nat) : w.frozen? ⟨bl, i, none⟩ = false :=
  h.frozen (List.mem_append_left _ (List.mem_cons_of_mem _ List.mem_cons_self)) i
theorem stSet (h : Own W (stBlocks b bl l ++ m) w) {i : Nat} (hi : i < l.length) (g n : Int) :
    Own W (stBlocks b bl (l.set i (g, n)) ++ m) ((w.setCell ⟨bl, i * 2, none⟩ (.int .i64 g)).setCell ⟨bl, i * 2 + 1, none⟩ (.int .i64 n)) := by
  have h1 : Own W ([(b, .cells #[.slice (some ⟨bl, 0, none⟩) l.length l.length] 48)] ++ (bl, .cells (stCells l) 79) :: m) w := h
  have h2 := (h1.setIn (2 * i) (.int .i64 g)).setIn (2 * i + 1) (.int .i64 n)
  rw [stCells_set l i (g, n) hi] at h2
  rw [Nat.mul_comm]
  simpa [stBlocks] using h2

set_option maxHeartbeats 400000 in
theorem of_in (h : Own W (stBlocks b bl l ++ m) w) (hl : l.length ≤ 8) (i : Nat) (hi : i < l.length) :
    Calls Try.prog 37 #[.pointer (some ⟨b, 0, none⟩), .int .i64 i] w fun e w' => e = .returned (.pointer (some ⟨bl, i * 2, none⟩)) ∧ w = w' := by
  have c0 := stHead h
  go_enter Try.func37, Try.ntmps37
  go_wp2
  go_ret
  exact ⟨rfl, rfl⟩

set_option maxHeartbeats 400000 in
theorem of_out (h : Own W (stBlocks b bl l ++ m) w) (hl : l.length ≤ 8) (cpu : Int) (h0 : cpu < 0 ∨ l.length ≤ cpu) :
    Calls Try.prog 37 #[.pointer (some ⟨b, 0, none⟩), .int .i64 cpu] w fun e w' => e = .returned (.pointer none) ∧ w = w' := by
  have c0 := stHead h
  by_cases hc : cpu < 0
  · go_enter Try.func37, Try.ntmps37
    go_wp2
    go_ret
    exact ⟨rfl, rfl⟩
  · have h2 : (l.length : Int) ≤ cpu := by omega
    have h3 : 0 ≤ cpu := by omega
    clear h0
    go_enter Try.func37, Try.ntmps37
    go_wp2
    go_ret
    exact ⟨rfl, rfl⟩

def stWhole (g n : Int) : Int × Int := if n = 0 then (0, 0) else (g, n)

set_option maxHeartbeats 400000 in
theorem whole_spec (g n : Int) (w : World) :
    Calls Try.prog 39 #[.int .i64 g, .int .i64 n] w fun e w' => e = .returned (.agg #[.int .i64 (stWhole g n).1, .int .i64 (stWhole g n).2]) ∧ Below w.heap.size w w' := by
  by_cases hn : n = 0
  · subst hn
    go_enter Try.func39, Try.ntmps39
    go_wp2
    exact bodyPost_ret (v := .agg #[.int .i64 0, .int .i64 0]) (by simp [results, Try.results39, go_sem]) rfl ⟨rfl, (Below.refl _ _).alloc (Nat.le_refl _) _⟩
  · have hs : stWhole g n = (g, n) := by simp [stWhole, hn]
    have hb : (n == 0) = false := by simpa using hn
    go_enter Try.func39, Try.ntmps39
    go_wp2
    exact bodyPost_ret (v := .agg #[.int .i64 g, .int .i64 n]) (by simp [results, Try.results39, go_sem]) rfl ⟨by rw [hs], (Below.refl _ _).alloc (Nat.le_refl _) _⟩

def stAt (l : List (Int × Int)) (cpu : Int) : Option (Int × Int) := if 0 ≤ cpu then l[cpu.toNat]? else none
def stTake (l : List (Int × Int)) (cpu g n : Int) : Bool × List (Int × Int) :=
  match stAt l cpu with
  | some p => if 1 ≤ n ∧ n ≤ p.2 ∧ p.1 = g then (true, l.set cpu.toNat (stWhole g (p.2 - n))) else (false, l)
  | none => (false, l)
def stPut (l : List (Int × Int)) (cpu g n : Int) : (Int × Int × Int) × List (Int × Int) :=
  match stAt l cpu with
  | none => ((0, 0, 9), l)
  | some p =>
    if g < 1 ∨ 16 < g then ((0, 0, 110), l) else if n < 0 ∨ 9007199254740991 < n then ((0, 0, 2), l) else
    if p ≠ (0, 0) ∧ p.1 ≠ g then (if 1024 < n then ((0, 0, 2), l) else ((p.1, p.2, 0), l.set cpu.toNat (stWhole g n)))
    else if 1024 < p.2 + n then ((g, p.2 + n - 512, 0), l.set cpu.toNat (g, 512)) else ((0, 0, 0), l.set cpu.toNat (stWhole g (p.2 + n)))
def stDrain (l : List (Int × Int)) (cpu : Int) : (Int × Int) × List (Int × Int) :=
  match stAt l cpu with
  | none => ((0, 0), l)
  | some p => (p, l.set cpu.toNat (0, 0))
def stHas (l : List (Int × Int)) (cpu : Int) : Int × Int := (stAt l cpu).getD (0, 0)

theorem stAt_in {cpu : Int} {p : Int × Int} (h : stAt l cpu = some p) : ∃ i : Nat, cpu = i ∧ i < l.length ∧ l[i]? = some p := by
  unfold stAt at h
  split at h
  · obtain ⟨i, rfl⟩ := Int.eq_ofNat_of_zero_le ‹_›
    obtain ⟨hi, _⟩ := List.getElem?_eq_some_iff.1 h
    exact ⟨i, rfl, by simpa using hi, by simpa using h⟩
  · cases h
theorem stAt_out {cpu : Int} (h : stAt l cpu = none) : cpu < 0 ∨ l.length ≤ cpu := by
  unfold stAt at h
  split at h
  · rw [List.getElem?_eq_none_iff] at h; omega
  · omega
theorem stAt_nat {i : Nat} {p : Int × Int} (h : l[i]? = some p) : stAt l i = some p := by simpa [stAt] using h

theorem stLt (h : Own W (stBlocks b bl l ++ m) w) : b < w.heap.size ∧ bl < w.heap.size :=
  ⟨h.lt (List.mem_append_left _ List.mem_cons_self), h.lt (List.mem_append_left _ (List.mem_cons_of_mem _ List.mem_cons_self))⟩

set_option maxHeartbeats 400000 in
theorem take_in (h : Own W (stBlocks b bl l ++ m) w) (hl : l.length ≤ 8) (i : Nat) (g n k g0 : Int) (hi : i < l.length) (hp : l[i]? = some (g0, k)) (hk : 0 ≤ k ∧ k ≤ 1024) :
    Calls Try.prog 20 #[.pointer (some ⟨b, 0, none⟩), .int .i64 i, .int .i64 g, .int .i64 n] w fun e w' => e = .returned (.bool (stTake l i g n).1) ∧ Own W (stBlocks b bl (stTake l i g n).2 ++ m) w' := by
  have cg := stCellG h hp
  have cn := stCellN h hp
  have hs := stAt_nat hp
  go_enter Try.func20, Try.ntmps20
  go_wp2_with (first | (go_at_call 37; refine (of_in h hl i hi).mono ?_; rintro e w' ⟨rfl, rfl⟩) | (go_at_call 39; refine (whole_spec _ _ _).mono ?_; rintro e w1 ⟨rfl, hb⟩; have h1 := h.then_below hb; have cg1 := stCellG h1 hp; have cn1 := stCellN h1 hp; have f1 := stFree h1 (i * 2); have f2 := stFree h1 (i * 2 + 1)))
  all_goals go_ret
  all_goals first
    | (have e1 : stTake l i g n = (false, l) := by grind [stTake]
       rw [e1]; exact ⟨rfl, h⟩)
    | (have e1 : stTake l i g n = (true, l.set i (stWhole g (k - n))) := by grind [stTake]
       rw [e1]; exact ⟨rfl, stSet h1 hi _ _⟩)

theorem put_close {cpu g n x y z : Int} {l' : List (Int × Int)} {w' : World} (hp : stPut l cpu g n = ((x, y, z), l')) (ho : Own W (stBlocks b bl l' ++ m) w') :
    Ending.returned (.tuple #[.int .i64 x, .int .i64 y, .int .i64 z]) = .returned (.tuple #[.int .i64 (stPut l cpu g n).1.1, .int .i64 (stPut l cpu g n).1.2.1, .int .i64 (stPut l cpu g n).1.2.2]) ∧ Own W (stBlocks b bl (stPut l cpu g n).2 ++ m) w' := by
  rw [hp]; exact ⟨rfl, ho⟩

set_option maxHeartbeats 400000 in
theorem put_in (h : Own W (stBlocks b bl l ++ m) w) (hl : l.length ≤ 8) (i : Nat) (g n k g0 : Int) (hi : i < l.length) (hp : l[i]? = some (g0, k)) (hk : 0 ≤ k ∧ k ≤ 1024) :
    Calls Try.prog 21 #[.pointer (some ⟨b, 0, none⟩), .int .i64 i, .int .i64 g, .int .i64 n] w fun e w' => e = .returned (.tuple #[.int .i64 (stPut l i g n).1.1, .int .i64 (stPut l i g n).1.2.1, .int .i64 (stPut l i g n).1.2.2]) ∧ Own W (stBlocks b bl (stPut l i g n).2 ++ m) w' := by
  have cg := stCellG h hp
  have cn := stCellN h hp
  have fg := stFree h (i * 2)
  have fn := stFree h (i * 2 + 1)
  have c0 := stHead h
  have hs := stAt_nat hp
  have hlt := (stLt h).2
  have hl0 : (((l.length : Nat) : Int) == 0) = false := by rw [beq_eq_false_iff_ne]; omega
  go_enter Try.func21, Try.ntmps21
  go_wp2_with (first | (go_at_call 37; refine (of_in h hl i hi).mono ?_; rintro e w' ⟨rfl, rfl⟩) | (go_at_call 39; refine (whole_spec _ _ _).mono ?_; rintro e w1 ⟨rfl, hb⟩; have h1 := (h.new _).then_below hb; have cg1 := stCellG h1.skip hp; have cn1 := stCellN h1.skip hp; have f1 := stFree h1.skip (i * 2); have f2 := stFree h1.skip (i * 2 + 1); have q0 := h1.cell List.mem_cons_self 0; have q1 := h1.cell List.mem_cons_self 1; simp at q0 q1))
  all_goals (try go_quiet (fail))
  all_goals (try go_wp2)
  all_goals go_ret3
  all_goals first
    | refine put_close ?_ h
    | refine put_close ?_ (h.alloc _)
    | refine put_close ?_ (stSet h1.skip hi _ _)
    | refine put_close ?_ ((stSet h1.skip hi _ _).drewN _)
    | refine put_close ?_ ((stSet h hi _ _).alloc _)
  all_goals clear cg cn fg fn c0 hlt
  all_goals grind [stPut]

set_option maxHeartbeats 400000 in
theorem drain_in (h : Own W (stBlocks b bl l ++ m) w) (hl : l.length ≤ 8) (i : Nat) (k g0 : Int) (hi : i < l.length) (hp : l[i]? = some (g0, k)) :
    Calls Try.prog 22 #[.pointer (some ⟨b, 0, none⟩), .int .i64 i] w fun e w' => e = .returned (.tuple #[.int .i64 g0, .int .i64 k]) ∧ Own W (stBlocks b bl (l.set i (0, 0)) ++ m) w' := by
  have cg := stCellG h hp
  have cn := stCellN h hp
  have fg := stFree h (i * 2)
  have fn := stFree h (i * 2 + 1)
  have hlt := (stLt h).2
  go_enter Try.func22, Try.ntmps22
  go_wp2_with (first | (go_at_call 37; refine (of_in h hl i hi).mono ?_; rintro e w' ⟨rfl, rfl⟩) | fail)
  go_quiet (fail)
  go_wp2
  go_ret2
  exact ⟨rfl, ((stSet h hi _ _).alloc _).drewN _⟩

set_option maxHeartbeats 400000 in
theorem has_in (h : Own W (stBlocks b bl l ++ m) w) (hl : l.length ≤ 8) (i : Nat) (k g0 : Int) (hi : i < l.length) (hp : l[i]? = some (g0, k)) :
    Calls Try.prog 14 #[.pointer (some ⟨b, 0, none⟩), .int .i64 i] w fun e w' => e = .returned (.tuple #[.int .i64 g0, .int .i64 k]) ∧ Own W (stBlocks b bl l ++ m) w' := by
  have cg := stCellG h hp
  have cn := stCellN h hp
  go_enter Try.func14, Try.ntmps14
  go_wp2_with (first | (go_at_call 37; refine (of_in h hl i hi).mono ?_; rintro e w' ⟨rfl, rfl⟩) | fail)
  go_quiet (fail)
  go_wp2
  go_ret2
  exact ⟨rfl, h.drewN _⟩

set_option maxHeartbeats 400000 in
theorem take_out (h : Own W (stBlocks b bl l ++ m) w) (hl : l.length ≤ 8) (cpu g n : Int) (hc : cpu < 0 ∨ l.length ≤ cpu) :
    Calls Try.prog 20 #[.pointer (some ⟨b, 0, none⟩), .int .i64 cpu, .int .i64 g, .int .i64 n] w fun e w' => e = .returned (.bool false) ∧ Own W (stBlocks b bl l ++ m) w' := by
  go_enter Try.func20, Try.ntmps20
  go_wp2_with (first | (go_at_call 37; refine (of_out h hl cpu hc).mono ?_; rintro e w' ⟨rfl, rfl⟩) | fail)
  go_ret
  exact ⟨rfl, h⟩
set_option maxHeartbeats 400000 in
theorem put_out (h : Own W (stBlocks b bl l ++ m) w) (hl : l.length ≤ 8) (hl0 : 1 ≤ l.length) (cpu g n : Int) (hc : cpu < 0 ∨ l.length ≤ cpu) :
    Calls Try.prog 21 #[.pointer (some ⟨b, 0, none⟩), .int .i64 cpu, .int .i64 g, .int .i64 n] w fun e w' => e = .returned (.tuple #[.int .i64 0, .int .i64 0, .int .i64 9]) ∧ Own W (stBlocks b bl l ++ m) w' := by
  have c0 := stHead h
  have hl1 : (((l.length : Nat) : Int) == 0) = false := by rw [beq_eq_false_iff_ne]; omega
  go_enter Try.func21, Try.ntmps21
  go_wp2_with (first | (go_at_call 37; refine (of_out h hl cpu hc).mono ?_; rintro e w' ⟨rfl, rfl⟩) | fail)
  go_ret3
  exact ⟨rfl, h⟩
set_option maxHeartbeats 400000 in
theorem drain_out (h : Own W (stBlocks b bl l ++ m) w) (hl : l.length ≤ 8) (cpu : Int) (hc : cpu < 0 ∨ l.length ≤ cpu) :
    Calls Try.prog 22 #[.pointer (some ⟨b, 0, none⟩), .int .i64 cpu] w fun e w' => e = .returned (.tuple #[.int .i64 0, .int .i64 0]) ∧ Own W (stBlocks b bl l ++ m) w' := by
  go_enter Try.func22, Try.ntmps22
  go_wp2_with (first | (go_at_call 37; refine (of_out h hl cpu hc).mono ?_; rintro e w' ⟨rfl, rfl⟩) | fail)
  go_ret2
  exact ⟨rfl, h⟩
set_option maxHeartbeats 400000 in
theorem has_out (h : Own W (stBlocks b bl l ++ m) w) (hl : l.length ≤ 8) (cpu : Int) (hc : cpu < 0 ∨ l.length ≤ cpu) :
    Calls Try.prog 14 #[.pointer (some ⟨b, 0, none⟩), .int .i64 cpu] w fun e w' => e = .returned (.tuple #[.int .i64 0, .int .i64 0]) ∧ Own W (stBlocks b bl l ++ m) w' := by
  go_enter Try.func14, Try.ntmps14
  go_wp2_with (first | (go_at_call 37; refine (of_out h hl cpu hc).mono ?_; rintro e w' ⟨rfl, rfl⟩) | fail)
  go_ret2
  exact ⟨rfl, h⟩

/-- stocks as they may be -/
def StOk (l : List (Int × Int)) : Prop := 1 ≤ l.length ∧ l.length ≤ 8 ∧ ∀ p ∈ l, p = (0, 0) ∨ 1 ≤ p.1 ∧ p.1 ≤ 16 ∧ 1 ≤ p.2 ∧ p.2 ≤ 1024
theorem StOk.at_ (h : StOk l) {i : Nat} {p : Int × Int} (hp : l[i]? = some p) : 0 ≤ p.2 ∧ p.2 ≤ 1024 := by
  rcases h.2.2 p (List.mem_of_getElem? hp) with rfl | h
  · simp
  · omega
theorem StOk.all (h : StOk l) : ∀ p ∈ l, 0 ≤ p.2 ∧ p.2 ≤ 1024 := fun p hp => by
  rcases h.2.2 p hp with rfl | h
  · simp
  · omega
theorem StOk.set (h : StOk l) (i : Nat) {p : Int × Int} (hp : p = (0, 0) ∨ 1 ≤ p.1 ∧ p.1 ≤ 16 ∧ 1 ≤ p.2 ∧ p.2 ≤ 1024) : StOk (l.set i p) :=
  ⟨by simpa using h.1, by simpa using h.2.1, fun q hq => by
    rcases List.mem_or_eq_of_mem_set hq with hq | rfl
    · exact h.2.2 q hq
    · exact hp⟩
theorem StOk.whole (h : StOk l) (i : Nat) {g n : Int} (hg : 1 ≤ g ∧ g ≤ 16) (hn : 0 ≤ n ∧ n ≤ 1024) : StOk (l.set i (stWhole g n)) :=
  h.set i (by unfold stWhole; split <;> simp <;> omega)
theorem StOk.take (h : StOk l) (cpu g n : Int) : StOk (stTake l cpu g n).2 := by
  unfold stTake
  split
  · rename_i p hs
    obtain ⟨i, rfl, hi, hp⟩ := stAt_in hs
    split
    · rcases h.2.2 p (List.mem_of_getElem? hp) with rfl | h'
      · simp at *; omega
      · exact h.whole _ (by omega) (by omega)
    · exact h
  · exact h
theorem StOk.put (h : StOk l) (cpu g n : Int) : StOk (stPut l cpu g n).2 := by
  unfold stPut
  split
  · exact h
  · rename_i p hs
    obtain ⟨i, rfl, hi, hp⟩ := stAt_in hs
    have hb := h.at_ hp
    (repeat' split) <;> first
      | exact h
      | (simp only [not_or, Int.not_lt] at *; exact h.whole _ (by omega) (by omega))
      | (simp only [not_or, Int.not_lt] at *; exact h.set _ (.inr ⟨by omega, by omega, by simp, by simp⟩))
theorem StOk.drain (h : StOk l) (cpu : Int) : StOk (stDrain l cpu).2 := by
  unfold stDrain
  split
  · exact h
  · exact h.set _ (.inl rfl)

theorem take_spec (h : Own W (stBlocks b bl l ++ m) w) (ok : StOk l) (cpu g n : Int) :
    Calls Try.prog 20 #[.pointer (some ⟨b, 0, none⟩), .int .i64 cpu, .int .i64 g, .int .i64 n] w fun e w' => e = .returned (.bool (stTake l cpu g n).1) ∧ Own W (stBlocks b bl (stTake l cpu g n).2 ++ m) w' := by
  cases hs : stAt l cpu with
  | none => rw [show stTake l cpu g n = (false, l) from by simp [stTake, hs]]; exact take_out h ok.2.1 cpu g n (stAt_out hs)
  | some p =>
    obtain ⟨i, rfl, hi, hp⟩ := stAt_in hs
    exact take_in h ok.2.1 i g n p.2 p.1 hi hp (ok.at_ hp)
theorem put_spec (h : Own W (stBlocks b bl l ++ m) w) (ok : StOk l) (cpu g n : Int) :
    Calls Try.prog 21 #[.pointer (some ⟨b, 0, none⟩), .int .i64 cpu, .int .i64 g, .int .i64 n] w fun e w' => e = .returned (.tuple #[.int .i64 (stPut l cpu g n).1.1, .int .i64 (stPut l cpu g n).1.2.1, .int .i64 (stPut l cpu g n).1.2.2]) ∧ Own W (stBlocks b bl (stPut l cpu g n).2 ++ m) w' := by
  cases hs : stAt l cpu with
  | none => rw [show stPut l cpu g n = ((0, 0, 9), l) from by simp [stPut, hs]]; exact put_out h ok.2.1 ok.1 cpu g n (stAt_out hs)
  | some p =>
    obtain ⟨i, rfl, hi, hp⟩ := stAt_in hs
    exact put_in h ok.2.1 i g n p.2 p.1 hi hp (ok.at_ hp)
theorem drain_spec (h : Own W (stBlocks b bl l ++ m) w) (ok : StOk l) (cpu : Int) :
    Calls Try.prog 22 #[.pointer (some ⟨b, 0, none⟩), .int .i64 cpu] w fun e w' => e = .returned (.tuple #[.int .i64 (stDrain l cpu).1.1, .int .i64 (stDrain l cpu).1.2]) ∧ Own W (stBlocks b bl (stDrain l cpu).2 ++ m) w' := by
  cases hs : stAt l cpu with
  | none => rw [show stDrain l cpu = ((0, 0), l) from by simp [stDrain, hs]]; exact drain_out h ok.2.1 cpu (stAt_out hs)
  | some p =>
    obtain ⟨i, rfl, hi, hp⟩ := stAt_in hs
    rw [show stDrain l i = (p, l.set i (0, 0)) from by simp [stDrain, hs]]
    exact drain_in h ok.2.1 i p.2 p.1 hi hp
theorem has_spec (h : Own W (stBlocks b bl l ++ m) w) (ok : StOk l) (cpu : Int) :
    Calls Try.prog 14 #[.pointer (some ⟨b, 0, none⟩), .int .i64 cpu] w fun e w' => e = .returned (.tuple #[.int .i64 (stHas l cpu).1, .int .i64 (stHas l cpu).2]) ∧ Own W (stBlocks b bl l ++ m) w' := by
  cases hs : stAt l cpu with
  | none => rw [show stHas l cpu = (0, 0) from by simp [stHas, hs]]; exact has_out h ok.2.1 cpu (stAt_out hs)
  | some p =>
    obtain ⟨i, rfl, hi, hp⟩ := stAt_in hs
    rw [show stHas l i = p from by simp [stHas, hs]]
    exact has_in h ok.2.1 i p.2 p.1 hi hp

/-- how many bytes of a group all have -/
def stHeld (l : List (Int × Int)) (g : Int) : Int := (l.map fun p => if p.1 = g then p.2 else 0).sum
theorem stHeld_take (g : Int) : ∀ (l : List (Int × Int)) (k : Nat) (p : Int × Int), l[k]? = some p → stHeld (l.take (k + 1)) g = stHeld (l.take k) g + if p.1 = g then p.2 else 0
  | [], k, p, h => by simp at h
  | q :: l, 0, p, h => by simp at h; subst h; simp [stHeld]
  | q :: l, k + 1, p, h => by
    have := stHeld_take g l k p (by simpa using h)
    simp [stHeld] at this ⊢
    omega
theorem stHeld_bd (g : Int) : ∀ (l : List (Int × Int)), (∀ p ∈ l, 0 ≤ p.2 ∧ p.2 ≤ 1024) → 0 ≤ stHeld l g ∧ stHeld l g ≤ 1024 * l.length
  | [], h => by simp [stHeld]
  | q :: l, h => by
    have h1 := stHeld_bd g l (fun p hp => h p (List.mem_cons_of_mem _ hp))
    have h2 := h q List.mem_cons_self
    simp [stHeld] at h1 ⊢
    split <;> omega

set_option maxHeartbeats 400000 in
theorem held_spec (h : Own W (stBlocks b bl l ++ m) w) (ok : StOk l) (g : Int) :
    Calls Try.prog 16 #[.pointer (some ⟨b, 0, none⟩), .int .i64 g] w fun e w' => e = .returned (.int .i64 (stHeld l g)) ∧ Own W (stBlocks b bl l ++ m) w' := by
  have c0 := stHead h
  have hl8 := ok.2.1
  go_enter Try.func16, Try.ntmps16
  go_wp2
  go_loopw [4, 6, 14] (fun n _ k wr => ∃ i : Nat, i ≤ l.length ∧ k = .int .i64 i ∧ n = .int .i64 (stHeld (l.take i) g) ∧ Own W (stBlocks b bl l ++ m) wr) (fun _ _ k _ => l.length - (intOf k).toNat)
  case atStart => exact ⟨0, Nat.zero_le _, rfl, by simp [stHeld], h⟩
  case round =>
    obtain ⟨i, hi, rfl, rfl, hr⟩ := hrel
    by_cases hlt : i < l.length
    · obtain ⟨p, hp⟩ : ∃ p, l[i]? = some p := ⟨_, List.getElem?_eq_getElem hlt⟩
      have cg := stCellG hr hp
      have cn := stCellN hr hp
      have hbl := (stLt hr).2
      have b1 := stHeld_bd g (l.take i) (fun q hq => ok.all q (List.mem_of_mem_take hq))
      have b2 := ok.at_ hp
      have b3 : (l.take i).length ≤ 8 := by rw [List.length_take]; omega
      have HS := stHeld_take g l i p hp
      by_cases hg : p.1 = g
      · rw [if_pos hg] at HS
        have H := Lib.hid HS
        clear HS
        go_wp2
        go_roundw
        case rel => exact ⟨i + 1, by omega, by go_num, by rw [H.out], hr.alloc _⟩
        case measure => simp [intOf]; omega
      · rw [if_neg hg] at HS
        have H := Lib.hid HS
        clear HS
        have hg' : (p.1 == g) = false := by simpa using hg
        go_wp2
        go_roundw
        case rel => exact ⟨i + 1, by omega, by go_num, by rw [H.out]; go_num, hr.alloc _⟩
        case measure => simp [intOf]; omega
    · obtain rfl : i = l.length := by omega
      go_wp2
      go_ret
      exact ⟨by simp, hr⟩
end

theorem stCells_zero (n : Nat) : stCells (List.replicate n (0, 0)) = Array.replicate (n * 2) (.int .i64 0) := by
  apply Array.ext'
  induction n with
  | zero => rfl
  | succ n ih =>
    simp only [stCells, List.replicate_succ, List.flatMap_cons, Array.toList_replicate, show (n + 1) * 2 = n * 2 + 1 + 1 from by omega] at ih ⊢
    simp [ih]
theorem one_info : (Try.prog.info? 79).map (fun i => (i.zero, i.size, i.bytes)) = some (some (.agg #[.int .i64 0, .int .i64 0]), 2, 16) := by kernel_rfl
set_option maxHeartbeats 400000 in
theorem new_ok {W : World} {m : List (Nat × Obj)} {w : World} (h : Own W m w) (k : Int) (h1 : 1 ≤ k) (h8 : k ≤ 8) :
    Calls Try.prog 11 #[.int .i64 k] w fun e w' => ∃ b bl, e = .returned (.tuple #[.pointer (some ⟨b, 0, none⟩), .int .i64 0]) ∧ Own W (stBlocks b bl (List.replicate k.toNat (0, 0)) ++ m) w' := by
  obtain ⟨n, rfl⟩ := Int.eq_ofNat_of_zero_le (show 0 ≤ k from by omega)
  rw [Int.toNat_natCast]
  obtain ⟨i, hi, hz, hs, hb⟩ := info_get one_info
  have hmk := fun W => run_make_rowN (P := Try.prog) 46 79 i _ Try.underlying46 hi hz .i64 .i64 n n (Nat.le_refl _) (by rw [hb]; omega) (by omega) W
  rw [hs, madeCells_const _ (.int .i64 0) _ (by simp [Value.cells]) (by intro j hj; obtain rfl | rfl : j = 0 ∨ j = 1 := (by simp [Value.cells] at hj; omega) <;> rfl), ← stCells_zero] at hmk
  go_enter Try.func11, Try.ntmps11
  go_wp2
  go_ret2
  refine ⟨w.heap.size + 1, w.heap.size, rfl, ?_⟩
  have h2 := (h.new (.cells (stCells (List.replicate n (0, 0))) 79)).new (.cells #[.slice (some ⟨w.heap.size, 0, none⟩) n n] 48)
  simpa [stBlocks] using h2
set_option maxHeartbeats 400000 in
theorem new_bad (n : Int) (hn : n < 1 ∨ 8 < n) (w : World) :
    Calls Try.prog 11 #[.int .i64 n] w fun e w' => e = .returned (.tuple #[.pointer none, .int .i64 2]) ∧ w = w' := by
  go_enter Try.func11, Try.ntmps11
  go_wp2
  all_goals (try omega)
  all_goals go_ret2
  all_goals exact ⟨rfl, rfl⟩

section
variable {W : World} {m : List (Nat × Obj)} {w : World} {b bl : Nat} {l l' : List (Int × Int)}
theorem take_at (h : Own W (stBlocks b bl l ++ m) w) (ok : StOk l) (cpu g n : Int) {r : Bool} (e : stTake l cpu g n = (r, l')) :
    Calls Try.prog 20 #[.pointer (some ⟨b, 0, none⟩), .int .i64 cpu, .int .i64 g, .int .i64 n] w fun e w' => e = .returned (.bool r) ∧ Own W (stBlocks b bl l' ++ m) w' := by
  have c := take_spec h ok cpu g n
  rwa [e] at c
theorem put_at (h : Own W (stBlocks b bl l ++ m) w) (ok : StOk l) (cpu g n : Int) {x y z : Int} (e : stPut l cpu g n = ((x, y, z), l')) :
    Calls Try.prog 21 #[.pointer (some ⟨b, 0, none⟩), .int .i64 cpu, .int .i64 g, .int .i64 n] w fun e w' => e = .returned (.tuple #[.int .i64 x, .int .i64 y, .int .i64 z]) ∧ Own W (stBlocks b bl l' ++ m) w' := by
  have c := put_spec h ok cpu g n
  rwa [e] at c
theorem drain_at (h : Own W (stBlocks b bl l ++ m) w) (ok : StOk l) (cpu : Int) {x y : Int} (e : stDrain l cpu = ((x, y), l')) :
    Calls Try.prog 22 #[.pointer (some ⟨b, 0, none⟩), .int .i64 cpu] w fun e w' => e = .returned (.tuple #[.int .i64 x, .int .i64 y]) ∧ Own W (stBlocks b bl l' ++ m) w' := by
  have c := drain_spec h ok cpu
  rwa [e] at c
theorem has_at (h : Own W (stBlocks b bl l ++ m) w) (ok : StOk l) (cpu : Int) {x y : Int} (e : stHas l cpu = (x, y)) :
    Calls Try.prog 14 #[.pointer (some ⟨b, 0, none⟩), .int .i64 cpu] w fun e w' => e = .returned (.tuple #[.int .i64 x, .int .i64 y]) ∧ Own W (stBlocks b bl l ++ m) w' := by
  have c := has_spec h ok cpu
  rwa [e] at c
theorem held_at (h : Own W (stBlocks b bl l ++ m) w) (ok : StOk l) (g : Int) {x : Int} (e : stHeld l g = x) :
    Calls Try.prog 16 #[.pointer (some ⟨b, 0, none⟩), .int .i64 g] w fun e w' => e = .returned (.int .i64 x) ∧ Own W (stBlocks b bl l ++ m) w' := by
  have c := held_spec h ok g
  rwa [e] at c
end
end Go.Proofs.Ytpmnababdjdniaa
