import Derived.Test.YtigakendeghoaaaFs8
import Derived.Test.YtigakendeghoaaaFs7
/-
  A task that is alone: four steps. Plain. No condition.
-/
namespace Go.Proofs.Ytigakendeghoaaa.Fast
open See Step
section
variable {O key T : Nat} {g : List Nat} {L : List Int} {x o : Int}
/-- what a run of four steps must be, for through -/
structure Four (O key : Nat) (t0 t4 : TaskP) (g g' : List Nat) : Prop where
  run : runP (ch O key) 4 t0 g = (t4, g')
  mid : ∀ i, i < 4 → inT (runP (ch O key) i t0 g).1.pc ∧ (runP (ch O key) i t0 g).1.end_ = 0 ∧ (runP (ch O key) i t0 g).1.want = 0 ∧ W64 (runP (ch O key) i t0 g).2 ∧ (runP (ch O key) i t0 g).2.length = 12 + O
theorem four_of {t0 t1 t2 t3 t4 : TaskP} {g1 g2 g3 g4 : List Nat} (s1 : stepP (ch O key) g t0 = (t1, g1)) (s2 : stepP (ch O key) g1 t1 = (t2, g2)) (s3 : stepP (ch O key) g2 t2 = (t3, g3)) (s4 : stepP (ch O key) g3 t3 = (t4, g4))
    (a0 : inT t0.pc ∧ t0.end_ = 0 ∧ t0.want = 0 ∧ W64 g ∧ g.length = 12 + O) (a1 : inT t1.pc ∧ t1.end_ = 0 ∧ t1.want = 0 ∧ W64 g1 ∧ g1.length = 12 + O) (a2 : inT t2.pc ∧ t2.end_ = 0 ∧ t2.want = 0 ∧ W64 g2 ∧ g2.length = 12 + O) (a3 : inT t3.pc ∧ t3.end_ = 0 ∧ t3.want = 0 ∧ W64 g3 ∧ g3.length = 12 + O) :
    Four O key t0 t4 g g4 := by
  have r0 : runP (ch O key) 0 t0 g = (t0, g) := rfl
  have r1 : runP (ch O key) 1 t0 g = (t1, g1) := by rw [runP_succ, r0]; exact s1
  have r2 : runP (ch O key) 2 t0 g = (t2, g2) := by rw [runP_succ, r1]; exact s2
  have r3 : runP (ch O key) 3 t0 g = (t3, g3) := by rw [runP_succ, r2]; exact s3
  refine ⟨by rw [runP_succ, r3]; exact s4, fun i hi => ?_⟩
  match i, hi with
  | 0, _ => rw [r0]; exact a0
  | 1, _ => rw [r1]; exact a1
  | 2, _ => rw [r2]; exact a2
  | 3, _ => rw [r3]; exact a3
theorem up64_lt (n : Nat) : up64 n < 18446744073709551616 := by unfold up64; omega
theorem alloc4 (h : Good O key g (x :: L) T) (hO : O ≤ 16) :
    ∃ t4 g', Four O key { job := 1 } t4 g g' ∧ t4.end_ = 1 ∧ t4.obj = x ∧ Good O key g' L (up64 T) := by
  have hx := h.bd x List.mem_cons_self
  have hf : -1 ≤ fst L ∧ fst L < O := fst_in fun y hy => h.bd y (List.mem_cons_of_mem _ hy)
  have hg : W64 g ∧ g.length = 12 + O := ⟨h.w64, h.len⟩
  have s1 := st_turn h (t := { job := 1 }) rfl (.inl rfl)
  have s2 := st_look1 h hO (t := { job := 1, t := T, pc := 1 }) rfl rfl
  have s3 := st_next (O := O) (key := key) (g := g) (t := { job := 1, t := T, pc := 2, h := headW 0 x, slab := 0, obj := x }) (n := fst L) rfl hx rfl hf.2 h.lk.1
  have s4 := st_swap h hO (t := { job := 1, t := T, pc := 3, h := headW 0 x, slab := 0, obj := x, last := fst L }) rfl rfl rfl hf
  rw [if_pos ⟨rfl, rfl⟩] at s4
  exact ⟨_, _, four_of s1 s2 s3 s4 ⟨by unfold inT; simp, rfl, rfl, hg⟩ ⟨by unfold inT; simp, rfl, rfl, hg⟩ ⟨by unfold inT; simp, rfl, rfl, hg⟩ ⟨by unfold inT; simp, rfl, rfl, hg⟩, rfl, rfl,
    h.turn_ hO (up64_lt _) (List.nodup_cons.1 h.nd).2 (fun y hy => h.bd y (List.mem_cons_of_mem _ hy)) h.lk.2⟩
theorem free4 (h : Good O key g L T) (hO : O ≤ 16) (ho : 0 ≤ o ∧ o < O) (hn : o ∉ L) :
    ∃ t4 g', Four O key { job := 2, pc := 10, obj := o } t4 g g' ∧ t4.end_ = 1 ∧ Good O key g' (o :: L) (up64 T) := by
  have hf := h.first
  have hg : W64 g ∧ g.length = 12 + O := ⟨h.w64, h.len⟩
  have hw : hideW (fst L) (See.keyOf key 0) o.toNat < 18446744073709551616 := hide_lt (by omega)
  have h2 := h.tie ho.1 hn hw
  have hg2 : W64 (g.set (12 + o.toNat) (hideW (fst L) (See.keyOf key 0) o.toNat)) ∧ (g.set (12 + o.toNat) (hideW (fst L) (See.keyOf key 0) o.toNat)).length = 12 + O := ⟨h2.w64, h2.len⟩
  have s1 := st_turn h (t := { job := 2, pc := 10, obj := o }) rfl (.inr rfl)
  have s2 := st_mine h hO (t := { job := 2, pc := 11, obj := o, t := T }) rfl rfl rfl
  have s3 := st_tie (key := key) (g := g) hO (t := { job := 2, pc := 12, obj := o, t := T, h := headW 0 (fst L), last := fst L }) rfl rfl ho hf
  have s4 := st_swap13 h2 hO (t := { job := 2, pc := 13, obj := o, t := T, h := headW 0 (fst L), last := fst L }) rfl rfl rfl ⟨by simp only; omega, ho.2⟩
  rw [if_pos ⟨rfl, rfl⟩] at s4
  refine ⟨_, _, four_of s1 s2 s3 s4 ⟨by unfold inT; simp, rfl, rfl, hg⟩ ⟨by unfold inT; simp, rfl, rfl, hg⟩ ⟨by unfold inT; simp, rfl, rfl, hg⟩ ⟨by unfold inT; simp, rfl, rfl, hg2⟩, rfl,
    h2.turn_ (L' := o :: L) hO (up64_lt _) (List.nodup_cons.2 ⟨hn, h.nd⟩) (fun y hy => ?_) ⟨?_, h2.lk⟩⟩
  · rcases List.mem_cons.1 hy with rfl | hy
    · exact ho
    · exact h.bd y hy
  · rw [at_set_self (by rw [h.len]; omega)]
    exact show_hide hf.1 (by omega)
end
end Go.Proofs.Ytigakendeghoaaa.Fast
