import Derived.Test.YthjjpmoifgcepaaGreatJh1
/-
  Contracts: tree.of, tree.none, tree.up, for a tree of the root alone.
-/
namespace Go.Proofs.YthjjpmoifgcepaaGreat.Jt
open Go.RowKit
attribute [local go_sem ↓] Go.wp_at_zero Go.wp_at_succ
section
variable {W : World} {m : List (Nat × Obj)} {w : World} {T G c : Nat}
theorem none_spec (h : Own W m w) (hT : w.cell? ⟨T, 0, none⟩ = some (.slice (some ⟨G, 0, none⟩) 1 c)) : Calls Tryz.prog 104 #[.pointer (some ⟨T, 0, none⟩)] w fun e w' => e = .returned (.bool false) ∧ Own W m w' := by
  go_enter Tryz.func104, Tryz.ntmps104
  go_wp2_with fail
  go_ret
  exact ⟨rfl, h⟩
theorem of_one (h : Own W m w) (hTl : T < w.heap.size) (hT : w.cell? ⟨T, 0, none⟩ = some (.slice (some ⟨G, 0, none⟩) 1 c)) (hc : 1 ≤ c) : Calls Tryz.prog 126 #[.pointer (some ⟨T, 0, none⟩), .int .i64 1] w fun e w' => e = .returned (.pointer (some ⟨G, 0, none⟩)) ∧ Own W m w' := by
  go_enter Tryz.func126, Tryz.ntmps126
  go_wp2_with (go_at_call 104; refine (none_spec (Own.self w) hT).mono ?_; rintro e w' ⟨rfl, h1⟩; have h2 := h.of_self h1; have hT2 := (h1.old (a := ⟨T, 0, none⟩) hTl).trans hT)
  go_ret
  exact ⟨rfl, h2⟩
theorem of_zero (h : Own W m w) (hTl : T < w.heap.size) (hT : w.cell? ⟨T, 0, none⟩ = some (.slice (some ⟨G, 0, none⟩) 1 c)) (hc : 1 ≤ c) : Calls Tryz.prog 126 #[.pointer (some ⟨T, 0, none⟩), .int .i64 0] w fun e w' => e = .returned (.pointer none) ∧ Own W m w' := by
  go_enter Tryz.func126, Tryz.ntmps126
  go_wp2_with (go_at_call 104; refine (none_spec (Own.self w) hT).mono ?_; rintro e w' ⟨rfl, h1⟩; have h2 := h.of_self h1; have hT2 := (h1.old (a := ⟨T, 0, none⟩) hTl).trans hT)
  go_ret
  exact ⟨rfl, h2⟩
theorem up_spec (h : Own W m w) (g : Int) : Calls Tryz.prog 107 #[.pointer (some ⟨T, 0, none⟩), .int .i64 g] w fun e w' => ∃ b1 b2, e = .returned (.func (.func 125) #[] #[.pointer (some ⟨b1, 0, none⟩), .pointer (some ⟨b2, 0, none⟩)]) ∧ Own W ((b2, .cells #[.int .i64 g] 3) :: (b1, .cells #[.pointer (some ⟨T, 0, none⟩)] 87) :: m) w' := by
  have h1 := (h.new (.cells #[.pointer (some ⟨T, 0, none⟩)] 87)).new (.cells #[.int .i64 g] 3)
  rw [World.size_alloc] at h1
  go_enter Tryz.func107, Tryz.ntmps107
  go_wp2_with fail
  go_ret
  exact ⟨_, _, rfl, h1⟩
end
end Go.Proofs.YthjjpmoifgcepaaGreat.Jt
