/-
  wainscotlaw13.works answers true.
-/
import Derived.Test.YtpmnababdjdniaaStock
namespace Go.Proofs.Ytpmnababdjdniaa
open Go.RowKit
theorem StOk.one (p : Int × Int) (h : p = (0, 0) ∨ 1 ≤ p.1 ∧ p.1 ≤ 16 ∧ 1 ≤ p.2 ∧ p.2 ≤ 1024) : StOk [p] := ⟨by simp, by simp, by intro q hq; rw [List.mem_singleton.1 hq]; exact h⟩

set_option maxHeartbeats 1000000 in
theorem works_spec {W : World} {m : List (Nat × Obj)} {w : World} (h : Own W m w) :
    Calls Try.prog 18 #[] w fun e w' => e = .returned (.bool true) ∧ Own W m w' := by
  go_enter Try.func18, Try.ntmps18
  go_wp2_with fail
  refine (new_ok h 1 (by omega) (by omega)).mono ?_
  rintro e w1 ⟨b, bl, rfl, h1⟩
  go_wp2_with fail
  refine (put_at h1 (StOk.one _ (by simp)) 0 2 100 (x := 0) (y := 0) (z := 0) (l' := [(2, 100)]) (by decide)).mono ?_
  rintro e w2 ⟨rfl, h2⟩
  go_wp2_with fail
  refine (take_at h2 (StOk.one _ (by simp)) 0 2 40 (r := true) (l' := [(2, 60)]) (by decide)).mono ?_
  rintro e w3 ⟨rfl, h3⟩
  go_wp2_with fail
  refine (take_at h3 (StOk.one _ (by simp)) 0 3 1 (r := false) (l' := [(2, 60)]) (by decide)).mono ?_
  rintro e w4 ⟨rfl, h4⟩
  go_wp2_with fail
  refine (has_at h4 (StOk.one _ (by simp)) 0 (x := 2) (y := 60) (by decide)).mono ?_
  rintro e w5 ⟨rfl, h5⟩
  go_wp2_with fail
  refine (put_at h5 (StOk.one _ (by simp)) 0 3 5 (x := 2) (y := 60) (z := 0) (l' := [(3, 5)]) (by decide)).mono ?_
  rintro e w6 ⟨rfl, h6⟩
  go_wp2_with fail
  refine (put_at h6 (StOk.one _ (by simp)) 0 3 1020 (x := 3) (y := 513) (z := 0) (l' := [(3, 512)]) (by decide)).mono ?_
  rintro e w7 ⟨rfl, h7⟩
  go_wp2_with fail
  refine (has_at h7 (StOk.one _ (by simp)) 0 (x := 3) (y := 512) (by decide)).mono ?_
  rintro e w8 ⟨rfl, h8⟩
  go_wp2_with fail
  refine (held_at h8 (StOk.one _ (by simp)) 2 (x := 0) (by decide)).mono ?_
  rintro e w9 ⟨rfl, h9⟩
  go_wp2_with fail
  refine (drain_at h9 (StOk.one _ (by simp)) 0 (x := 3) (y := 512) (l' := [(0, 0)]) (by decide)).mono ?_
  rintro e w10 ⟨rfl, h10⟩
  go_wp2_with fail
  refine (drain_at h10 (StOk.one _ (by simp)) 0 (x := 0) (y := 0) (l' := [(0, 0)]) (by decide)).mono ?_
  rintro e w11 ⟨rfl, h11⟩
  go_wp2_with fail
  refine (put_at h11 (StOk.one _ (by simp)) 0 17 1 (x := 0) (y := 0) (z := 110) (l' := [(0, 0)]) (by decide)).mono ?_
  rintro e w12 ⟨rfl, h12⟩
  go_wp2_with fail
  go_ret
  exact ⟨rfl, h12.dropL⟩
end Go.Proofs.Ytpmnababdjdniaa
