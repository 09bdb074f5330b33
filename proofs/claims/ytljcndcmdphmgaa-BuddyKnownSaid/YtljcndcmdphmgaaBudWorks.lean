/-
  wainscotlaw06.works answers true.
-/
import Derived.Test.YtljcndcmdphmgaaBudAt
import Derived.Test.YtljcndcmdphmgaaLit
namespace Go.Proofs.Ytljcndcmdphmgaa.law06
open Go.RowKit
set_option maxRecDepth 100000 in
set_option maxHeartbeats 4000000 in
theorem works_spec {W : World} {m : List (Nat × Obj)} {w : World} (h : Own W m w) :
    Calls Try.prog 20 #[] w fun e w' => e = .returned (.bool true) ∧ Own W m w' := by
  have C7 := Lib.hid c7
  go_enter Try.func20, Try.ntmps20
  go_wp2_with fail
  refine (bnew_ok h 7 (by omega) (by omega)).mono ?_
  rintro e w1 ⟨pb, bl, rfl, hb, h1⟩
  rw [fresh7] at hb
  go_wp2_with fail
  refine (frees_at h1 hb C7.out.1 2 (by omega) (l := [0]) (by decide +kernel)).mono ?_
  rintro e w2 ⟨v1, bs1, rfl, o1, h2⟩
  go_wp2_with fail
  have q2 := lit_own h2 [0] (by decide)
  refine (eqInts_yes (o1.src (h2.alloc _)) (q2.1.src q2.2) (by decide) rfl (h2.alloc (.cells (ints [0]).toArray 3))).mono ?_
  rintro e w3 ⟨rfl, h3⟩
  have h3 := h3.dropL
  go_wp2_with fail
  refine (frees_at h3 hb C7.out.1 1 (by omega) (l := [4]) (by decide +kernel)).mono ?_
  rintro e w4 ⟨v3, bs3, rfl, o3, h4⟩
  go_wp2_with fail
  have q4 := lit_own h4 [4] (by decide)
  refine (eqInts_yes (o3.src (h4.alloc _)) (q4.1.src q4.2) (by decide) rfl (h4.alloc (.cells (ints [4]).toArray 3))).mono ?_
  rintro e w5 ⟨rfl, h5⟩
  have h5 := h5.dropL
  go_wp2_with fail
  refine (frees_at h5 hb C7.out.1 0 (by omega) (l := [6]) (by decide +kernel)).mono ?_
  rintro e w6 ⟨v5, bs5, rfl, o5, h6⟩
  go_wp2_with fail
  have q6 := lit_own h6 [6] (by decide)
  refine (eqInts_yes (o5.src (h6.alloc _)) (q6.1.src q6.2) (by decide) rfl (h6.alloc (.cells (ints [6]).toArray 3))).mono ?_
  rintro e w7 ⟨rfl, h7⟩
  have h7 := h7.dropL
  go_wp2_with fail
  refine (alloc_at h7 hb C7.out.1 0 1 (by omega) (by omega) (by omega) (a := 6) (k := 0) (L' := t7a) (by decide +kernel) (by decide +kernel)).mono ?_
  clear hb
  rintro e w8 ⟨bl, rfl, hb, h8⟩
  go_wp2_with fail
  refine (alloc_at h8 hb C7.out.2.1 0 1 (by omega) (by omega) (by omega) (a := 4) (k := 1) (L' := t7b) (by decide +kernel) (by decide +kernel)).mono ?_
  clear hb
  rintro e w9 ⟨bl, rfl, hb, h9⟩
  go_wp2_with fail
  refine (alloc_at h9 hb C7.out.2.2.1 0 1 (by omega) (by omega) (by omega) (a := 5) (k := 0) (L' := t7c) (by decide +kernel) (by decide +kernel)).mono ?_
  clear hb
  rintro e w10 ⟨bl, rfl, hb, h10⟩
  go_wp2_with fail
  refine (frees_at h10 hb C7.out.2.2.2.1 1 (by omega) (l := []) (by decide +kernel)).mono ?_
  rintro e w11 ⟨v10, bs10, rfl, o10, h11⟩
  obtain ⟨A11, k11, rfl, -, -⟩ := SlO.slice o10
  have h11 := h11.dropL
  go_wp2_with fail
  refine (free_at h11 hb C7.out.2.2.2.1 4 0 (c0 := 1) (L' := t7d) (by decide +kernel) (by decide +kernel)).mono ?_
  clear hb
  rintro e w12 ⟨bl, rfl, hb, h12⟩
  go_wp2_with fail
  refine (free_at h12 hb C7.out.2.2.2.2.1 5 0 (c0 := 1) (L' := t7a) (by decide +kernel) (by decide +kernel)).mono ?_
  clear hb
  rintro e w13 ⟨bl, rfl, hb, h13⟩
  go_wp2_with fail
  refine (frees_at h13 hb C7.out.2.1 1 (by omega) (l := [4]) (by decide +kernel)).mono ?_
  rintro e w14 ⟨v13, bs13, rfl, o13, h14⟩
  go_wp2_with fail
  have q14 := lit_own h14 [4] (by decide)
  refine (eqInts_yes (o13.src (h14.alloc _)) (q14.1.src q14.2) (by decide) rfl (h14.alloc (.cells (ints [4]).toArray 3))).mono ?_
  rintro e w15 ⟨rfl, h15⟩
  have h15 := h15.dropL
  go_wp2_with fail
  refine (Free_bad h15 hb (by decide) 5 (fun p _ hp => by revert hp; rw [show t7a[Int.toNat 5]? = some (1, 0, 0) from rfl]; intro hp; cases hp; decide)).mono ?_
  rintro e w16 ⟨rfl, h16⟩
  go_wp2_with fail
  refine (bnew_ok h16 8 (by omega) (by omega)).mono ?_
  rintro e w17 ⟨pb2, bl2, rfl, hb2, h17⟩
  rw [fresh8] at hb2
  go_wp2_with fail
  refine (alloc_at h17 hb2 C7.out.2.2.2.2.2.1 1 0 (by omega) (by omega) (by omega) (a := 0) (k := 2) (L' := t8a) (by decide +kernel) (by decide +kernel)).mono ?_
  clear hb2
  rintro e w18 ⟨bl3, rfl, hb2, h18⟩
  go_wp2_with fail
  refine (frees_at h18 hb2 C7.out.2.2.2.2.2.2 2 (by omega) (l := [4]) (by decide +kernel)).mono ?_
  rintro e w19 ⟨v18, bs18, rfl, o18, h19⟩
  go_wp2_with fail
  have q19 := lit_own h19 [4] (by decide)
  refine (eqInts_yes (o18.src (h19.alloc _)) (q19.1.src q19.2) (by decide) rfl (h19.alloc (.cells (ints [4]).toArray 3))).mono ?_
  rintro e w20 ⟨rfl, h20⟩
  have h20 := h20.dropL
  go_wp2_with fail
  refine (frees_at h20 hb2 C7.out.2.2.2.2.2.2 1 (by omega) (l := [2]) (by decide +kernel)).mono ?_
  rintro e w21 ⟨v20, bs20, rfl, o20, h21⟩
  go_wp2_with fail
  have q21 := lit_own h21 [2] (by decide)
  refine (eqInts_yes (o20.src (h21.alloc _)) (q21.1.src q21.2) (by decide) rfl (h21.alloc (.cells (ints [2]).toArray 3))).mono ?_
  rintro e w22 ⟨rfl, h22⟩
  have h22 := h22.dropL
  go_wp2_with fail
  go_ret
  exact ⟨rfl, h22.dropL.dropL⟩
end Go.Proofs.Ytljcndcmdphmgaa.law06
