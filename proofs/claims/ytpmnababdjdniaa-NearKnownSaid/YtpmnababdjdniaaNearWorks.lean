/-
  wainscotlaw07.works answers true.
-/
import Derived.Test.YtpmnababdjdniaaNearBoth
import Derived.Test.YtpmnababdjdniaaLit
namespace Go.Proofs.Ytpmnababdjdniaa
open Go.RowKit
section
variable {T : TypeId} {W : World} {m : List (Nat × Obj)} {w : World} {b bl : Nat} {lim : Int} {L : List NL} {X : List (List Int)}
theorem xsNew (n : Nat) (hn : n ≤ 8) {lim : Int} (h0 : 0 ≤ lim) (h1 : lim ≤ 64) : XsAre lim (List.replicate n nlNil) (List.replicate n []) := by
  refine ⟨⟨by simpa using hn, h0, h1, fun x hx => ?_⟩, by simp [nlNil]⟩
  obtain rfl := List.eq_of_mem_replicate hx
  exact ⟨nlNil_ok, by simp [nlNil]⟩
theorem nput_at (h : Own W (nrBlocks T b bl lim L ++ m) w) (o : XsAre lim L X) (hX : 1 ≤ X.length) (cpu p : Int) {xs : List Int} {r : Int} {X' : List (List Int)} (he : nPut X lim cpu p = ((xs, r), X')) :
    Calls Try.prog 30 #[.pointer (some ⟨b, 0, none⟩), .int .i64 cpu, .int .i64 p] w fun e w' => ∃ A c bs L', e = .returned (.tuple #[.slice A xs.length c, .int .i64 r]) ∧ IntsOwn false (.slice A xs.length c) xs bs ∧ XsAre lim L' X' ∧ Own W (bs ++ (nrBlocks T b bl lim L' ++ m)) w' := by
  refine (nput_spec h o (by have := congrArg List.length o.2; simp at this; omega) cpu p).mono ?_
  rintro e w' ⟨v, bs, L', rfl, hv, o', h'⟩
  rw [he] at hv o'
  obtain ⟨A, c, rfl, _⟩ := hv.slice
  exact ⟨A, c, bs, L', by rw [he], hv, o', h'⟩
theorem ntake_at (h : Own W (nrBlocks T b bl lim L ++ m) w) (o : XsAre lim L X) (cpu : Int) {p : Int} {r : Bool} {X' : List (List Int)} (he : nTake X cpu = ((p, r), X')) :
    Calls Try.prog 31 #[.pointer (some ⟨b, 0, none⟩), .int .i64 cpu] w fun e w' => ∃ L', e = .returned (.tuple #[.int .i64 p, .bool r]) ∧ XsAre lim L' X' ∧ Own W (nrBlocks T b bl lim L' ++ m) w' := by
  refine (ntake_spec h o cpu).mono ?_
  rintro e w' ⟨L', rfl, o', h'⟩
  rw [he] at o'
  exact ⟨L', by rw [he], o', h'⟩
theorem ndrain_at (h : Own W (nrBlocks T b bl lim L ++ m) w) (o : XsAre lim L X) (cpu : Int) {xs : List Int} {X' : List (List Int)} (he : nDrain X cpu = (xs, X')) :
    Calls Try.prog 32 #[.pointer (some ⟨b, 0, none⟩), .int .i64 cpu] w fun e w' => ∃ A c bs L', e = .returned (.slice A xs.length c) ∧ IntsOwn false (.slice A xs.length c) xs bs ∧ XsAre lim L' X' ∧ Own W (bs ++ (nrBlocks T b bl lim L' ++ m)) w' := by
  refine (ndrain_spec h o cpu).mono ?_
  rintro e w' ⟨v, bs, L', rfl, hv, o', h'⟩
  rw [he] at hv o'
  obtain ⟨A, c, rfl, _⟩ := hv.slice
  exact ⟨A, c, bs, L', rfl, hv.weak, o', h'⟩
theorem nlist_at (h : Own W (nrBlocks T b bl lim L ++ m) w) (o : XsAre lim L X) (cpu : Int) {xs : List Int} (he : nList X cpu = xs) :
    Calls Try.prog 26 #[.pointer (some ⟨b, 0, none⟩), .int .i64 cpu] w fun e w' => ∃ A c bs, e = .returned (.slice A xs.length c) ∧ IntsOwn false (.slice A xs.length c) xs bs ∧ Own W (bs ++ (nrBlocks T b bl lim L ++ m)) w' := by
  refine (nlist_spec h o cpu).mono ?_
  rintro e w' ⟨v, bs, rfl, hv, h'⟩
  rw [he] at hv
  obtain ⟨A, c, rfl, _⟩ := hv.slice
  exact ⟨A, c, bs, rfl, hv.weak, h'⟩
theorem nhas_at (h : Own W (nrBlocks T b bl lim L ++ m) w) (o : XsAre lim L X) (p : Int) {r : Bool} (he : xHas X p = r) :
    Calls Try.prog 33 #[.pointer (some ⟨b, 0, none⟩), .int .i64 p] w fun e w' => e = .returned (.bool r) ∧ Own W (nrBlocks T b bl lim L ++ m) w' := by
  refine (has_spec h o.1 p).mono ?_
  rintro e w' ⟨rfl, h'⟩
  exact ⟨by rw [o.has, he], h'⟩
end
set_option maxRecDepth 100000 in
set_option maxHeartbeats 1000000 in
theorem works07_spec {W : World} {m : List (Nat × Obj)} {w : World} (h : Own W m w) :
    Calls Try.prog 29 #[] w fun e w' => e = .returned (.bool true) ∧ Own W m w' := by
  go_enter Try.func29, Try.ntmps29
  go_wp2_with fail
  refine (nrNew_ok h 2 2 (by omega) (by omega) (by omega) (by omega)).mono ?_
  rintro e w1 ⟨b, bl, rfl, h1⟩
  have o1 : XsAre 2 (List.replicate (2 : Int).toNat nlNil) [[], []] := xsNew 2 (by omega) (by omega) (by omega)
  go_wp2_with fail
  refine (nput_at h1 o1 (by simp) 0 5 (xs := []) (r := 0) (X' := [[5], []]) (by decide)).mono ?_
  rintro e w2 ⟨A2, c2, b2, L2, rfl, -, o2, h2⟩
  go_wp2_with fail
  refine (nput_at h2.dropL o2 (by simp) 0 6 (xs := []) (r := 0) (X' := [[5, 6], []]) (by decide)).mono ?_
  rintro e w3 ⟨A3, c3, b3, L3, rfl, -, o3, h3⟩
  go_wp2_with fail
  refine (nput_at h3.dropL o3 (by simp) 1 5 (xs := []) (r := 60) (X' := [[5, 6], []]) (by decide)).mono ?_
  rintro e w4 ⟨A4, c4, b4, L4, rfl, -, o4, h4⟩
  go_wp2_with fail
  refine (ntake_at h4.dropL o4 0 (p := 6) (r := true) (X' := [[5], []]) (by decide)).mono ?_
  rintro e w5 ⟨L5, rfl, o5, h5⟩
  go_wp2_with fail
  refine (nhas_at h5 o5 6 (r := false) (by decide)).mono ?_
  rintro e w6 ⟨rfl, h6⟩
  go_wp2_with fail
  refine (nput_at h6 o5 (by simp) 0 6 (xs := []) (r := 0) (X' := [[5, 6], []]) (by decide)).mono ?_
  rintro e w7 ⟨A7, c7, b7, L7, rfl, -, o7, h7⟩
  go_wp2_with fail
  refine (nput_at h7.dropL o7 (by simp) 0 7 (xs := [5, 6]) (r := 0) (X' := [[7], []]) (by decide)).mono ?_
  rintro e w8 ⟨A8, c8, b8, L8, rfl, v8, o8, h8⟩
  go_wp2_with fail
  refine (nlist_at h8.swap o8 0 (xs := [7]) (by decide)).mono ?_
  rintro e w9 ⟨A9, c9, b9, rfl, v9, h9⟩
  go_wp2_with fail
  refine (ndrain_at h9.swap o8 0 (xs := [7]) (X' := [[], []]) (by decide)).mono ?_
  rintro e w10 ⟨A10, c10, b10, L10, rfl, v10, o10, h10⟩
  go_wp2_with fail
  refine (ntake_at h10.swap o10 0 (p := 0) (r := false) (X' := [[], []]) (by decide)).mono ?_
  rintro e w11 ⟨L11, rfl, o11, h11⟩
  go_wp2_with fail
  refine (nput_at h11 o11 (by simp) 2 1 (xs := []) (r := 9) (X' := [[], []]) (by decide)).mono ?_
  rintro e w12 ⟨A12, c12, b12, L12, rfl, -, o12, h12⟩
  have h12' := h12.dropL.dropL
  clear h h1 h2 h3 h4 h5 h6 h7 h8 h9 h10 h11 h12 o1 o2 o3 o4 o5 o7 o8 o10 o11 o12
  go_wp2_with fail
  obtain ⟨y1, g1⟩ := lit_own h12' [5, 6] (by simp)
  refine (eqInts_yes (v8.src g1.dropL.dropL.dropL) (y1.src g1) (by simp) rfl g1).mono ?_
  rintro e w13 ⟨rfl, h13⟩
  go_wp2_with fail
  obtain ⟨y2, g2⟩ := lit_own h13.dropL [7] (by simp)
  refine (eqInts_yes (v9.src g2.dropL.dropL) (y2.src g2) (by simp) rfl g2).mono ?_
  rintro e w14 ⟨rfl, h14⟩
  go_wp2_with fail
  obtain ⟨y3, g3⟩ := lit_own h14.dropL [7] (by simp)
  refine (eqInts_yes (v10.src g3.dropL) (y3.src g3) (by simp) rfl g3).mono ?_
  rintro e w15 ⟨rfl, h15⟩
  go_wp2_with fail
  go_ret
  exact ⟨rfl, h15.dropL.dropL.dropL.dropL⟩
end Go.Proofs.Ytpmnababdjdniaa
