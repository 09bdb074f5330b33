import Derived.Test.YtllbnoojkgbjiaaGreatFq8
/-
  Contracts: the document's heads, parts and counts (wainscotref17). No condition.
-/
namespace Go.Proofs.YtllbnoojkgbjiaaGreat.See
open Go.RowKit
attribute [local go_sem ↓] Go.wp_at_zero Go.wp_at_succ
theorem rhead_ok (s o : Int) (h : headOk s o) (w : World) : Calls Tryz.prog 54 #[.int .i64 s, .int .i64 o] w fun e w' => e = .returned (.tuple #[.int .u64 (headW s o), .int .i64 0]) ∧ w = w' := by
  obtain ⟨h0, h1, h2, h3⟩ := h
  have hb : (s == -1) = false := beq_eq_false_iff_ne.2 (by omega)
  have hw : 64 * (s + 1) + o + 1 = ((headW s o : Nat) : Int) := by unfold headW; omega
  have HW := Lib.hid hw
  have hwr : 0 ≤ 64 * (s + 1) + o + 1 := by omega
  clear hw
  go_enter Tryz.func54, Tryz.ntmps54
  go_wp2_with fail
  go_ret2
  exact ⟨by rw [← HW.out]; rfl, rfl⟩
theorem rhead_none (w : World) : Calls Tryz.prog 54 #[.int .i64 (-1), .int .i64 (-1)] w fun e w' => e = .returned (.tuple #[.int .u64 0, .int .i64 0]) ∧ w = w' := by
  go_enter Tryz.func54, Tryz.ntmps54
  go_wp2_with fail
  go_ret2
  exact ⟨rfl, rfl⟩
theorem rhead_bad (s o : Int) (h : ¬ headOk s o) (hn : ¬ (s = -1 ∧ o = -1)) (w : World) : Calls Tryz.prog 54 #[.int .i64 s, .int .i64 o] w fun e w' => e = .returned (.tuple #[.int .u64 0, .int .i64 2]) ∧ w = w' := by
  unfold headOk at h
  by_cases hs : s = -1
  · subst hs
    have hb : (o == -1) = false := beq_eq_false_iff_ne.2 (by omega)
    go_enter Tryz.func54, Tryz.ntmps54
    go_wp2_with fail
    go_ret2
    exact ⟨rfl, rfl⟩
  · have hb : (s == -1) = false := beq_eq_false_iff_ne.2 hs
    rcases (show s < 0 ∨ (0 ≤ s ∧ 32 ≤ s) ∨ (0 ≤ s ∧ s < 32 ∧ o < -1) ∨ (0 ≤ s ∧ s < 32 ∧ ¬ o < -1 ∧ 16 ≤ o) by omega) with g | ⟨g, g1⟩ | ⟨g, g1, g2⟩ | ⟨g, g1, g2, g3⟩
    all_goals
      go_enter Tryz.func54, Tryz.ntmps54
      go_wp2_with fail
      go_ret2
      exact ⟨rfl, rfl⟩
theorem headOf_of {x : Nat} {s i : Int} (h : headOk s i) (he : headW s i = x) : headOf x = some (s, i) := by
  unfold headOk at h
  unfold headW at he
  unfold headOf
  rw [if_neg (by omega), if_pos (by omega)]
  simp only [Option.some.injEq, Prod.mk.injEq]
  omega
theorem headOf_is {x : Nat} {s i : Int} (h : headOf x = some (s, i)) : (headOk s i ∧ headW s i = x) ∨ (s = -1 ∧ i = -1 ∧ x = 0) := by
  unfold headOf at h
  unfold headOk headW
  split at h
  · simp at h; omega
  · split at h
    · simp at h; omega
    · cases h
set_option maxRecDepth 100000 in
set_option maxHeartbeats 2000000 in
theorem rheadOf_spec (x : Nat) (hx : x < 18446744073709551616) (w : World) : Calls Tryz.prog 75 #[.int .u64 x] w fun e w' => e = .returned (headV x) ∧ w = w' := by
  obtain ⟨V, hV⟩ : ∃ V, headV x = V := ⟨_, rfl⟩
  have HVV := Lib.hid hV
  rw [hV]
  clear hx hV
  go_enter Tryz.func75, Tryz.ntmps75
  go_wp2_with fail
  go_loopw [5] (fun sv wr => ∃ s : Int, sv = .int .i64 s ∧ -1 ≤ s ∧ s ≤ 32 ∧ Hid (∀ S I, headOf x = some (S, I) → s ≤ S) ∧ w = wr) (fun sv _ => (40 - intOf sv).toNat)
  case atStart => exact ⟨-1, rfl, by omega, by omega, (fun S I h => by rcases headOf_is h with ⟨h1, -⟩ | ⟨h1, -⟩; unfold headOk at h1; omega; omega), rfl⟩
  case round =>
    obtain ⟨s, rfl, s0, s1, HS, rfl⟩ := hrel
    by_cases hlt : s < 32
    · go_wp2_with fail
      obtain ⟨w0, hw0⟩ : ∃ w0 : World, w0 = w := ⟨_, rfl⟩
      go_loopw [6] (fun iv wr => ∃ i : Int, iv = .int .i64 i ∧ -1 ≤ i ∧ i ≤ 16 ∧ Hid (∀ S I, headOf x = some (S, I) → s < S ∨ (s = S ∧ i ≤ I)) ∧ w = wr) (fun iv _ => (40 - intOf iv).toNat)
      case atStart => exact ⟨-1, rfl, by omega, by omega, (fun S I h => by have := HS.out S I h; rcases headOf_is h with ⟨h1, -⟩ | ⟨h1, h2, -⟩; unfold headOk at h1; omega; omega), rfl⟩
      case round =>
        obtain ⟨i, rfl, i0, i1, HI, rfl⟩ := hrel
        by_cases hli : i < 16
        · by_cases hok : headOk s i
          · by_cases he : headW s i = x
            · have hb : (((headW s i : Nat) : Int) == (x : Int)) = true := by simp [he]
              have hv : V = .tuple #[.int .i64 s, .int .i64 i, .bool true] := by
                rw [← HVV.out]
                unfold headV
                rw [headOf_of hok he]
              have HV2 := Lib.hid hv
              have HOK := Lib.hid hok
              clear hv hok he
              go_wp2_with (go_at_call 54; refine (rhead_ok s i HOK.out _).mono ?_; rintro e w' ⟨rfl, rfl⟩)
              go_ret3
              exact ⟨by rw [HV2.out]; rfl, rfl⟩
            · have hb : (((headW s i : Nat) : Int) == (x : Int)) = false := by simp; omega
              have HOK := Lib.hid hok
              have HI2 : Hid (∀ S I, headOf x = some (S, I) → s < S ∨ (s = S ∧ i + 1 ≤ I)) := fun S I h => by
                rcases HI.out S I h with h1 | ⟨h1, h2⟩
                · exact .inl h1
                · refine .inr ⟨h1, ?_⟩
                  by_cases hII : i = I
                  · subst h1 hII
                    rcases headOf_is h with ⟨-, h4⟩ | ⟨h4, -⟩
                    · exact absurd h4 he
                    · unfold headOk at hok; omega
                  · omega
              clear hok he
              go_wp2_with (go_at_call 54; refine (rhead_ok s i HOK.out _).mono ?_; rintro e w' ⟨rfl, rfl⟩)
              exact ⟨⟨i + 1, rfl, by omega, by omega, HI2, trivial⟩, by simp [intOf]; omega⟩
          · by_cases hm : s = -1 ∧ i = -1
            · obtain ⟨rfl, rfl⟩ := hm
              by_cases hx0 : x = 0
              · subst hx0
                have hv : V = .tuple #[.int .i64 (-1), .int .i64 (-1), .bool true] := by
                  rw [← HVV.out]
                  rfl
                have HV2 := Lib.hid hv
                clear hv hok
                go_wp2_with (go_at_call 54; refine (rhead_none _).mono ?_; rintro e w' ⟨rfl, rfl⟩)
                go_ret3
                exact ⟨by rw [HV2.out]; rfl, rfl⟩
              · have hb : ((0 : Int) == (x : Int)) = false := by simp; omega
                have HI2 : Hid (∀ S I, headOf x = some (S, I) → (-1 : Int) < S ∨ ((-1 : Int) = S ∧ (-1 : Int) + 1 ≤ I)) := fun S I h => by
                  rcases headOf_is h with ⟨h1, -⟩ | ⟨-, -, h1⟩
                  · unfold headOk at h1; omega
                  · exact absurd h1 hx0
                clear hok
                go_wp2_with (go_at_call 54; refine (rhead_none _).mono ?_; rintro e w' ⟨rfl, rfl⟩)
                exact ⟨⟨0, rfl, by omega, by omega, HI2, trivial⟩, by simp [intOf]⟩
            · have HOK := Lib.hid hok
              have HM := Lib.hid hm
              have HI2 : Hid (∀ S I, headOf x = some (S, I) → s < S ∨ (s = S ∧ i + 1 ≤ I)) := fun S I h => by
                rcases HI.out S I h with h1 | ⟨h1, h2⟩
                · exact .inl h1
                · refine .inr ⟨h1, ?_⟩
                  by_cases hII : i = I
                  · subst h1 hII
                    rcases headOf_is h with ⟨h4, -⟩ | ⟨h4, h5, -⟩
                    · exact absurd h4 hok
                    · exact absurd ⟨h4, h5⟩ hm
                  · omega
              clear hok hm
              go_wp2_with (go_at_call 54; refine (rhead_bad s i HOK.out HM.out _).mono ?_; rintro e w' ⟨rfl, rfl⟩)
              exact ⟨⟨i + 1, rfl, by omega, by omega, HI2, trivial⟩, by simp [intOf]; omega⟩
        · have HS2 : Hid (∀ S I, headOf x = some (S, I) → s + 1 ≤ S) := fun S I h => by
            rcases HI.out S I h with h1 | ⟨h1, h2⟩
            · omega
            · rcases headOf_is h with ⟨h4, -⟩ | ⟨h4, h5, -⟩
              · unfold headOk at h4; omega
              · omega
          go_wp2_with fail
          exact ⟨⟨s + 1, rfl, by omega, by omega, HS2, trivial⟩, by simp [intOf]; omega⟩
    · have hv : V = .tuple #[.int .i64 (-1), .int .i64 (-1), .bool false] := by
        rw [← HVV.out]
        unfold headV
        cases h : headOf x with
        | none => rfl
        | some q =>
          obtain ⟨S, I⟩ := q
          have := HS.out S I h
          rcases headOf_is h with ⟨h1, -⟩ | ⟨h1, -⟩
          · unfold headOk at h1; omega
          · omega
      have HV2 := Lib.hid hv
      clear hv
      go_wp2_with fail
      go_ret3
      exact ⟨by rw [HV2.out]; rfl, rfl⟩
end Go.Proofs.YtllbnoojkgbjiaaGreat.See
