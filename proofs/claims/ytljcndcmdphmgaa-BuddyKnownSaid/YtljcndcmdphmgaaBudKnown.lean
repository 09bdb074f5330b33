/-
  wainscotlaw06.BuddyKnown answers true: the walk. No condition.
-/
import Derived.Test.YtljcndcmdphmgaaBudBack
import Derived.Test.YtljcndcmdphmgaaBudFull
import Derived.Test.YtljcndcmdphmgaaBrfLaw
import Derived.Test.YtljcndcmdphmgaaLit
namespace Go.Proofs.Ytljcndcmdphmgaa.buddyKnown
open Go.RowKit
attribute [local go_sem ↓] Go.wp_at_zero Go.wp_at_succ
theorem do_info : (Try.prog.info? 54).map (fun i => (i.zero, i.size, i.bytes)) = some (some (.agg #[.int .i64 0, .int .i64 0, .int .i64 0]), 3, 24) := by kernel_rfl
/-- pages that are none -/
def IsNone (p : Option Addr) (w : World) : Prop := Calls Try.prog 53 #[.pointer p] w fun e w' => e = .returned (.bool true) ∧ w = w'
theorem isNone_nil (w : World) : IsNone none w := none_nil w
theorem isNone_empty {W w : World} {m : List (Nat × Obj)} {pb : Nat} (h : Own W ((pb, .cells #[.slice none 0 0] 61) :: m) w) : IsNone (some ⟨pb, 0, none⟩) w := by
  have hc := h.cell List.mem_cons_self 0
  simp at hc
  unfold IsNone
  go_enter Try.func53, Try.ntmps53
  go_wp2_with fail
  go_ret
  exact ⟨rfl, rfl⟩
section
variable {p : Option Addr} {w : World}
theorem alloc_none (h : IsNone p w) (a b : Int) : Calls Try.prog 28 #[.pointer p, .int .i64 a, .int .i64 b] w fun e w' => e = .returned (.tuple #[.int .i64 0, .int .i64 1]) ∧ w = w' := by
  go_enter Try.func28, Try.ntmps28
  go_wp2_with (go_at_call 53; refine h.mono ?_; rintro e w' ⟨rfl, rfl⟩)
  go_ret2
  exact ⟨rfl, rfl⟩
theorem free_none (h : IsNone p w) (a : Int) : Calls Try.prog 25 #[.pointer p, .int .i64 a] w fun e w' => e = .returned (.int .i64 1) ∧ w = w' := by
  go_enter Try.func25, Try.ntmps25
  go_wp2_with (go_at_call 53; refine h.mono ?_; rintro e w' ⟨rfl, rfl⟩)
  go_ret
  exact ⟨rfl, rfl⟩
theorem frees_none (h : IsNone p w) (a : Int) : Calls Try.prog 26 #[.pointer p, .int .i64 a] w fun e w' => e = .returned (.slice none 0 0) ∧ w = w' := by
  go_enter Try.func26, Try.ntmps26
  go_wp2_with (go_at_call 53; refine h.mono ?_; rintro e w' ⟨rfl, rfl⟩)
  go_ret
  exact ⟨rfl, rfl⟩
theorem left_none (h : IsNone p w) : Calls Try.prog 22 #[.pointer p] w fun e w' => e = .returned (.int .i64 0) ∧ w = w' := by
  go_enter Try.func22, Try.ntmps22
  go_wp2_with (go_at_call 53; refine h.mono ?_; rintro e w' ⟨rfl, rfl⟩)
  go_ret
  exact ⟨rfl, rfl⟩
theorem whole_none (h : IsNone p w) : Calls Try.prog 24 #[.pointer p] w fun e w' => e = .returned (.bool false) ∧ w = w' := by
  go_enter Try.func24, Try.ntmps24
  go_wp2_with (go_at_call 53; refine h.mono ?_; rintro e w' ⟨rfl, rfl⟩)
  go_ret
  exact ⟨rfl, rfl⟩
theorem pages_none (h : IsNone p w) : Calls Try.prog 27 #[.pointer p] w fun e w' => e = .returned (.slice none 0 0) ∧ w = w' := by
  go_enter Try.func27, Try.ntmps27
  go_wp2_with (go_at_call 53; refine h.mono ?_; rintro e w' ⟨rfl, rfl⟩)
  go_ret
  exact ⟨rfl, rfl⟩
end
def szs : List Int := [-1, 0, 1, 2, 3, 5, 8, 63, 64, 1023, 1024, 1025]
/-- the calls that are done to pages of s -/
def calls (s : Int) : List Int := [0, 10, 8, 0, 11, 0, 0, -1, 0, 0, 0, 9, 0, 0, -1, 0, 3, 0, 0, 0, 0, 0, 0, 1, 1, -1, 0, 1, s, 0, 1, 1, 0, 2, 0, 0, 0, 2, 0, 2, 1, 0, 0, 10, 0, 2, 0, 0, 2, 0, 0, 2, 0, 0, 0, 10, 0]
theorem calls_flat (w : World) (s : Int) (hs : (Lit.int .i64 s).wf = true) : FlatAt (w.alloc (.cells (ints (calls s)).toArray 54)) [some .i64, some .i64, some .i64] (some ⟨w.heap.size, 0, none⟩) 19 := by
  refine flatAt_of (n := 3) (T := 54) (l := calls s) (heap_alloc_new w _) (by simp [calls]) ?_
  intro x hx
  simp only [calls, List.mem_cons, List.not_mem_nil, or_false] at hx
  have : x = s ∨ (-1 ≤ x ∧ x ≤ 11) := by omega
  rcases this with rfl | h
  · exact hs
  · simp [Lit.wf, IntKind.min, IntKind.max, IntKind.signed, IntKind.bits]; omega
theorem nil_flat (w : World) : FlatAt w [some .i64, some .i64, some .i64] none 0 := fun h => absurd h (by omega)
set_option maxRecDepth 100000 in
set_option maxHeartbeats 8000000 in
theorem walk (w : World) : Calls Try.prog 8 #[] w fun e w' => e = .returned (.bool true) ∧ Own w [] w' := by
  go_enter Try.func8, Try.ntmps8
  go_wp2_with fail
  go_loopw [1, 2] (fun pv iv wr => ∃ (k : Nat) (p : Option Addr), iv = .int .i64 k ∧ pv = .pointer p ∧ k ≤ 2 ∧ Hid (k < 2 → IsNone p wr) ∧ Own w [] wr) (fun _ iv _ => 2 - (intOf iv).toNat)
  case atStart => exact ⟨0, none, rfl, rfl, by omega, fun _ => isNone_nil _, Own.self w⟩
  case round =>
    obtain ⟨k, p, rfl, rfl, hk, HN, hr⟩ := hrel
    by_cases hlt : k < 2
    · have hn := HN.out hlt
      have HN1 := Lib.hid hn
      have hlti : (k : Int) < 2 := by omega
      clear hn
      go_wp2_with fail
      refine (alloc_none HN1.out 99 0).mono ?_
      rintro e w1 ⟨rfl, rfl⟩
      go_wp2_with fail
      refine (free_none HN1.out 0).mono ?_
      rintro e w1 ⟨rfl, rfl⟩
      go_wp2_with fail
      refine (frees_none HN1.out 0).mono ?_
      rintro e w1 ⟨rfl, rfl⟩
      go_wp2_with fail
      refine (left_none HN1.out).mono ?_
      rintro e w1 ⟨rfl, rfl⟩
      go_wp2_with fail
      refine (whole_none HN1.out).mono ?_
      rintro e w1 ⟨rfl, rfl⟩
      go_wp2_with fail
      refine (pages_none HN1.out).mono ?_
      rintro e w1 ⟨rfl, rfl⟩
      have hnew := hr.new (.cells #[.slice none 0 0] 61)
      go_wp2_with fail
      exact ⟨⟨k + 1, _, by go_num, rfl, by omega, fun _ => isNone_empty hnew, hnew.skip⟩, by simp [intOf]; omega⟩
    · have hlti : ¬ (k : Int) < 2 := by omega
      obtain ⟨w0, rfl⟩ : ∃ w0 : World, w0 = wr := ⟨_, rfl⟩
      have q1 := lit_own hr szs (by decide)
      have o1 : IntsOwn true (.slice (some ⟨w0.heap.size, 0, none⟩) 12 12) szs [(w0.heap.size, .cells (ints szs).toArray 3)] := q1.1
      have h1 : Own w [(w0.heap.size, .cells (ints szs).toArray 3)] (w0.alloc (.cells #[.int .i64 (-1), .int .i64 (0), .int .i64 (1), .int .i64 (2), .int .i64 (3), .int .i64 (5), .int .i64 (8), .int .i64 (63), .int .i64 (64), .int .i64 (1023), .int .i64 (1024), .int .i64 (1025)] 3)) := hr.new _
      have O1 := Lib.hid o1
      clear q1 o1 HN
      go_wp2_with fail
      obtain ⟨wa, hwa⟩ : ∃ wa, w0.alloc (.cells #[.int .i64 (-1), .int .i64 (0), .int .i64 (1), .int .i64 (2), .int .i64 (3), .int .i64 (5), .int .i64 (8), .int .i64 (63), .int .i64 (64), .int .i64 (1023), .int .i64 (1024), .int .i64 (1025)] 3) = wa := ⟨_, rfl⟩
      rw [hwa] at h1 ⊢
      clear hwa
      go_loopw [6] (fun iv wr => ∃ k : Nat, iv = .int .i64 k ∧ k ≤ 12 ∧ Own w [(w0.heap.size, .cells (ints szs).toArray 3)] wr) (fun iv _ => 12 - (intOf iv).toNat)
      case atStart => exact ⟨0, rfl, by omega, h1⟩
      case round =>
        clear h1
        obtain ⟨j, rfl, hj, hq⟩ := hrel
        by_cases hjl : j < 12
        · have hjli : (j : Int) < 12 := by omega
          have hj0 : (0 : Int) ≤ j := by omega
          obtain ⟨s, hs⟩ : ∃ s, szs[j]? = some s := ⟨_, List.getElem?_eq_getElem (by simpa [szs] using hjl)⟩
          have hswf : (Lit.int .i64 s).wf = true := by
            have hm := List.mem_of_getElem? hs
            have : ∀ x ∈ szs, (Lit.int .i64 x).wf = true := by decide
            exact this s hm
          have q0 : Own w ([(w0.heap.size, .cells (ints szs).toArray 3)] ++ []) wr := hq
          have cs := SlO.cell O1.out q0 rfl (ints_get hs)
          have HS := Lib.hid hs
          have HW := Lib.hid hswf
          have hfl := calls_flat wr s hswf
          have HFL : Hid (FlatAt (wr.alloc (.cells #[.int .i64 (0), .int .i64 (10), .int .i64 (8), .int .i64 (0), .int .i64 (11), .int .i64 (0), .int .i64 (0), .int .i64 (-1), .int .i64 (0), .int .i64 (0), .int .i64 (0), .int .i64 (9), .int .i64 (0), .int .i64 (0), .int .i64 (-1), .int .i64 (0), .int .i64 (3), .int .i64 (0), .int .i64 (0), .int .i64 (0), .int .i64 (0), .int .i64 (0), .int .i64 (0), .int .i64 (1), .int .i64 (1), .int .i64 (-1), .int .i64 (0), .int .i64 (1), .int .i64 s, .int .i64 (0), .int .i64 (1), .int .i64 (1), .int .i64 (0), .int .i64 (2), .int .i64 (0), .int .i64 (0), .int .i64 (0), .int .i64 (2), .int .i64 (0), .int .i64 (2), .int .i64 (1), .int .i64 (0), .int .i64 (0), .int .i64 (10), .int .i64 (0), .int .i64 (2), .int .i64 (0), .int .i64 (0), .int .i64 (2), .int .i64 (0), .int .i64 (0), .int .i64 (2), .int .i64 (0), .int .i64 (0), .int .i64 (0), .int .i64 (10), .int .i64 (0)] 54)) [some .i64, some .i64, some .i64] (some ⟨wr.heap.size, 0, none⟩) 19) := hfl
          have h2 : Own w [(w0.heap.size, .cells (ints szs).toArray 3)] (wr.alloc (.cells #[.int .i64 (0), .int .i64 (10), .int .i64 (8), .int .i64 (0), .int .i64 (11), .int .i64 (0), .int .i64 (0), .int .i64 (-1), .int .i64 (0), .int .i64 (0), .int .i64 (0), .int .i64 (9), .int .i64 (0), .int .i64 (0), .int .i64 (-1), .int .i64 (0), .int .i64 (3), .int .i64 (0), .int .i64 (0), .int .i64 (0), .int .i64 (0), .int .i64 (0), .int .i64 (0), .int .i64 (1), .int .i64 (1), .int .i64 (-1), .int .i64 (0), .int .i64 (1), .int .i64 s, .int .i64 (0), .int .i64 (1), .int .i64 (1), .int .i64 (0), .int .i64 (2), .int .i64 (0), .int .i64 (0), .int .i64 (0), .int .i64 (2), .int .i64 (0), .int .i64 (2), .int .i64 (1), .int .i64 (0), .int .i64 (0), .int .i64 (10), .int .i64 (0), .int .i64 (2), .int .i64 (0), .int .i64 (0), .int .i64 (2), .int .i64 (0), .int .i64 (0), .int .i64 (2), .int .i64 (0), .int .i64 (0), .int .i64 (0), .int .i64 (10), .int .i64 (0)] 54)) := hq.alloc _
          have hl0 := hq.lt List.mem_cons_self
          clear hs hswf hfl q0
          go_wp2_with fail
          obtain ⟨wv, hwv⟩ : ∃ wv, wr.alloc (.cells #[.int .i64 (0), .int .i64 (10), .int .i64 (8), .int .i64 (0), .int .i64 (11), .int .i64 (0), .int .i64 (0), .int .i64 (-1), .int .i64 (0), .int .i64 (0), .int .i64 (0), .int .i64 (9), .int .i64 (0), .int .i64 (0), .int .i64 (-1), .int .i64 (0), .int .i64 (3), .int .i64 (0), .int .i64 (0), .int .i64 (0), .int .i64 (0), .int .i64 (0), .int .i64 (0), .int .i64 (1), .int .i64 (1), .int .i64 (-1), .int .i64 (0), .int .i64 (1), .int .i64 s, .int .i64 (0), .int .i64 (1), .int .i64 (1), .int .i64 (0), .int .i64 (2), .int .i64 (0), .int .i64 (0), .int .i64 (0), .int .i64 (2), .int .i64 (0), .int .i64 (2), .int .i64 (1), .int .i64 (0), .int .i64 (0), .int .i64 (10), .int .i64 (0), .int .i64 (2), .int .i64 (0), .int .i64 (0), .int .i64 (2), .int .i64 (0), .int .i64 (0), .int .i64 (2), .int .i64 (0), .int .i64 (0), .int .i64 (0), .int .i64 (10), .int .i64 (0)] 54) = wv := ⟨_, rfl⟩
          rw [hwv] at h2 HFL ⊢
          clear hwv cs hl0
          refine (buddyPlays.walk (Own.self wv) s _ 19 19 (Nat.le_refl _) (by unfold maxLen; omega) HFL.out).mono ?_
          rintro e w3 ⟨rfl, h3⟩
          have h4 := h2.of_self h3
          have q0 : Own w ([(w0.heap.size, .cells (ints szs).toArray 3)] ++ []) w3 := h4
          have cs := SlO.cell O1.out q0 rfl (ints_get HS.out)
          clear q0
          go_wp2_with fail
          refine (buddyPlays.walk (Own.self w3) s none 0 0 (Nat.le_refl _) (by unfold maxLen; omega) (nil_flat w3)).mono ?_
          rintro e w5 ⟨rfl, h5⟩
          have h6 := h4.of_self h5
          go_wp2_with fail
          exact ⟨⟨j + 1, by go_num, by omega, h6⟩, by simp [intOf]; omega⟩
        · have hjli : ¬ (j : Int) < 12 := by omega
          have hq0 : Own w [] wr := hq.skip
          clear hq O1
          go_wp2_with fail
          go_loopw [8, 9] (fun out iv wr => ∃ (k : Nat) (l : List Int) (bs : List (Nat × Obj)), iv = .int .i64 k ∧ k ≤ 40 ∧ Hid (SlO true 54 3 out k (ints l) bs) ∧ Hid (∀ x ∈ l, 0 ≤ x ∧ x ≤ 8) ∧ Own w bs wr) (fun _ iv _ => 40 - (intOf iv).toNat)
          case atStart => exact ⟨0, [], [], rfl, by omega, SlO.nil _ _ _, fun x hx => (by simp at hx), hq0⟩
          case round =>
            clear hq0
            obtain ⟨z, l, bs, rfl, hz, HO, HX, hr⟩ := hrel
            obtain ⟨A8, c8, hv, -, -⟩ := HO.out.slice
            subst hv
            have hrm : Own w (bs ++ []) wr := by simpa using hr
            by_cases hzl : z < 40
            · have hzli : (z : Int) < 40 := by omega
              have hz0 : (0 : Int) ≤ z := by omega
              have b9 := emod_bd (z : Int) 9 (by omega)
              have hsrc : Src (wr.alloc (.cells #[.int .i64 0, .int .i64 0, .int .i64 ((z : Int) % 9)] 54)) 3 (.slice (some ⟨wr.heap.size, 0, none⟩) 1 1) 1 (ints [0, 0, (z : Int) % 9]) := src_lit wr 54 3 1 [0, 0, (z : Int) % 9] rfl
              have HSRC := Lib.hid hsrc
              have h7 := hrm.alloc (.cells #[.int .i64 0, .int .i64 0, .int .i64 ((z : Int) % 9)] 54)
              have hx2 : ∀ x ∈ l ++ [0, 0, (z : Int) % 9], 0 ≤ x ∧ x ≤ 8 := by
                intro x hx
                rcases List.mem_append.1 hx with hx | hx
                · exact HX.out x hx
                · simp only [List.mem_cons, List.not_mem_nil, or_false] at hx
                  omega
              have HX2 := Lib.hid hx2
              clear hsrc hx2 b9
              go_wp2_with (at_builtin; refine wpList_app_dos rfl _ _ 36 rfl rfl rfl _ do_info Try.underlying36 rfl (by omega) (by omega) HO.out h7 HSRC.out (by omega) ?_; intro v' w' bs' k1 k2; have K1 := Lib.hid k1; clear k1)
              exact ⟨⟨z + 1, _, bs', by go_num, by omega, K1, HX2, by simpa using k2⟩, by simp [intOf]; omega⟩
            · obtain rfl : z = 40 := by omega
              have hzli : ¬ (40 : Int) < 40 := by omega
              have hwf : ∀ x ∈ l, (Lit.int .i64 x).wf = true := fun x hx => by
                have := HX.out x hx
                simp [Lit.wf, IntKind.min, IntKind.max, IntKind.signed, IntKind.bits]; omega
              have fl : ∀ ws, Own w (bs ++ []) ws → FlatAt ws [some .i64, some .i64, some .i64] A8 40 := fun ws hw => flatAt_own HO.out hw hwf rfl
              have FL := Lib.hid fl
              obtain ⟨-, -, h40, hc8⟩ : True ∧ True ∧ 40 ≤ c8 ∧ c8 ≤ maxLen := by
                obtain ⟨A9, c9, hv, g1, g2⟩ := HO.out.slice
                simp only [Value.slice.injEq] at hv
                obtain ⟨-, -, rfl⟩ := hv
                exact ⟨trivial, trivial, g1, g2⟩
              have HC8 := Lib.hid hc8
              clear hwf fl HO HX hc8
              go_wp2_with fail
              refine (law06.works_spec hrm).mono ?_
              rintro e w3 ⟨rfl, h3⟩
              go_wp2_with fail
              refine (buddyPlays.walk (Own.self w3) 32 A8 40 c8 h40 HC8.out (FL.out _ h3)).mono ?_
              rintro e w4 ⟨rfl, h4⟩
              have h4 := h3.of_self h4
              go_wp2_with fail
              refine (buddyBack.walk (Own.self w4) 31 7 (by decide) (by decide) A8 40 c8 h40 HC8.out (FL.out _ h4)).mono ?_
              rintro e w5 ⟨rfl, h5⟩
              have h5 := h4.of_self h5
              go_wp2_with fail
              refine (buddyFull.walk (Own.self w5) 39 0 (by decide) (by decide) A8 40 c8 h40 HC8.out (FL.out _ h5)).mono ?_
              rintro e w6 ⟨rfl, h6⟩
              have h6 := h5.of_self h6
              go_wp2_with fail
              go_ret
              exact ⟨rfl, h6.dropL⟩
end Go.Proofs.Ytljcndcmdphmgaa.buddyKnown
