import Derived.Test.YtljcndcmdphmgaaZmRzPlays
import Derived.Test.YtljcndcmdphmgaaZmZoneFull
import Derived.Test.YtljcndcmdphmgaaZmZoneV
import Derived.Test.YtljcndcmdphmgaaZm3
/-
  wainscotlaw08.ZoneKnown answers true: the walk. No condition.
-/
namespace Go.Proofs.Ytljcndcmdphmgaa
open Go.RowKit
attribute [local go_sem ↓] Go.wp_at_zero Go.wp_at_succ
namespace zoneKnown
theorem do_info : (Try.prog.info? 71).map (fun i => (i.zero, i.size, i.bytes)) = some (some (.agg #[.int .i64 0, .int .i64 0, .int .i64 0, .int .i64 0]), 4, 32) := by kernel_rfl
/-- a zone that is none -/
def NoZ (W : World) (m : List (Nat × Obj)) (p : Option Addr) : Prop := ∀ (ws : World) (M : List (Nat × Obj)), Own W (m ++ M) ws → ∀ cpu : Int, Calls Try.prog 77 #[.pointer p, .int .i64 cpu] ws fun e w' => e = .returned (.int .i64 1) ∧ ws = w'
theorem noZ_nil (W : World) (m : List (Nat × Obj)) : NoZ W m none := fun ws M _ cpu => asked_nil cpu ws
def emptyZ : Obj := .cells #[.pointer none, .pointer none, .int .i64 0, .int .i64 0, .map none] 93
theorem noZ_empty (W : World) (b : Nat) : NoZ W [(b, emptyZ)] (some ⟨b, 0, none⟩) := fun ws M h cpu => by
  have c2 := h.cell (cs := #[.pointer none, .pointer none, .int .i64 0, .int .i64 0, .map none]) List.mem_cons_self 2
  simp at c2
  go_enter Try.func77, Try.ntmps77
  go_wp2_with fail
  go_ret
  exact ⟨rfl, rfl⟩
section
variable {W w : World} {m M : List (Nat × Obj)} {p : Option Addr}
theorem alloc_none (hz : NoZ W m p) (h : Own W (m ++ M) w) (a b c : Int) : Calls Try.prog 47 #[.pointer p, .int .i64 a, .int .i64 b, .int .i64 c] w fun e w' => e = .returned (.tuple #[.int .i64 0, .int .i64 1]) ∧ Own W (m ++ M) w' := by
  have HZ := Lib.hid hz
  clear hz
  go_enter Try.func47, Try.ntmps47
  go_wp2_with (go_at_call 77; refine (HZ.out _ _ h a).mono ?_; rintro e w' ⟨rfl, rfl⟩)
  go_ret2
  exact ⟨rfl, h⟩
theorem free_none (hz : NoZ W m p) (h : Own W (m ++ M) w) (a b : Int) : Calls Try.prog 43 #[.pointer p, .int .i64 a, .int .i64 b] w fun e w' => e = .returned (.int .i64 1) ∧ Own W (m ++ M) w' := by
  have HZ := Lib.hid hz
  clear hz
  go_enter Try.func43, Try.ntmps43
  go_wp2_with (go_at_call 77; refine (HZ.out _ _ h a).mono ?_; rintro e w' ⟨rfl, rfl⟩)
  go_ret
  exact ⟨rfl, h⟩
theorem drain_none (hz : NoZ W m p) (h : Own W (m ++ M) w) (a : Int) : Calls Try.prog 45 #[.pointer p, .int .i64 a] w fun e w' => e = .returned (.int .i64 1) ∧ Own W (m ++ M) w' := by
  have HZ := Lib.hid hz
  clear hz
  go_enter Try.func45, Try.ntmps45
  go_wp2_with (go_at_call 77; refine (HZ.out _ _ h a).mono ?_; rintro e w' ⟨rfl, rfl⟩)
  go_ret
  exact ⟨rfl, h⟩
theorem left_none (hz : NoZ W m p) (h : Own W (m ++ M) w) : Calls Try.prog 41 #[.pointer p] w fun e w' => e = .returned (.int .i64 0) ∧ Own W (m ++ M) w' := by
  have HZ := Lib.hid hz
  clear hz
  go_enter Try.func41, Try.ntmps41
  go_wp2_with (go_at_call 77; refine (HZ.out _ _ h 0).mono ?_; rintro e w' ⟨rfl, rfl⟩)
  go_ret
  exact ⟨rfl, h⟩
theorem near_none (hz : NoZ W m p) (h : Own W (m ++ M) w) (a : Int) : Calls Try.prog 44 #[.pointer p, .int .i64 a] w fun e w' => e = .returned (.int .i64 0) ∧ Own W (m ++ M) w' := by
  have HZ := Lib.hid hz
  clear hz
  go_enter Try.func44, Try.ntmps44
  go_wp2_with (go_at_call 77; refine (HZ.out _ _ h a).mono ?_; rintro e w' ⟨rfl, rfl⟩)
  go_ret
  exact ⟨rfl, h⟩
theorem whole_none (hz : NoZ W m p) (h : Own W (m ++ M) w) : Calls Try.prog 46 #[.pointer p] w fun e w' => e = .returned (.bool false) ∧ Own W (m ++ M) w' := by
  have HZ := Lib.hid hz
  clear hz
  go_enter Try.func46, Try.ntmps46
  go_wp2_with (go_at_call 77; refine (HZ.out _ _ h 0).mono ?_; rintro e w' ⟨rfl, rfl⟩)
  go_ret
  exact ⟨rfl, h⟩
theorem tag_none (hz : NoZ W m p) (h : Own W (m ++ M) w) (a : Int) : Calls Try.prog 42 #[.pointer p, .int .i64 a] w fun e w' => e = .returned (tagV none) ∧ Own W (m ++ M) w' := by
  have h0 := h.new1 (.cells #[.int .i64 0, .int .i64 0, .int .i64 0] 80)
  have HZ := Lib.hid hz
  clear hz
  have hc := h0.cell (List.mem_append_right _ List.mem_cons_self)
  have hf := h0.frozen (List.mem_append_right _ List.mem_cons_self)
  have g0 := hc 0
  have g1 := hc 1
  have g2 := hc 2
  have f0 := hf 0
  have f1 := hf 1
  have f2 := hf 2
  clear hc hf
  simp at g0 g1 g2
  go_enter Try.func42, Try.ntmps42
  go_wp2_with fail
  refine (HZ.out _ _ h0 0).mono ?_
  rintro e w1 ⟨rfl, rfl⟩
  go_wp2_with fail
  have h6 := ((h0.setIn 0 (.int .i64 0)).setIn 1 (.int .i64 0)).setIn 2 (.int .i64 0)
  have e0 := h6.cell (List.mem_append_right _ List.mem_cons_self) 0
  have e1 := h6.cell (List.mem_append_right _ List.mem_cons_self) 1
  have e2 := h6.cell (List.mem_append_right _ List.mem_cons_self) 2
  simp at e0 e1 e2
  exact bodyPost_ret (v := .tuple #[.agg #[.int .i64 0, .int .i64 0, .int .i64 0], .bool false]) (by simp [results, Try.f42, go_sem]) rfl ⟨rfl, h0.drop1⟩
end
theorem zfresh (N : Nat) : decide (freshL N = freshL (freshL N).length) = true := by rw [fresh_len]; exact decide_eq_true rfl
theorem zleft_new (C N : Nat) (n1 : 1 ≤ N) (n2 : N ≤ 1024) : pgFree (freshL N) + (nearAll (List.replicate C ([] : List Int)) : Nat) = N := by
  have h := zleft_sum (zinv_new C N n1 n2)
  simp only [List.map_nil, List.sum_nil, Int.add_zero] at h
  exact h
def lits : List Int := [0, 9, 0, 0, 0, 0, 11, 0, 0, 0, -1, 0, 0, 0, 0, 9, 0, 0, 0, -1, 1, 9, 0, 0, 1, 0, -1, 0, 1, 0, 2000, 0, 3, -1, 0, 0, 0, 0, 3, 0, 1, 0, 1, 0, 0, 0, 5, 0, 3, 1, 0, 0, 0, 0, 2, 0, 2, 0, 0, 0, 0, 0, 0, 0]
theorem lits_bd : ∀ x ∈ lits, -3000 ≤ x ∧ x ≤ 3000 := by decide
set_option maxRecDepth 100000 in
set_option maxHeartbeats 8000000 in
theorem walk (w : World) : Calls Try.prog 13 #[] w fun e w' => e = .returned (.bool true) ∧ Own w [] w' := by
  go_enter Try.func13, Try.ntmps13
  go_wp2_with fail
  go_loopw [1, 2] (fun pv iv wr => ∃ (k : Nat) (p : Option Addr) (bs : List (Nat × Obj)), iv = .int .i64 k ∧ pv = .pointer p ∧ k ≤ 2 ∧ Hid (NoZ w bs p) ∧ Own w (bs ++ []) wr) (fun _ iv _ => 2 - (intOf iv).toNat)
  case atStart => exact ⟨0, none, [], rfl, rfl, by omega, noZ_nil _ _, Own.self w⟩
  case round =>
    obtain ⟨k, p, bs, rfl, rfl, hk, HN, hr⟩ := hrel
    by_cases hlt : k < 2
    · have hlti : (k : Int) < 2 := by omega
      go_wp2_with fail
      refine (alloc_none HN.out hr (-1) 0 0).mono ?_
      rintro e w1 ⟨rfl, h1⟩
      go_wp2_with fail
      refine (tag_none HN.out h1 0).mono ?_
      rintro e w2 ⟨rfl, h2⟩
      simp only [tagV]
      have h2 := h2.new1 (.cells #[.int .i64 0, .int .i64 0, .int .i64 0] 80)
      generalize hB : w2.heap.size = B at h2
      go_wp2_with fail
      refine (free_none HN.out h2 (-1) 0).mono ?_
      rintro e w3 ⟨rfl, h3⟩
      go_wp2_with fail
      refine (drain_none HN.out h3 (-1)).mono ?_
      rintro e w4 ⟨rfl, h4⟩
      go_wp2_with fail
      refine (left_none HN.out h4).mono ?_
      rintro e w5 ⟨rfl, h5⟩
      go_wp2_with fail
      refine (near_none HN.out h5 0).mono ?_
      rintro e w6 ⟨rfl, h6⟩
      go_wp2_with fail
      refine (whole_none HN.out h6).mono ?_
      rintro e w7 ⟨rfl, h7⟩
      have u0 := h7.cell (List.mem_append_right _ List.mem_cons_self) 0
      have u1 := h7.cell (List.mem_append_right _ List.mem_cons_self) 1
      have u2 := h7.cell (List.mem_append_right _ List.mem_cons_self) 2
      simp at u0 u1 u2
      have h8 : Own w [] w7 := h7.dropL.skip
      have h9 := h8.new emptyZ
      have HE := Lib.hid (noZ_empty w w7.heap.size)
      unfold emptyZ at h9
      clear h1 h2 h3 h4 h5 h6 h7 h8
      go_wp2_with fail
      exact ⟨⟨k + 1, _, _, by go_num, rfl, by omega, HE, h9⟩, by simp [intOf]; omega⟩
    · have hlti : ¬ (k : Int) < 2 := by omega
      obtain ⟨w0, h0⟩ : ∃ w0 : World, w0 = wr := ⟨_, rfl⟩
      subst h0
      have h0 : Own w [] w0 := hr.dropL
      have ZF := Lib.hid (zfresh 1024)
      have ZL := Lib.hid (zleft_new 8 1024 (by omega) (by omega))
      clear HN hr
      go_wp2_with fail
      refine (znew_bad h0 0 5 (by omega)).mono ?_
      rintro e w1 ⟨rfl, h1⟩
      go_wp2_with fail
      refine (znew_bad h1 9 5 (by omega)).mono ?_
      rintro e w2 ⟨rfl, h2⟩
      go_wp2_with fail
      refine (znew_bad h2 1 0 (by omega)).mono ?_
      rintro e w3 ⟨rfl, h3⟩
      go_wp2_with fail
      refine (znew_bad h3 8 1025 (by omega)).mono ?_
      rintro e w4 ⟨rfl, h4⟩
      go_wp2_with fail
      refine (znew_ok h4 8 1024 (by omega) (by omega) (by omega) (by omega)).mono ?_
      rintro e w5 ⟨zb, zs, rfl, hz, h5⟩
      have HZ := Lib.hid hz
      clear hz h0 h1 h2 h3 h4
      go_wp2_with fail
      refine (zwhole_spec h5 HZ.out).mono ?_
      rintro e w6 ⟨rfl, h6⟩
      rw [ZF.out]
      go_wp2_with fail
      refine (zleft_spec h6 HZ.out).mono ?_
      rintro e w7 ⟨rfl, h7⟩
      rw [ZL.out]
      have h8 : Own w [] w7 := h7.dropL
      clear h5 h6 h7 HZ ZF ZL
      go_wp2_with fail
      go_loopw [17, 18] (fun out iv wr => ∃ (k : Nat) (l : List Int) (bs : List (Nat × Obj)), iv = .int .i64 k ∧ k ≤ 10 ∧ Hid (SlO true 71 4 out k (ints l) bs) ∧ Hid (∀ x ∈ l, -3000 ≤ x ∧ x ≤ 3000) ∧ Own w (bs ++ []) wr) (fun _ iv _ => 10 - (intOf iv).toNat)
      case atStart => exact ⟨0, [], [], rfl, by omega, SlO.nil _ _ _, fun x hx => (by simp at hx), h8⟩
      case round =>
        clear h8
        obtain ⟨z, l, bs, rfl, hz, HO, HX, hr⟩ := hrel
        obtain ⟨A8, c8, hv, -, -⟩ := HO.out.slice
        subst hv
        by_cases hzl : z < 10
        · have hzli : (z : Int) < 10 := by omega
          have hz0 : (0 : Int) ≤ z := by omega
          have t0 := Int.tmod_nonneg 2 hz0
          have t1 := Int.tmod_lt_of_pos (z : Int) (show (0 : Int) < 2 by omega)
          have t2 := Int.tmod_nonneg 9 hz0
          have t3 := Int.tmod_lt_of_pos (z : Int) (show (0 : Int) < 9 by omega)
          have hsrc : Src (wr.alloc (.cells #[.int .i64 0, .int .i64 ((z : Int).tmod 2), .int .i64 0, .int .i64 ((z : Int).tmod 9)] 71)) 4 (.slice (some ⟨wr.heap.size, 0, none⟩) 1 1) 1 (ints [0, (z : Int).tmod 2, 0, (z : Int).tmod 9]) := src_lit wr 71 4 1 [0, (z : Int).tmod 2, 0, (z : Int).tmod 9] rfl
          have HSRC := Lib.hid hsrc
          have h7 := hr.alloc (.cells #[.int .i64 0, .int .i64 ((z : Int).tmod 2), .int .i64 0, .int .i64 ((z : Int).tmod 9)] 71)
          have hx2 : ∀ x ∈ l ++ [0, (z : Int).tmod 2, 0, (z : Int).tmod 9], -3000 ≤ x ∧ x ≤ 3000 := by
            intro x hx
            rcases List.mem_append.1 hx with hx | hx
            · exact HX.out x hx
            · simp only [List.mem_cons, List.not_mem_nil, or_false] at hx
              omega
          have HX2 := Lib.hid hx2
          clear hsrc hx2 t0 t1 t2 t3
          go_wp2_with (at_builtin; refine wpList_app_dos rfl _ _ 62 rfl rfl rfl _ do_info Try.underlying62 rfl (by omega) (by omega) HO.out h7 HSRC.out (by omega) ?_; intro v' w' bs' k1 k2; have K1 := Lib.hid k1; clear k1)
          exact ⟨⟨z + 1, _, bs', by go_num, by omega, K1, HX2, k2⟩, by simp [intOf]; omega⟩
        · obtain rfl : z = 10 := by omega
          have hzli : ¬ (10 : Int) < 10 := by omega
          have HR := Lib.hid hr
          clear hr
          go_wp2_with fail
          obtain ⟨w0, hw0⟩ : ∃ w0 : World, w0 = wr := ⟨_, rfl⟩
          subst hw0
          go_loopw [17, 19] (fun out iv wr => ∃ (k : Nat) (l : List Int) (bs : List (Nat × Obj)), iv = .int .i64 k ∧ k ≤ 10 ∧ Hid (SlO true 71 4 out (10 + k) (ints l) bs) ∧ Hid (∀ x ∈ l, -3000 ≤ x ∧ x ≤ 3000) ∧ Own w (bs ++ []) wr) (fun _ iv _ => 10 - (intOf iv).toNat)
          case atStart => exact ⟨0, l, bs, rfl, by omega, HO, HX, HR.out⟩
          case round =>
            clear HR HO HX
            obtain ⟨z, l, bs, rfl, hz, HO, HX, hr⟩ := hrel
            obtain ⟨A8, c8, hv, -, -⟩ := HO.out.slice
            subst hv
            by_cases hzl : z < 10
            · have hzli : (z : Int) < 10 := by omega
              have hsrc : Src (wr.alloc (.cells #[.int .i64 2, .int .i64 1, .int .i64 z, .int .i64 0] 71)) 4 (.slice (some ⟨wr.heap.size, 0, none⟩) 1 1) 1 (ints [2, 1, (z : Int), 0]) := src_lit wr 71 4 1 [2, 1, (z : Int), 0] rfl
              have HSRC := Lib.hid hsrc
              have h7 := hr.alloc (.cells #[.int .i64 2, .int .i64 1, .int .i64 z, .int .i64 0] 71)
              have hx2 : ∀ x ∈ l ++ [2, 1, (z : Int), 0], -3000 ≤ x ∧ x ≤ 3000 := by
                intro x hx
                rcases List.mem_append.1 hx with hx | hx
                · exact HX.out x hx
                · simp only [List.mem_cons, List.not_mem_nil, or_false] at hx
                  omega
              have HX2 := Lib.hid hx2
              clear hsrc hx2
              go_wp2_with (at_builtin; refine wpList_app_dos rfl _ _ 62 rfl rfl rfl _ do_info Try.underlying62 rfl (by omega) (by omega) HO.out h7 HSRC.out (by omega) ?_; intro v' w' bs' k1 k2; have K1 := Lib.hid k1; clear k1)
              exact ⟨⟨z + 1, _, bs', by go_num, by omega, K1, HX2, k2⟩, by simp [intOf]; omega⟩
            · obtain rfl : z = 10 := by omega
              have hzli : ¬ (10 : Int) < 10 := by omega
              have hsrc : Src (wr.alloc (.cells #[.int .i64 (0), .int .i64 (9), .int .i64 (0), .int .i64 (0), .int .i64 (0), .int .i64 (0), .int .i64 (11), .int .i64 (0), .int .i64 (0), .int .i64 (0), .int .i64 (-1), .int .i64 (0), .int .i64 (0), .int .i64 (0), .int .i64 (0), .int .i64 (9), .int .i64 (0), .int .i64 (0), .int .i64 (0), .int .i64 (-1), .int .i64 (1), .int .i64 (9), .int .i64 (0), .int .i64 (0), .int .i64 (1), .int .i64 (0), .int .i64 (-1), .int .i64 (0), .int .i64 (1), .int .i64 (0), .int .i64 (2000), .int .i64 (0), .int .i64 (3), .int .i64 (-1), .int .i64 (0), .int .i64 (0), .int .i64 (0), .int .i64 (0), .int .i64 (3), .int .i64 (0), .int .i64 (1), .int .i64 (0), .int .i64 (1), .int .i64 (0), .int .i64 (0), .int .i64 (0), .int .i64 (5), .int .i64 (0), .int .i64 (3), .int .i64 (1), .int .i64 (0), .int .i64 (0), .int .i64 (0), .int .i64 (0), .int .i64 (2), .int .i64 (0), .int .i64 (2), .int .i64 (0), .int .i64 (0), .int .i64 (0), .int .i64 (0), .int .i64 (0), .int .i64 (0), .int .i64 (0)] 71)) 4 (.slice (some ⟨wr.heap.size, 0, none⟩) 16 16) 16 (ints lits) := src_lit wr 71 4 16 lits rfl
              have HSRC := Lib.hid hsrc
              have h7 := hr.alloc (.cells #[.int .i64 (0), .int .i64 (9), .int .i64 (0), .int .i64 (0), .int .i64 (0), .int .i64 (0), .int .i64 (11), .int .i64 (0), .int .i64 (0), .int .i64 (0), .int .i64 (-1), .int .i64 (0), .int .i64 (0), .int .i64 (0), .int .i64 (0), .int .i64 (9), .int .i64 (0), .int .i64 (0), .int .i64 (0), .int .i64 (-1), .int .i64 (1), .int .i64 (9), .int .i64 (0), .int .i64 (0), .int .i64 (1), .int .i64 (0), .int .i64 (-1), .int .i64 (0), .int .i64 (1), .int .i64 (0), .int .i64 (2000), .int .i64 (0), .int .i64 (3), .int .i64 (-1), .int .i64 (0), .int .i64 (0), .int .i64 (0), .int .i64 (0), .int .i64 (3), .int .i64 (0), .int .i64 (1), .int .i64 (0), .int .i64 (1), .int .i64 (0), .int .i64 (0), .int .i64 (0), .int .i64 (5), .int .i64 (0), .int .i64 (3), .int .i64 (1), .int .i64 (0), .int .i64 (0), .int .i64 (0), .int .i64 (0), .int .i64 (2), .int .i64 (0), .int .i64 (2), .int .i64 (0), .int .i64 (0), .int .i64 (0), .int .i64 (0), .int .i64 (0), .int .i64 (0), .int .i64 (0)] 71)
              have hx2 : ∀ x ∈ l ++ lits, -3000 ≤ x ∧ x ≤ 3000 := by
                intro x hx
                rcases List.mem_append.1 hx with hx | hx
                · exact HX.out x hx
                · exact lits_bd x hx
              have HX2 := Lib.hid hx2
              clear hsrc hx2
              go_wp2_with (at_builtin; refine wpList_app_dos rfl _ _ 62 rfl rfl rfl _ do_info Try.underlying62 rfl (by omega) (by omega) HO.out h7 HSRC.out (by omega) ?_; intro v' w' bs' k1 k2; have K1 := Lib.hid k1; clear k1)
              have K3 : Hid (SlO true 71 4 v' 36 (ints (l ++ lits)) bs') := K1
              clear K1
              obtain ⟨A9, c9, hv, h40, hc9⟩ := K3.out.slice
              subst hv
              have hwf : ∀ x ∈ l ++ lits, (Lit.int .i64 x).wf = true := fun x hx => by
                have := HX2.out x hx
                simp [Lit.wf, IntKind.min, IntKind.max, IntKind.signed, IntKind.bits]; omega
              have fl : ∀ ws, Own w (bs' ++ []) ws → FlatAt ws [some .i64, some .i64, some .i64, some .i64] A9 36 := fun ws hw => flatAt_own K3.out hw hwf rfl
              have FL := Lib.hid fl
              have HC9 := Lib.hid hc9
              have H40 := Lib.hid h40
              have K2 := Lib.hid k2
              clear hwf fl HO HX HX2 hr K3 k2 hc9 h40 h7
              go_wp2_with fail
              go_loopw [20] (fun iv wr => ∃ z : Int, iv = .int .i64 z ∧ 1 ≤ z ∧ z ≤ 42 ∧ Own w (bs' ++ []) wr) (fun iv _ => (100 - (intOf iv)).toNat)
              case atStart => exact ⟨1, rfl, by omega, by omega, K2.out⟩
              case round =>
                clear K2
                obtain ⟨z, rfl, hz1, hz2, hr⟩ := hrel
                by_cases hlt : z < 40
                · go_wp2_with fail
                  refine (zonePlays.walk (Own.self wr) 2 z A9 36 c9 H40.out HC9.out (FL.out _ hr)).mono ?_
                  rintro e w3 ⟨rfl, h3⟩
                  have h4 := hr.of_self h3
                  go_wp2_with fail
                  refine (zonePlays.walk (Own.self w3) 8 z A9 36 c9 H40.out HC9.out (FL.out _ h4)).mono ?_
                  rintro e w5 ⟨rfl, h5⟩
                  have h6 := h4.of_self h5
                  go_wp2_with fail
                  refine (zoneFull.walk (Own.self w5) z 0 (wf_small (by omega) (by omega)) (by decide) A9 36 c9 H40.out HC9.out (FL.out _ h6)).mono ?_
                  rintro e w7 ⟨rfl, h7⟩
                  have h8 := h6.of_self h7
                  go_wp2_with fail
                  exact ⟨⟨z + 3, rfl, by omega, by omega, h8⟩, by simp [intOf]; omega⟩
                · go_wp2_with fail
                  refine (law08.works_spec hr).mono ?_
                  rintro e w3 ⟨rfl, h3⟩
                  go_wp2_with fail
                  refine (zonePlays.walk (Own.self w3) 9 5 A9 36 c9 H40.out HC9.out (FL.out _ h3)).mono ?_
                  rintro e w5 ⟨rfl, h5⟩
                  have h6 := h3.of_self h5
                  go_wp2_with fail
                  refine (zonePlays.walk (Own.self w5) 1 (-3) A9 36 c9 H40.out HC9.out (FL.out _ h6)).mono ?_
                  rintro e w7 ⟨rfl, h7⟩
                  have h8 := h6.of_self h7
                  go_wp2_with fail
                  go_ret
                  exact ⟨rfl, h8.dropL⟩
end zoneKnown
end Go.Proofs.Ytljcndcmdphmgaa
