/-
  wainscotlaw07.NearKnown answers true.
-/
import Derived.Test.YtpmnababdjdniaaNearPlaysLaw
import Derived.Test.YtpmnababdjdniaaDos


namespace Go.Proofs.Ytpmnababdjdniaa.nearKnown
open Go.RowKit

/-- near pages that are none: a nil pointer, or one to a zero struct -/
def NoNear (w : World) (p : Option Addr) : Prop := p = none ∨ ∃ b, p = some ⟨b, 0, none⟩ ∧ b < w.heap.size ∧ w.cell? ⟨b, 0, none⟩ = some (.slice none 0 0)

set_option maxHeartbeats 400000 in
theorem list_none {w : World} {p : Option Addr} (h : NoNear w p) (cpu : Int) : Calls Try.prog 44 #[.pointer p, .int .i64 cpu] w fun e w' => e = .returned (.pointer none) ∧ w = w' := by
  rcases h with rfl | ⟨b, rfl, hb, c0⟩
  · go_enter Try.func44, Try.ntmps44
    go_wp2
    go_ret
    exact ⟨rfl, rfl⟩
  · by_cases hc : cpu < 0
    · go_enter Try.func44, Try.ntmps44
      go_wp2
      go_ret
      exact ⟨rfl, rfl⟩
    · have h3 : 0 ≤ cpu := by omega
      go_enter Try.func44, Try.ntmps44
      go_wp2
      go_ret
      exact ⟨rfl, rfl⟩
set_option maxHeartbeats 400000 in
theorem take_none {w : World} {p : Option Addr} (h : NoNear w p) (cpu : Int) : Calls Try.prog 31 #[.pointer p, .int .i64 cpu] w fun e w' => e = .returned (.tuple #[.int .i64 0, .bool false]) ∧ w = w' := by
  go_enter Try.func31, Try.ntmps31
  go_wp2_with (go_at_call 44; refine (list_none h cpu).mono ?_; rintro e w' ⟨rfl, rfl⟩)
  go_ret2
  exact ⟨rfl, rfl⟩
set_option maxHeartbeats 400000 in
theorem drain_none {w : World} {p : Option Addr} (h : NoNear w p) (cpu : Int) : Calls Try.prog 32 #[.pointer p, .int .i64 cpu] w fun e w' => e = .returned (.slice none 0 0) ∧ w = w' := by
  go_enter Try.func32, Try.ntmps32
  go_wp2_with (go_at_call 44; refine (list_none h cpu).mono ?_; rintro e w' ⟨rfl, rfl⟩)
  go_ret
  exact ⟨rfl, rfl⟩
set_option maxHeartbeats 400000 in
theorem List_none {w : World} {p : Option Addr} (h : NoNear w p) (cpu : Int) : Calls Try.prog 26 #[.pointer p, .int .i64 cpu] w fun e w' => e = .returned (.slice none 0 0) ∧ w = w' := by
  go_enter Try.func26, Try.ntmps26
  go_wp2_with (go_at_call 44; refine (list_none h cpu).mono ?_; rintro e w' ⟨rfl, rfl⟩)
  go_ret
  exact ⟨rfl, rfl⟩
set_option maxHeartbeats 400000 in
theorem put_none {w : World} {p : Option Addr} (h : NoNear w p) (cpu g : Int) : Calls Try.prog 30 #[.pointer p, .int .i64 cpu, .int .i64 g] w fun e w' => e = .returned (.tuple #[.slice none 0 0, .int .i64 1]) ∧ w = w' := by
  rcases h with rfl | ⟨b, rfl, hb, c0⟩
  · go_enter Try.func30, Try.ntmps30
    go_wp2
    go_ret2
    exact ⟨rfl, rfl⟩
  · go_enter Try.func30, Try.ntmps30
    go_wp2
    go_ret2
    exact ⟨rfl, rfl⟩
theorem indexFunc_nil {w : World} (f : Value) : Calls Try.prog 52 #[.slice none 0 0, f] w fun e w' => e = .returned (.int .i64 (-1)) ∧ w = w' := by
  go_enter Try.func52, Try.ntmps52
  go_wp2_with fail
  go_loop [8] (fun k => k = .int .i64 0) (fun k => 0)
  case atStart => rfl
  case round =>
    obtain rfl := hrel
    go_wp2_with fail
    go_ret
    exact ⟨rfl, rfl⟩
theorem containsFunc_nil {w : World} (f : Value) : Calls Try.prog 48 #[.slice none 0 0, f] w fun e w' => e = .returned (.bool false) ∧ w = w' := by
  go_enter Try.func48, Try.ntmps48
  go_wp2_with (go_at_call 52; refine (indexFunc_nil f).mono ?_; rintro e w' ⟨rfl, rfl⟩)
  go_ret
  exact ⟨rfl, rfl⟩
set_option maxHeartbeats 400000 in
theorem has_none {W w : World} {m : List (Nat × Obj)} {p : Option Addr} (h : NoNear w p) (ho : Own W m w) (g : Int) : Calls Try.prog 33 #[.pointer p, .int .i64 g] w fun e w' => e = .returned (.bool false) ∧ Own W m w' ∧ NoNear w' p := by
  rcases h with rfl | ⟨b, rfl, hb, c0⟩
  · go_enter Try.func33, Try.ntmps33
    go_wp2
    go_ret
    exact ⟨rfl, ho.alloc _, .inl rfl⟩
  · go_enter Try.func33, Try.ntmps33
    go_wp2_with (go_at_call 48; refine (containsFunc_nil _).mono ?_; rintro e w' ⟨rfl, rfl⟩)
    go_ret
    refine ⟨rfl, ho.alloc _, .inr ⟨b, rfl, by simp; omega, ?_⟩⟩
    rw [World.cell?_alloc_lt _ _ _ hb]
    exact c0

theorem plays_spec (cpus lim : Int) (A : Option Addr) (len cap : Nat) (hlen : len ≤ maxLen) {W w : World} {m : List (Nat × Obj)} (hA : FlatAt w [some .i64, some .i64, some .i64] A len) (h : Own W m w) :
    Calls Try.prog 7 #[.int .i64 cpus, .int .i64 lim, .slice A len cap] w fun e w' => e = .returned (.bool true) ∧ Own W m w' :=
  (nearPlays.walk (Own.self w) cpus lim A len cap hlen hA).mono fun _ _ ⟨he, ho⟩ => ⟨he, h.of_self ho⟩

/-- the first calls -/
def firsts : Nat → List Int
  | 0 => []
  | n + 1 => firsts n ++ [0, (n : Int).tmod 3, 1023 - n]
theorem firsts_len : ∀ n, (firsts n).length = n * 3
  | 0 => rfl
  | n + 1 => by rw [firsts, List.length_append, firsts_len n]; simp; omega
theorem firsts_bd : ∀ n, n ≤ 140 → ∀ x ∈ firsts n, 0 ≤ x ∧ x ≤ 1023
  | 0, _, x, hx => by simp [firsts] at hx
  | n + 1, hn, x, hx => by
    rw [firsts, List.mem_append] at hx
    rcases hx with hx | hx
    · exact firsts_bd n (by omega) x hx
    · have t0 := Int.tmod_nonneg 3 (show (0 : Int) ≤ n by omega)
      have t1 := Int.tmod_lt_of_pos (n : Int) (show (0 : Int) < 3 by omega)
      simp only [List.mem_cons, List.not_mem_nil, or_false] at hx
      rcases hx with rfl | rfl | rfl <;> omega
theorem wf_of {x : Int} (h : -9223372036854775808 ≤ x ∧ x ≤ 9223372036854775807) : (Lit.int .i64 x).wf = true := by
  simpa [Lit.wf, IntKind.min, IntKind.max, IntKind.signed, IntKind.bits] using h
def lasts : List Int := [0, 0, 1024, 0, 0, -1, 0, 8, 0, 0, -1, 0, 1, 9, 0, 2, -1, 0, 2, 1, 0, 1, 0, 0]
theorem all_wf : ∀ x ∈ firsts 140 ++ lasts, (Lit.int .i64 x).wf = true := by
  intro x hx
  rw [List.mem_append] at hx
  rcases hx with hx | hx
  · have := firsts_bd 140 (Nat.le_refl _) x hx
    exact wf_of (by omega)
  · revert x
    decide
theorem do_info : (Try.prog.info? 59).map (fun i => (i.zero, i.size, i.bytes)) = some (some (.agg #[.int .i64 0, .int .i64 0, .int .i64 0]), 3, 24) := by kernel_rfl

set_option maxRecDepth 100000 in
set_option maxHeartbeats 1000000 in
theorem walk {W w : World} (h : Own W [] w) : Calls Try.prog 10 #[] w fun e w' => e = .returned (.bool true) ∧ Own W [] w' := by
  go_enter Try.func10, Try.ntmps10
  go_wp2_with fail
  go_loopw [1, 2] (fun p i wr => ∃ k : Nat, k ≤ 2 ∧ i = .int .i64 k ∧ ∃ a, p = .pointer a ∧ NoNear wr a ∧ Own W [] wr) (fun _ i _ => (2 - intOf i).toNat)
  case atStart => exact ⟨0, by omega, rfl, none, rfl, .inl rfl, h⟩
  case round =>
    obtain ⟨k, hk, rfl, a, rfl, hn, hr⟩ := hrel
    by_cases hk2 : k < 2
    · go_wp2_with (first | (go_at_call 30; refine (put_none hn _ _).mono ?_; rintro e w' ⟨rfl, rfl⟩) | (go_at_call 32; refine (drain_none hn _).mono ?_; rintro e w' ⟨rfl, rfl⟩) | (go_at_call 33; refine (has_none hn hr _).mono ?_; rintro e w2 ⟨rfl, h2, hn2⟩) | (go_at_call 26; refine (List_none hn2 _).mono ?_; rintro e w' ⟨rfl, rfl⟩) | (go_at_call 31; refine (take_none hn _).mono ?_; rintro e w' ⟨rfl, rfl⟩))
      go_roundw
      case rel =>
        refine ⟨k + 1, by omega, by go_num, _, rfl, .inr ⟨_, rfl, by simp, ?_⟩, h2.alloc _⟩
        rw [World.cell?_alloc_new]; rfl
      case measure => simp [intOf]; omega
    · clear hn
      go_wp2_with fail
      obtain ⟨wo, rfl⟩ : ∃ wo : World, wo = wr := ⟨_, rfl⟩
      go_loopw [7, 8] (fun s i wr => ∃ (j : Nat) (v : Value) (bs : List (Nat × Obj)), j ≤ 140 ∧ i = .int .i64 j ∧ s = v ∧ SlO true 59 3 v j (ints (firsts j)) bs ∧ Own W (bs ++ []) wr) (fun _ i _ => (140 - intOf i).toNat)
      case atStart => exact ⟨0, _, [], by omega, rfl, rfl, SlO.nil _ _ _, hr⟩
      case round =>
        clear hr
        obtain ⟨j, v, bs, hj, rfl, rfl, hs, hr⟩ := hrel
        have hs0 := hs
        obtain ⟨A, c, rfl, _, _⟩ := hs0.slice
        clear hs0
        by_cases hj4 : j < 140
        · have hw : IntKind.i64.wrap (1023 - (j : Int)) = 1023 - (j : Int) := by rw [IntWalk.i64_in] <;> omega
          have hw1 : IntKind.i64.wrap ((j : Int) + 1) = ((j + 1 : Nat) : Int) := by rw [IntWalk.i64_in] <;> omega
          have hsl : Src (wr.alloc (.cells #[.int .i64 0, .int .i64 ((j : Int).tmod 3), .int .i64 (1023 - (j : Int))] 59)) 3 (.slice (some ⟨wr.heap.size, 0, none⟩) 1 1) 1 (ints [0, (j : Int).tmod 3, 1023 - (j : Int)]) := src_lit wr 59 3 1 [0, (j : Int).tmod 3, 1023 - (j : Int)] rfl
          have HSL := Lib.hid hsl
          have HS := Lib.hid hs
          clear hs hsl
          go_wp2_with (at_builtin; refine wpList_app_dos (by rfl) _ _ 50 (by rfl) (by rfl) (by rfl) _ do_info Try.underlying50 rfl (by omega) (by omega) HS.out (hr.alloc _) HSL.out (by omega) ?_; intro v' w2 bs' h6 h7; obtain ⟨A6, c6, rfl, _⟩ := h6.slice)
          go_roundw
          case rel => exact ⟨j + 1, _, bs', by omega, rfl, rfl, h6, h7⟩
          case measure => simp [intOf]; omega
        · have hje : j = 140 := by omega
          subst hje
          have hsl : Src (wr.alloc (.cells (ints lasts).toArray 59)) 3 (.slice (some ⟨wr.heap.size, 0, none⟩) 8 8) 8 (ints lasts) := src_lit wr 59 3 8 lasts rfl
          have HSL := Lib.hid hsl
          have HS := Lib.hid hs
          clear hs hsl
          go_wp2_with (at_builtin; refine wpList_app_dos (by rfl) _ _ 50 (by rfl) (by rfl) (by rfl) _ do_info Try.underlying50 rfl (by omega) (by omega) HS.out (hr.alloc _) HSL.out (by omega) ?_; intro v' w2 bs' h6 h7; obtain ⟨A6, c6, rfl, hn6, hc6⟩ := h6.slice)
          have h6' : SlO true 59 3 (.slice A6 148 c6) 148 (ints (firsts 140 ++ lasts)) bs' := h6
          have hat : ∀ w' : World, Own W (bs' ++ []) w' → FlatAt w' [some .i64, some .i64, some .i64] A6 148 := fun w' ho => flatAt_own h6' ho all_wf rfl
          have HAT := Lib.hid hat
          clear h6 h6' hat hr
          obtain ⟨wq, rfl⟩ : ∃ wq : World, wq = wr := ⟨_, rfl⟩
          go_loopw [9] (fun i wr => ∃ q : Int, -1 ≤ q ∧ q ≤ 68 ∧ i = .int .i64 q ∧ Own W (bs' ++ []) wr) (fun i _ => (68 - intOf i).toNat)
          case atStart => exact ⟨-1, by omega, by omega, rfl, h7⟩
          case round =>
            clear h7
            obtain ⟨q, hq, hq1, rfl, hr⟩ := hrel
            by_cases hq6 : q ≤ 65
            · have hw : IntKind.i64.wrap (q + 3) = q + 3 := by rw [IntWalk.i64_in] <;> omega
              go_wp2_with fail
              refine (plays_spec 3 q _ 148 c6 (by unfold maxLen; omega) (HAT.out _ hr) hr).mono ?_
              rintro e w5 ⟨rfl, h5⟩
              go_wp2_with fail
              refine (plays_spec 8 q _ 148 c6 (by unfold maxLen; omega) (HAT.out _ h5) h5).mono ?_
              rintro e w6 ⟨rfl, h6⟩
              go_wp2_with fail
              go_roundw
              case rel => exact ⟨q + 3, by omega, by omega, rfl, h6⟩
              case measure => simp [intOf]; omega
            · go_wp2_with fail
              refine (works07_spec hr).mono ?_
              rintro e w5 ⟨rfl, h5⟩
              go_wp2_with fail
              refine (plays_spec 0 1 none 0 0 (by unfold maxLen; omega) (fun h => absurd h (by omega)) h5).mono ?_
              rintro e w6 ⟨rfl, h6⟩
              go_wp2_with fail
              refine (plays_spec 9 1 none 0 0 (by unfold maxLen; omega) (fun h => absurd h (by omega)) h6).mono ?_
              rintro e w7 ⟨rfl, h7⟩
              go_wp2_with fail
              refine (plays_spec 1 64 _ 148 c6 (by unfold maxLen; omega) (HAT.out _ h7) h7).mono ?_
              rintro e w8 ⟨rfl, h8⟩
              go_wp2_with fail
              refine (plays_spec 1 65 _ 148 c6 (by unfold maxLen; omega) (HAT.out _ h8) h8).mono ?_
              rintro e w9 ⟨rfl, h9⟩
              go_wp2_with fail
              go_ret
              exact ⟨rfl, h9.dropL⟩
end Go.Proofs.Ytpmnababdjdniaa.nearKnown
