/-
  The places of a chart, as the code lists them. No condition.
-/
import Derived.Test.YtigakendeghoaaaApartMade
import Derived.Test.YtigakendeghoaaaStepInts
namespace Go.Proofs.Ytigakendeghoaaa.Apart
open Go.RowKit
open chartPlaces (Ok)
attribute [local go_sem ↓] Go.wp_at_zero Go.wp_at_succ
def castN (l : List Nat) : List Int := l.map fun n => ((n : Nat) : Int)
theorem castN_append (a b : List Nat) : castN (a ++ b) = castN a ++ castN b := by simp [castN]
theorem castN_len (a : List Nat) : (castN a).length = a.length := by simp [castN]
/-- the first of them: processors' words, as many as k have -/
def plA (C k : Nat) : List Nat := [4 * C, 4 * C + 1, 4 * C + 2] ++ (List.range k).flatMap cpuPl
/-- .. and those of k slabs -/
def plB (C S O k : Nat) : List Nat := plA C C ++ (List.range k).flatMap (slabPl C S O)
/-- .. and of the next one, with j links -/
def plC (C S O k j : Nat) : List Nat := plB C S O k ++ ([4 * C + 4 + 4 * k, 4 * C + 4 + 4 * k + 1, 4 * C + 4 + 4 * k + 2] ++ (List.range j).map fun i => 4 * C + 4 + 4 * S + k * O + i)
theorem plA_succ (C k : Nat) : plA C (k + 1) = plA C k ++ cpuPl k := by simp [plA, List.range_succ]
theorem plB_zero (C S O : Nat) : plB C S O 0 = plA C C := by simp [plB]
theorem plC_succ (C S O k j : Nat) : plC C S O k (j + 1) = plC C S O k j ++ [4 * C + 4 + 4 * S + k * O + j] := by simp [plC, List.range_succ]
theorem plB_succ (C S O k : Nat) : plB C S O (k + 1) = plC C S O k O := by simp [plB, plC, List.range_succ, slabPl]
theorem pl_eq (C S O : Nat) : pl C S O = plB C S O S := by simp [pl, plB, plA]
theorem plA_len (C : Nat) : ∀ k, (plA C k).length = 3 + 4 * k
  | 0 => rfl
  | k + 1 => by rw [plA_succ, List.length_append, plA_len C k]; simp [cpuPl]; omega
theorem plC_len (C S O k : Nat) : ∀ j, (plC C S O k j).length = (plB C S O k).length + 3 + j
  | 0 => by simp [plC]
  | j + 1 => by rw [plC_succ, List.length_append, plC_len C S O k j]; simp; omega
theorem plB_len (C S O : Nat) : ∀ k, (plB C S O k).length = 3 + 4 * C + k * (3 + O)
  | 0 => by rw [plB_zero, plA_len]; omega
  | k + 1 => by
    have := Nat.succ_mul k (3 + O)
    rw [plB_succ, plC_len, plB_len C S O k]
    simp only [Nat.succ_eq_add_one] at this
    omega
section
variable {d e key : Int} {W w : World} {m : List (Nat × Obj)}
/-- a chart's block -/
def chB (b : Nat) (C S O d e key : Int) : Nat × Obj := (b, .cells #[.int .i64 C, .int .i64 S, .int .i64 O, .int .i64 d, .int .i64 e, .int .u64 key] 24)
def ChAt (w : World) (b : Nat) (C S O d e key : Int) : Prop :=
    w.cell? ⟨b, 0, none⟩ = some (.int .i64 C) ∧ w.cell? ⟨b, 1, none⟩ = some (.int .i64 S) ∧ w.cell? ⟨b, 2, none⟩ = some (.int .i64 O) ∧ w.cell? ⟨b, 3, none⟩ = some (.int .i64 d) ∧ w.cell? ⟨b, 4, none⟩ = some (.int .i64 e) ∧ w.cell? ⟨b, 5, none⟩ = some (.int .u64 key)
theorem box6 {b : Nat} {C S O d e key : Int} (h : Own W (chB b C S O d e key :: m) w) : ChAt w b C S O d e key :=
  ⟨h.cell List.mem_cons_self 0, h.cell List.mem_cons_self 1, h.cell List.mem_cons_self 2, h.cell List.mem_cons_self 3, h.cell List.mem_cons_self 4, h.cell List.mem_cons_self 5⟩
theorem box6' {b : Nat} {C S O d e key : Int} {bs : List (Nat × Obj)} (h : Own W (bs ++ chB b C S O d e key :: m) w) : ChAt w b C S O d e key := box6 (h.perm List.perm_middle)
set_option maxRecDepth 100000 in
set_option maxHeartbeats 4000000 in
theorem places_ok {C S O : Nat} (h : Ok C S O d e) (hO : Own W m w) : Calls Try.prog 41 #[chV C S O d e key] w fun r w' => ∃ v bs, r = .returned v ∧ IntsOwn true v (castN (pl C S O)) bs ∧ Own W (bs ++ m) w' := by
  have h0 : Own W (chB w.heap.size C S O d e key :: m) _ := hO.new (.cells #[.int .i64 C, .int .i64 S, .int .i64 O, .int .i64 d, .int .i64 e, .int .u64 key] 24)
  have hOk := Lib.hid h
  have hC : 1 ≤ C ∧ C ≤ 8 ∧ 1 ≤ S ∧ S ≤ 32 ∧ 1 ≤ O ∧ O ≤ 16 := by unfold Ok at h; omega
  obtain ⟨c1, c2, c3, c4, c5, c6⟩ := hC
  obtain ⟨y0, y1, y2, y3, y4, y5⟩ := box6 h0
  clear h
  unfold chV
  go_enter Try.func41, Try.ntmps41
  go_wp2_with fail
  go_region_held3 (fun w' => w'.cell? ⟨w.heap.size, 0, none⟩ = some (.int .i64 C) ∧ w'.cell? ⟨w.heap.size, 1, none⟩ = some (.int .i64 S) ∧ w'.cell? ⟨w.heap.size, 2, none⟩ = some (.int .i64 O) ∧ w'.cell? ⟨w.heap.size, 3, none⟩ = some (.int .i64 d) ∧ w'.cell? ⟨w.heap.size, 4, none⟩ = some (.int .i64 e) ∧ w'.cell? ⟨w.heap.size, 5, none⟩ = some (.int .u64 key))
    (first | assumption | go_keep)
    (first | (go_at_call 15; ((with_reducible refine (lock_ok hOk.out h0.drew).mono ?_); rintro r w1 ⟨rfl, h1⟩; have y1 := box6 h1)) | (go_at_call 16; ((with_reducible refine (shelf_ok hOk.out h1).mono ?_); rintro r w2 ⟨rfl, h2⟩; have y2 := box6 h2)) | (go_at_call 17; ((with_reducible refine (held_ok hOk.out h2).mono ?_); rintro r w3 ⟨rfl, h3⟩; have y3 := box6 h3)))
  have o3 : IntsOwn true (.slice (some ⟨w3.heap.size, 0, none⟩) 3 3) (castN (plA C 0)) [(w3.heap.size, .cells #[.int .i64 (4 * C), .int .i64 (4 * C + 1), .int .i64 (4 * C + 2)] 3)] := by
    have := SlO.made true 3 1 w3.heap.size 3 #[.int .i64 (4 * C), .int .i64 (4 * C + 1), .int .i64 (4 * C + 2)] 3 (Nat.le_refl _) (by unfold maxLen; omega) rfl
    have e : (#[Value.int .i64 (4 * C), .int .i64 (4 * C + 1), .int .i64 (4 * C + 2)] : Array Value).toList.take (3 * 1) = ints (castN (plA C 0)) := by simp [plA, castN, ints]
    rw [e] at this
    exact this
  have h4 : Own W ([(w3.heap.size, .cells #[.int .i64 (4 * C), .int .i64 (4 * C + 1), .int .i64 (4 * C + 2)] 3)] ++ chB w.heap.size C S O d e key :: m) _ := h3.new _
  have O3 := Lib.hid o3
  obtain ⟨wa, hwa⟩ : ∃ wa, w3.alloc (.cells #[.int .i64 (4 * C), .int .i64 (4 * C + 1), .int .i64 (4 * C + 2)] 3) = wa := ⟨_, rfl⟩
  rw [hwa] at h4 ⊢
  clear hwa
  clear h0 h1 h2 h3 y0 y1 y2 y3 y4 y5 o3
  go_wp2_with fail
  go_loopw [3, 4] (fun out i wr => ∃ (k : Nat) (bs : List (Nat × Obj)), k ≤ C ∧ i = .int .i64 k ∧ Hid (IntsOwn true out (castN (plA C k)) bs) ∧ Own W (bs ++ chB w.heap.size C S O d e key :: m) wr) (fun _ i _ => C - (intOf i).toNat)
  case atStart => exact ⟨0, _, by omega, rfl, O3, h4⟩
  case round =>
    clear h4 O3
    obtain ⟨k, bs, hk, rfl, HO, hr⟩ := hrel
    obtain ⟨y0, y1, y2, y3, y4, y5⟩ := box6' hr
    have hlen := plA_len C k
    rw [← castN_len] at hlen
    obtain ⟨A3, n3, hv, -, -⟩ := HO.out.slice
    subst hv
    have HLEN := Lib.hid hlen
    clear hlen
    by_cases hlt : k < C
    · have hlti : (k : Int) < C := by omega
      have hkk : 0 ≤ (k : Int) ∧ (k : Int) < (C : Int) := by omega
      have HK := Lib.hid hkk
      have hwp := hr.perm List.perm_middle
      have w1 : IntKind.i64.wrap (4 * (k : Int) + 1) = 4 * (k : Int) + 1 := by rw [IntWalk.i64_in] <;> omega
      have w2 : IntKind.i64.wrap (4 * (k : Int) + 2 + 1) = 4 * (k : Int) + 2 + 1 := by rw [IntWalk.i64_in] <;> omega
      have hsrc : ∀ w8 : World, IntsSrc (w8.alloc (.cells #[.int .i64 (4 * (k : Int)), .int .i64 (4 * (k : Int) + 1), .int .i64 (4 * (k : Int) + 2), .int .i64 (4 * (k : Int) + 2 + 1)] 3)) (.slice (some ⟨w8.heap.size, 0, none⟩) 4 4) [4 * (k : Int), 4 * (k : Int) + 1, 4 * (k : Int) + 2, 4 * (k : Int) + 2 + 1] := fun w8 => src_lit w8 3 1 4 [4 * (k : Int), 4 * (k : Int) + 1, 4 * (k : Int) + 2, 4 * (k : Int) + 2 + 1] rfl
      have HSRC := Lib.hid hsrc
      clear hkk hsrc
      go_wp2_with fail
      go_region_held3 (fun w' => w'.cell? ⟨w.heap.size, 0, none⟩ = some (.int .i64 C) ∧ w'.cell? ⟨w.heap.size, 1, none⟩ = some (.int .i64 S) ∧ w'.cell? ⟨w.heap.size, 2, none⟩ = some (.int .i64 O) ∧ w'.cell? ⟨w.heap.size, 3, none⟩ = some (.int .i64 d) ∧ w'.cell? ⟨w.heap.size, 4, none⟩ = some (.int .i64 e) ∧ w'.cell? ⟨w.heap.size, 5, none⟩ = some (.int .u64 key))
        (first | assumption | go_keep)
        (first
          | (go_at_call 13; (first | ((with_reducible refine (head_ok hOk.out HK.out h5).mono ?_); rintro r w6 ⟨rfl, h6⟩; have y6 := box6 h6) | ((with_reducible refine (head_ok hOk.out HK.out hwp.drew).mono ?_); rintro r w5 ⟨rfl, h5⟩; have y5 := box6 h5)))
          | (go_at_call 14; (first | ((with_reducible refine (part_ok hOk.out HK.out h7).mono ?_); rintro r w8 ⟨rfl, h8⟩; have y8 := box6 h8) | ((with_reducible refine (part_ok hOk.out HK.out h6).mono ?_); rintro r w7 ⟨rfl, h7⟩; have y7 := box6 h7)))
          | ((refine step_app_ints (by rfl) _ _ (by rfl) (by rfl) (by rfl) HO.out ((h8.perm List.perm_middle.symm).alloc _) (HSRC.out w8) (by rw [HLEN.out]; simp; omega) ?_); intro v' w' bs' k1 k2; have K1 := Lib.hid k1; clear k1; have y9 := box6' k2))
      go_wp2_with fail
      refine ⟨⟨k + 1, bs', by omega, by go_num, ?_, k2⟩, by simp [intOf]; omega⟩
      show IntsOwn true v' (castN (plA C (k + 1))) bs'
      have e : castN (plA C (k + 1)) = castN (plA C k) ++ [4 * (k : Int), 4 * (k : Int) + 1, 4 * (k : Int) + 2, 4 * (k : Int) + 2 + 1] := by
        rw [plA_succ, castN_append]
        simp [castN, cpuPl]
        omega
      rw [e]
      exact K1.out
    · have hkC : k = C := by omega
      subst hkC
      have hlti : ¬ (k : Int) < k := by omega
      go_wp2_with fail
      go_loopw [3, 5] (fun out i wr => ∃ (q : Nat) (bs : List (Nat × Obj)), q ≤ S ∧ i = .int .i64 q ∧ Hid (IntsOwn true out (castN (plB k S O q)) bs) ∧ Own W (bs ++ chB w.heap.size k S O d e key :: m) wr) (fun _ i _ => S - (intOf i).toNat)
      case atStart => exact ⟨0, _, by omega, rfl, by rw [plB_zero]; exact HO, hr⟩
      case round =>
        clear hr HO y0 y1 y2 y3 y4 y5 HLEN hlt hlti
        obtain ⟨q, bs, hq, rfl, HO, hr⟩ := hrel
        obtain ⟨y0, y1, y2, y3, y4, y5⟩ := box6' hr
        have hqm : q * (3 + O) ≤ S * (3 + O) := Nat.mul_le_mul_right _ hq
        have hSm : S * (3 + O) ≤ 32 * 19 := Nat.mul_le_mul c4 (by omega)
        have hlen := plB_len k S O q
        rw [← castN_len] at hlen
        have hl2 : (castN (plB k S O q)).length ≤ 700 := by omega
        have HLEN := Lib.hid hl2
        obtain ⟨A3, n3, hv, -, -⟩ := HO.out.slice
        subst hv
        clear hlen hl2 hqm hSm
        by_cases hlt : q < S
        · have hlti : (q : Int) < S := by omega
          have hqq : 0 ≤ (q : Int) ∧ (q : Int) < (S : Int) := by omega
          have HK := Lib.hid hqq
          have hwp := hr.perm List.perm_middle
          have w1 : IntKind.i64.wrap (4 * (k : Int) + 4 + 4 * (q : Int) + 1) = 4 * (k : Int) + 4 + 4 * (q : Int) + 1 := by rw [IntWalk.i64_in] <;> omega
          have hsrc : ∀ w8 : World, IntsSrc (w8.alloc (.cells #[.int .i64 (4 * (k : Int) + 4 + 4 * (q : Int)), .int .i64 (4 * (k : Int) + 4 + 4 * (q : Int) + 1), .int .i64 (4 * (k : Int) + 4 + 4 * (q : Int) + 2)] 3)) (.slice (some ⟨w8.heap.size, 0, none⟩) 3 3) [4 * (k : Int) + 4 + 4 * (q : Int), 4 * (k : Int) + 4 + 4 * (q : Int) + 1, 4 * (k : Int) + 4 + 4 * (q : Int) + 2] := fun w8 => src_lit w8 3 1 3 [4 * (k : Int) + 4 + 4 * (q : Int), 4 * (k : Int) + 4 + 4 * (q : Int) + 1, 4 * (k : Int) + 4 + 4 * (q : Int) + 2] rfl
          have HSRC := Lib.hid hsrc
          clear hqq hsrc
          go_wp2_with fail
          go_region_held3 (fun w' => w'.cell? ⟨w.heap.size, 0, none⟩ = some (.int .i64 k) ∧ w'.cell? ⟨w.heap.size, 1, none⟩ = some (.int .i64 S) ∧ w'.cell? ⟨w.heap.size, 2, none⟩ = some (.int .i64 O) ∧ w'.cell? ⟨w.heap.size, 3, none⟩ = some (.int .i64 d) ∧ w'.cell? ⟨w.heap.size, 4, none⟩ = some (.int .i64 e) ∧ w'.cell? ⟨w.heap.size, 5, none⟩ = some (.int .u64 key))
            (first | assumption | go_keep)
            (first
              | (go_at_call 18; (first | ((with_reducible refine (first_ok hOk.out HK.out h5).mono ?_); rintro r w6 ⟨rfl, h6⟩; have y6 := box6 h6) | ((with_reducible refine (first_ok hOk.out HK.out hwp.drew).mono ?_); rintro r w5 ⟨rfl, h5⟩; have y5 := box6 h5)))
              | (go_at_call 19; ((with_reducible refine (next_ok hOk.out HK.out h6).mono ?_); rintro r w7 ⟨rfl, h7⟩; have y7 := box6 h7))
              | ((refine step_app_ints (by rfl) _ _ (by rfl) (by rfl) (by rfl) HO.out ((h7.perm List.perm_middle.symm).alloc _) (HSRC.out w7) (by have := HLEN.out; simp; omega) ?_); intro v' w' bs' k1 k2; have K1 := Lib.hid k1; clear k1; have y9 := box6' k2))
          have K2 : Hid (IntsOwn true v' (castN (plC k S O q 0)) bs') := by
            show IntsOwn true v' (castN (plC k S O q 0)) bs'
            have e : castN (plC k S O q 0) = castN (plB k S O q) ++ [4 * (k : Int) + 4 + 4 * (q : Int), 4 * (k : Int) + 4 + 4 * (q : Int) + 1, 4 * (k : Int) + 4 + 4 * (q : Int) + 2] := by
              unfold plC
              rw [castN_append]
              simp [castN]
            rw [e]
            exact K1.out
          clear K1 h5 h6 h7 y6 y7 w1 hwp
          go_wp2_with fail
          go_loopw [3, 6] (fun out i wr => ∃ (j : Nat) (bs : List (Nat × Obj)), j ≤ O ∧ i = .int .i64 j ∧ Hid (IntsOwn true out (castN (plC k S O q j)) bs) ∧ Own W (bs ++ chB w.heap.size k S O d e key :: m) wr) (fun _ i _ => O - (intOf i).toNat)
          case atStart => exact ⟨0, _, by omega, rfl, K2, k2⟩
          case round =>
            clear hr k2 K2 y0 y1 y2 y3 y4 y5 y9 HO
            obtain ⟨j, bs, hj, rfl, HO, hr⟩ := hrel
            obtain ⟨y0, y1, y2, y3, y4, y5⟩ := box6' hr
            have hlen := plC_len k S O q j
            rw [← castN_len, ← castN_len] at hlen
            have hl2 : (castN (plC k S O q j)).length ≤ 800 := by have := HLEN.out; omega
            have HLEN2 := Lib.hid hl2
            obtain ⟨A3, n3, hv, -, -⟩ := HO.out.slice
            subst hv
            clear hlen hl2
            by_cases hlj : j < O
            · have hlji : (j : Int) < O := by omega
              have hjj : 0 ≤ (j : Int) ∧ (j : Int) < (O : Int) := by omega
              have HJ := Lib.hid hjj
              have hwp := hr.perm List.perm_middle
              clear hjj
              go_wp2_with fail
              refine (link_ok hOk.out HK.out HJ.out hwp).mono ?_
              rintro r w5 ⟨rfl, h5⟩
              have h6 := (h5.perm List.perm_middle.symm).alloc (.cells #[.int .i64 (4 * (k : Int) + 4 + 4 * (S : Int) + (q : Int) * (O : Int) + (j : Int))] 3)
              have hsrc := src_one w5 (4 * (k : Int) + 4 + 4 * (S : Int) + (q : Int) * (O : Int) + (j : Int))
              have HSRC2 := Lib.hid hsrc
              clear hsrc
              go_wp2_with (at_builtin; refine wpList_app_ints rfl _ _ rfl rfl rfl HO.out h6 HSRC2.out (by have := HLEN2.out; simp; omega) ?_; intro v' w' bs' k1 k2 k3; have K1 := Lib.hid k1; clear k1 k3)
              refine ⟨⟨j + 1, bs', by omega, by go_num, ?_, k2⟩, by simp [intOf]; omega⟩
              show IntsOwn true v' (castN (plC k S O q (j + 1))) bs'
              have e : castN (plC k S O q (j + 1)) = castN (plC k S O q j) ++ [4 * (k : Int) + 4 + 4 * (S : Int) + (q : Int) * (O : Int) + (j : Int)] := by
                rw [plC_succ, castN_append]
                simp [castN]
              rw [e]
              exact K1.out
            · have hjO : j = O := by omega
              subst hjO
              have hlji : ¬ (j : Int) < j := by omega
              go_wp2_with fail
              exact ⟨⟨q + 1, bs, by omega, by go_num, by rw [plB_succ]; exact HO, hr⟩, by simp [intOf]; omega⟩
        · have hqS : q = S := by omega
          subst hqS
          have hlti : ¬ (q : Int) < q := by omega
          go_wp2_with fail
          go_ret
          exact ⟨_, rfl, bs, by rw [pl_eq]; exact HO.out, hr.drop1⟩
end
end Go.Proofs.Ytigakendeghoaaa.Apart
