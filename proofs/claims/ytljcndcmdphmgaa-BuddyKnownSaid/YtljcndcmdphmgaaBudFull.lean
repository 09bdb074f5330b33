/-
  wainscotlaw06.BuddyFull answers true: the walk.
-/
import Derived.Test.YtljcndcmdphmgaaBudFullP
import Derived.Test.YtljcndcmdphmgaaBudWorks
namespace Go.Proofs.Ytljcndcmdphmgaa
open Go.RowKit
namespace buddyFull
set_option maxRecDepth 100000 in
set_option maxHeartbeats 4000000 in
theorem walk {W w : World} {m : List (Nat × Obj)} (h : Own W m w) (pages order : Int) (hp : (Lit.int .i64 pages).wf = true) (ht : (Lit.int .i64 order).wf = true) (A : Option Addr) (len cap : Nat) (hlc : len ≤ cap) (hcap : cap ≤ maxLen) (hat : FlatAt W [some .i64, some .i64, some .i64] A len) :
    Calls Try.prog 6 #[.int .i64 pages, .slice A len cap, .int .i64 order] w fun e w' => e = .returned (.bool true) ∧ Own W m w' := by
  have HT := Lib.hid ht
  have hpb := emod_bd pages 300 (by omega)
  have hob := emod_bd order 11 (by omega)
  obtain ⟨N, hN⟩ : ∃ N : Nat, pages % 300 = N := ⟨(pages % 300).toNat, by omega⟩
  have hN3 : N < 300 := by omega
  obtain ⟨O, hO⟩ : ∃ O : Nat, order % 11 = O := ⟨(order % 11).toNat, by omega⟩
  have hO10 : O ≤ 10 := by omega
  obtain ⟨M, hM, hMi, hM1, hM2⟩ := pow_nat hO10
  have HM := Lib.hid hM
  have hmin : min O 64 = O := by omega
  have hO0 : (0 : Int) ≤ O := by omega
  have HORD := Lib.hid hO
  have hpl := fun w (h : Own W m w) => played_spec h pages hp A len cap hlc hcap hat
  rw [hN, Int.toNat_natCast] at hpl
  have HPL := Lib.hid hpl
  have HMi := Lib.hid hMi
  clear hat ht hN hpb hpl hO hob hM hMi
  go_enter Try.func6, Try.ntmps6
  go_wp2_with fail
  refine (HPL.out w h).mono ?_
  rintro e w2 ⟨pb, L, bl, v, outl, bo, rfl, hI, hL, ho60, hB, hOo, h2⟩
  have h2 := h2.dropL
  have HI := Lib.hid hI
  have HL := Lib.hid hL
  have HB := Lib.hid hB
  clear hI hL hB hOo ho60
  go_wp2_with fail
  refine (bring_spec order 11 (by omega) (by omega) HT.out _).mono ?_
  rintro e w' ⟨rfl, rfl⟩
  rw [HORD.out]
  go_wp2_with fail
  go_loopw [9, 10] (fun s i wr => ∃ (k : Nat) (b : Bool), i = .int .i64 k ∧ O ≤ k ∧ k ≤ 11 ∧ s = .bool b ∧ Hid (someTo L O k b) ∧ Own W (bl ++ m) wr) (fun _ i _ => 11 - (intOf i).toNat)
  case atStart => exact ⟨O, false, rfl, by omega, by omega, rfl, someTo_start _ _, h2⟩
  case round =>
    clear h2
    obtain ⟨k, b, rfl, hk1, hk2, rfl, HS, hr⟩ := hrel
    by_cases hlt : k ≤ 10
    · have hlti : (k : Int) ≤ 10 := by omega
      cases b with
      | true =>
        go_wp2_with fail
        exact ⟨⟨k + 1, true, by go_num, by omega, by omega, rfl, someTo_yes HS.out, hr⟩, by simp [intOf]; omega⟩
      | false =>
        obtain ⟨bs0, hT⟩ := bInv_tab HI.out
        have HT0 := Lib.hid hT
        clear hT
        go_wp2_with fail
        refine (frees_ok hr HB.out HT0.out (by rw [HL.out]; omega) (by rw [HL.out]; omega) k hlt).mono ?_
        rintro e w3 ⟨v3, b3, rfl, o3, h3⟩
        have hle := freesTo_len L k L.length
        rw [HL.out] at hle
        obtain ⟨A3, c3, rfl, -, -⟩ := SlO.slice o3
        have hs := someTo_no hk1 HS.out
        obtain ⟨z, hz⟩ : ∃ z, (freesTo L k L.length).length = z := ⟨_, rfl⟩
        rw [HL.out] at hz
        rw [HL.out] at hs
        rw [hz] at hs hle
        rw [HL.out, hz]
        clear o3
        have h3 := h3.dropL
        by_cases hz0 : 0 < z
        · rw [decide_eq_true hz0] at hs
          have HS' := Lib.hid hs
          have hzi : (0 : Int) < (z : Int) := by omega
          clear hs hz HS
          go_wp2_with fail
          exact ⟨⟨k + 1, true, by go_num, by omega, by omega, rfl, HS', h3⟩, by simp [intOf]; omega⟩
        · rw [decide_eq_false hz0] at hs
          have HS' := Lib.hid hs
          have hzi : ¬ (0 : Int) < (z : Int) := by omega
          clear hs hz HS
          go_wp2_with fail
          exact ⟨⟨k + 1, false, by go_num, by omega, by omega, rfl, HS', h3⟩, by simp [intOf]; omega⟩
    · have hlti : ¬ (k : Int) ≤ 10 := by omega
      have hk11 : 11 ≤ k := by omega
      go_wp2_with fail
      refine (pages_spec hr HB.out (by rw [HL.out]; omega) (by rw [HL.out]; omega)).mono ?_
      rintro e w3 ⟨v3, b3, rfl, o3, h3⟩
      have O3 := Lib.hid o3
      obtain ⟨g3, c3, cur3, rfl, -, hc3, -⟩ := o3.form (by rw [HL.out]; omega)
      rw [HL.out] at hc3 ⊢
      clear o3
      have h3 := h3.swap
      go_wp2_with fail
      refine (left_spec h3 HB.out (by rw [HL.out]; omega)).mono ?_
      rintro e w4 ⟨rfl, h4⟩
      obtain ⟨F, hF⟩ : ∃ F, pgFree L = F := ⟨_, rfl⟩
      have HF := Lib.hid hF
      rw [hF]
      clear hF h3
      go_wp2_with fail
      refine (full_alloc h4 HB.out HI.out (by rw [HL.out]; omega) (by rw [HL.out]; omega) O hO10).mono ?_
      rintro e w5 ⟨L5, bl5, HB5, h5, (⟨HN5, rfl, HL5⟩ | ⟨a, q, HLe, rfl, HL5⟩)⟩
      · cases b with
        | true => exact absurd HS.out (someTo_not HN5.out hk2)
        | false =>
          go_wp2_with fail
          refine (left_spec h5 HB5.out (by rw [HL5.out, HL.out]; omega)).mono ?_
          rintro e w6 ⟨rfl, h6⟩
          rw [HL5.out, HF.out]
          go_wp2_with fail
          refine (law06.works_spec h6.dropL.dropL).mono ?_
          rintro e w7 ⟨rfl, h7⟩
          go_wp2_with fail
          go_ret
          exact ⟨rfl, h7⟩
      · cases b with
        | false => exact absurd HS.out (someTo_least HLe.out hk11)
        | true =>
          obtain ⟨f1, f2, f3, f4, f5, f6, f7⟩ := full_plain HI.out (by rw [HL.out]; omega) (by rw [HL.out]; omega) HLe.out
          obtain ⟨bs0, hT⟩ := bInv_tab HI.out
          have fb' := pgFree_bd hT (by rw [HL.out]; omega) (by rw [HL.out]; omega)
          rw [HL.out, HF.out] at fb'
          rw [← HL5.out] at f1 f2 f4
          rw [HF.out, HMi.out] at f4 f5
          rw [HL.out] at f1 f3
          rw [HM.out] at f3 f7
          have F1 := Lib.hid f1
          have F2 := Lib.hid f2
          have F4 := Lib.hid f4
          have F6 := Lib.hid f6
          have F7 := Lib.hid f7
          have hFM : ¬ F < (M : Int) := by omega
          have hMi := HMi.out
          have hw1 : IntKind.i64.wrap (M : Int) = (M : Int) := by rw [IntWalk.i64_in] <;> omega
          clear f1 f2 f4 f6 f7 hT
          go_wp2_with fail
          refine (pages_spec h5 HB5.out (by rw [F1.out]; omega) (by rw [F1.out]; omega)).mono ?_
          rintro e w6 ⟨v6, b6, rfl, o6, h6⟩
          obtain ⟨g, cap6, cur, rfl, -, -⟩ := o6.form (by rw [F1.out]; omega)
          obtain ⟨c0, c1, c2, -, -, -⟩ := pg_cells o6 h6 rfl rfl F2.out
          simp only at c0 c1 c2
          rw [F1.out]
          have hw2 : IntKind.i64.wrap ((a : Int) + M) = (a : Int) + M := by rw [IntWalk.i64_in] <;> omega
          have hw3 : IntKind.i64.wrap (F - (M : Int)) = F - M := by rw [IntWalk.i64_in] <;> omega
          have ha0 : (0 : Int) ≤ (a : Int) := by omega
          have ha1 : (a : Int) < 1 + N := by omega
          have ha0d : decide ((a : Int) < 0) = false := decide_eq_false (by omega)
          have ha2d : decide (1 + (N : Int) < (a : Int) + M) = false := decide_eq_false (by omega)
          have O6 := Lib.hid o6
          have HO6 := Lib.hid h6
          clear o6 h6
          go_wp2_with fail
          go_region_held3 (fun w' => w'.cell? ⟨g, a * 3, none⟩ = some (.int .i64 2) ∧ w'.cell? ⟨g, a * 3 + 1, none⟩ = some (.int .i64 O) ∧ w'.cell? ⟨g, a * 3 + 2, none⟩ = some (.int .i64 2)) (first | (refine ⟨?_, ?_, ?_⟩ <;> assumption) | go_keep)
            (first | (go_at_call 22; refine (left_spec HO6.out.swap.drew HB5.out (by rw [F1.out]; omega)).mono ?_; rintro e w7 ⟨rfl, h7⟩; rw [F4.out]; obtain ⟨c0, c1, c2, -, -, -⟩ := pg_cells O6.out h7.swap rfl rfl F2.out; simp only at c0 c1 c2))
          have h8 : Own W (b3 ++ m) w7 := h7.dropL.dropL
          clear c0 c1 c2 ha0d ha2d hw2 hw3 h7 hFM
          go_wp2_with fail
          go_loopw [16] (fun i wr => ∃ j : Nat, a ≤ j ∧ j ≤ a + M ∧ i = .int .i64 j ∧ Own W (b3 ++ m) wr) (fun i _ => a + M - (intOf i).toNat)
          case atStart => exact ⟨a, by omega, by omega, rfl, h8⟩
          case round =>
            clear h8
            obtain ⟨j, hj1, hj2, rfl, hr8⟩ := hrel
            have hw2 : IntKind.i64.wrap ((a : Int) + M) = (a : Int) + M := by rw [IntWalk.i64_in] <;> omega
            by_cases hjl : j < a + M
            · have hjli : (j : Int) < (a : Int) + M := by omega
              have hh := Head_spec hr8 (PgO.read O3.out hr8) (j : Int)
              rw [F7.out j hj1 hjl, HL.out] at hh
              have HH := Lib.hid hh
              clear hh
              go_wp2_with fail
              refine HH.out.mono ?_
              rintro e w9 ⟨rfl, h9⟩
              obtain ⟨c0, -⟩ := pg_cells O3.out h9 rfl rfl F6.out
              simp only [fb] at c0
              go_wp2_with fail
              refine (bring_id (a : Int) (1 + N) (by omega) (by omega) (by omega) _).mono ?_
              rintro e w' ⟨rfl, rfl⟩
              go_wp2_with fail
              exact ⟨⟨j + 1, by omega, by omega, by go_num, h9⟩, by simp [intOf]; omega⟩
            · have hjli : ¬ (j : Int) < (a : Int) + M := by omega
              go_wp2_with fail
              refine (law06.works_spec hr8.dropL).mono ?_
              rintro e w9 ⟨rfl, h9⟩
              go_wp2_with fail
              go_ret
              exact ⟨rfl, h9⟩
end buddyFull
end Go.Proofs.Ytljcndcmdphmgaa
