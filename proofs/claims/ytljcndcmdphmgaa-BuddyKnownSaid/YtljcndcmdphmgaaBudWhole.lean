/-
  Contract: (*Buddy).whole lays all pages as greatest free blocks.
-/
import Derived.Test.YtljcndcmdphmgaaBudFree
import Derived.Test.YtljcndcmdphmgaaBudFresh
namespace Go.Proofs.Ytljcndcmdphmgaa
open Go.RowKit
attribute [local go_sem ↓] Go.wp_at_zero Go.wp_at_succ
section
variable {W w : World} {m bl : List (Nat × Obj)} {pb : Nat} {L : List Pg}
theorem size_spec1 (h : Own W m w) (a : Int) (p : Nat) (hs : p + 1 ≤ 10) :
    Calls Try.prog 88 #[.agg #[.int .i64 a, .int .i64 ((p : Int) + 1)]] w fun e w' => e = .returned (.int .i64 ((2 ^ (p + 1) : Nat) : Int)) ∧ Own W m w' := by
  have := size_spec h a (p + 1) hs
  rw [show ((p + 1 : Nat) : Int) = (p : Int) + 1 from by omega] at this
  exact this
set_option maxRecDepth 100000 in
set_option maxHeartbeats 4000000 in
theorem whole_spec (h : Own W (bl ++ m) w) (hb : BdO pb L bl) (hL1 : 1 ≤ L.length) (hL : L.length ≤ 1024) :
    Calls Try.prog 54 #[.pointer (some ⟨pb, 0, none⟩)] w fun e w' => ∃ bl', e = .returned (.tuple #[]) ∧ BdO pb (freshL L.length) bl' ∧ Own W (bl' ++ m) w' := by
  obtain ⟨N, hN⟩ : ∃ N, L.length = N := ⟨_, rfl⟩
  have HN := Lib.hid hN
  rw [hN] at hL hL1 ⊢
  clear hN
  -- the slice's own value is never changed
  have PB : Hid (∀ (bl : List (Nat × Obj)) (L : List Pg) (m : List (Nat × Obj)) (wr : World), BdO pb L bl → L.length = N → Own W (bl ++ m) wr → ∃ A c, ∀ M ws, Own W (bl ++ M) ws → ws.cell? ⟨pb, 0, none⟩ = some (.slice A N c)) := by
    intro bl L m wr hb hl hr
    obtain ⟨v, bs, ho, rfl⟩ := hb
    obtain ⟨A, c, rfl, -, -⟩ := ho.slice
    rw [hl] at *
    exact ⟨A, c, fun M ws hw => bd_cell hw⟩
  go_enter Try.func54, Try.ntmps54
  go_wp2_with fail
  go_loopw [2] (fun at_ wr => ∃ (a : Nat) (pre : List Pg) (La : List Pg) (bl' : List (Nat × Obj)), at_ = .int .i64 a ∧ a ≤ N ∧ Hid ((lay pre).length = a) ∧ Hid (freshB N = pre ++ gBlocks N (N - a) a) ∧ Hid (La.take a = lay pre) ∧ Hid (La.length = N) ∧ BdO pb La bl' ∧ Own W (bl' ++ m) wr) (fun at_ _ => N - (intOf at_).toNat)
  case atStart => exact ⟨0, [], L, bl, rfl, by omega, rfl, rfl, rfl, HN, hb, h⟩
  case round =>
    obtain ⟨a, pre, La, bl', rfl, ha, HP, HF, HT, HLa, hba, hr⟩ := hrel
    obtain ⟨A, c, hpv⟩ := PB.out _ _ _ _ hba HLa.out hr
    have PV := Lib.hid hpv
    have hcell := hpv _ _ hr
    clear hpv
    by_cases hlt : a < N
    · have hlti : (a : Int) < N := by omega
      have h1 : Own W (bl' ++ ((wr.heap.size, .cells #[.int .i64 a, .int .i64 ((10 : Nat) : Int)] 102) :: m)) (wr.alloc (.cells #[.int .i64 a, .int .i64 ((10 : Nat) : Int)] 102)) := hr.new1 _
      go_wp2_with fail
      obtain ⟨B, hB⟩ : ∃ B, wr.heap.size = B := ⟨_, rfl⟩
      rw [hB] at h1 ⊢
      go_loopw [] (fun ws => ∃ o : Nat, o ≤ 10 ∧ Hid (gOrd a N 10 = gOrd a N o) ∧ Own W (bl' ++ ((B, .cells #[.int .i64 a, .int .i64 o] 102) :: m)) ws) (fun ws => box1 ws B)
      case atStart => exact ⟨10, by omega, rfl, h1⟩
      case round =>
        clear hcell
        obtain ⟨o, ho, HO, hs⟩ := hrel
        have hcell := PV.out _ _ hs
        have y0 := hs.dropL.cell List.mem_cons_self 0
        have y1 := hs.dropL.cell List.mem_cons_self 1
        have f0 := hs.dropL.frozen List.mem_cons_self 0
        have f1 := hs.dropL.frozen List.mem_cons_self 1
        have Y1 := Lib.hid (box1_eq y1)
        rw [Int.toNat_natCast] at Y1
        simp at y0 y1
        obtain ⟨M, hM, hMi, hM1, hM2⟩ := pow_nat ho
        have HM := Lib.hid hM
        have hand := and_mask_i64 a o (by omega)
        rw [hMi, ← Int.natCast_emod] at hand
        have hw1 : IntKind.i64.wrap ((M : Int) - 1) = (M : Int) - 1 := by rw [IntWalk.i64_in] <;> omega
        have hw2 : IntKind.i64.wrap ((a : Int) + M) = (a : Int) + M := by rw [IntWalk.i64_in] <;> omega
        by_cases hal : a % M = 0
        · have hand0 : bits .and .i64 (a : Int) ((M : Int) - 1) = 0 := by rw [hand, hal]; rfl
          clear hand
          by_cases hle : a + M ≤ N
          · have hle' : ¬ (N : Int) < (a : Int) + M := by omega
            have hfit : fits a N o := ⟨by rw [hM]; exact hal, by rw [hM]; exact hle⟩
            have hgo : gOrd a N 10 = o := by
              have h1 := gOrd_max a N 10 o ho hfit
              have h2 := gOrd_le a N o
              rw [HO.out] at h1 ⊢
              omega
            have HGO := Lib.hid hgo
            have HAL := Lib.hid hal
            clear hal hM hfit hgo HO
            go_wp2_with fail
            go_region_held3 (fun w' => w'.cell? ⟨B, 0, none⟩ = some (.int .i64 a) ∧ w'.cell? ⟨B, 1, none⟩ = some (.int .i64 o) ∧ w'.cell? ⟨pb, 0, none⟩ = some (.slice A N c)) (first | (refine ⟨?_, ?_, ?_⟩ <;> assumption) | go_keep)
              (first | (go_at_call 88; ((with_reducible refine (size_spec hs.drew a o ho).mono ?_); rintro e w2 ⟨rfl, h2⟩; rw [HM.out]; have y0 := h2.dropL.cell List.mem_cons_self 0; have y1 := h2.dropL.cell List.mem_cons_self 1; simp at y0 y1; have hcell2 := PV.out _ _ h2)) | (go_at_call 88; ((with_reducible refine (size_spec h2 a o ho).mono ?_); rintro e w3 ⟨rfl, h3⟩; rw [HM.out]; have y0 := h3.dropL.cell List.mem_cons_self 0; have y1 := h3.dropL.cell List.mem_cons_self 1; have f1 := h3.dropL.frozen List.mem_cons_self 1; simp at y0 y1; have hcell3 := PV.out _ _ h3)))
            clear hw1 hw2
            go_wp2_with fail
            have hszx : pgSize ((0 : Int), ((o : Nat) : Int), (0 : Int)) = 2 ^ o := by simp [pgSize]
            have HSZ := Lib.hid hszx
            clear hszx
            refine (lay_spec h3 hba a o ho (by rw [HM.out, HLa.out]; exact hle) (by rw [HLa.out]; exact hL) 0 0 0).mono ?_
            rintro e w4 ⟨bl4, rfl, hb4, h4⟩
            have y0 := h4.dropL.cell List.mem_cons_self 0
            have y1 := h4.dropL.cell List.mem_cons_self 1
            simp at y0 y1
            go_wp2_with fail
            refine (size_spec h4 a o ho).mono ?_
            rintro e w5 ⟨rfl, h5⟩
            rw [HM.out]
            go_wp2_with fail
            have hsz : pgSize (fb o) = M := by rw [fb_size, HM.out]
            refine ⟨⟨a + M, pre ++ [fb o], _, bl4, by go_num, hle, ?_, ?_, ?_, ?_, hb4, h5.drop1⟩, by simp [intOf]; omega⟩
            · show (lay (pre ++ [fb o])).length = a + M
              rw [lay_append, List.length_append, HP.out, lay_one_len, hsz]
            · show freshB N = pre ++ [fb o] ++ gBlocks N (N - (a + M)) (a + M)
              rw [HF.out]
              obtain ⟨f, hf⟩ : ∃ f, N - a = f + 1 := ⟨N - a - 1, by omega⟩
              rw [hf, show gBlocks N (f + 1) a = if a < N then fb (gOrd a N 10) :: gBlocks N f (a + 2 ^ gOrd a N 10) else [] from rfl, if_pos hlt, HGO.out, HM.out]
              rw [gBlocks_fuel N f (N - (a + M)) (a + M) (by omega) (by omega)]
              simp
            · show (pgPut La a (fb o)).take (a + M) = lay (pre ++ [fb o])
              have ht : (La.take a).length = a := by rw [List.length_take, HLa.out]; omega
              have hl1 : (lay [fb o]).length = M := by rw [lay_one_len, hsz]
              rw [pgPut_eq, HT.out, lay_append, ← List.append_assoc, List.take_left']
              rw [List.length_append, hl1, HP.out]
            · exact (pgPut_len (by rw [HSZ.out, HM.out, HLa.out]; exact hle)).trans HLa.out
          · have hgt : (N : Int) < (a : Int) + M := by omega
            have hnf : ¬ fits a N o := fun hf => hle (by have := hf.2; rw [hM] at this; exact this)
            obtain ⟨p, rfl⟩ : ∃ p, o = p + 1 := ⟨o - 1, by
              have : o ≠ 0 := fun h0 => hle (by rw [← hM, h0]; omega)
              omega⟩
            have hgo : gOrd a N (p + 1) = gOrd a N p := by
              rw [show gOrd a N (p + 1) = if fits a N (p + 1) then p + 1 else gOrd a N p from rfl, if_neg hnf]
            have HGO : Hid (gOrd a N 10 = gOrd a N p) := HO.out.trans hgo
            have HAL := Lib.hid hal
            clear hal hM hnf hgo HO
            go_wp2_with fail
            go_region_held3 (fun w' => w'.cell? ⟨B, 0, none⟩ = some (.int .i64 a) ∧ w'.cell? ⟨B, 1, none⟩ = some (.int .i64 ((p : Int) + 1)) ∧ w'.cell? ⟨pb, 0, none⟩ = some (.slice A N c)) (first | (refine ⟨?_, ?_, ?_⟩ <;> assumption) | go_keep)
              (first | (go_at_call 88; ((with_reducible refine (size_spec1 hs.drew a p ho).mono ?_); rintro e w2 ⟨rfl, h2⟩; rw [HM.out]; have y0 := h2.dropL.cell List.mem_cons_self 0; have y1 := h2.dropL.cell List.mem_cons_self 1; simp at y0 y1; have hcell2 := PV.out _ _ h2)) | (go_at_call 88; ((with_reducible refine (size_spec1 h2 a p ho).mono ?_); rintro e w3 ⟨rfl, h3⟩; rw [HM.out]; have y0 := h3.dropL.cell List.mem_cons_self 0; have y1 := h3.dropL.cell List.mem_cons_self 1; have f1 := h3.dropL.frozen List.mem_cons_self 1; simp at y0 y1; have hcell3 := PV.out _ _ h3)))
            clear hw1 hw2
            go_wp2_with fail
            have h9 := h3.setIn 1 (.int .i64 (p : Int))
            have z9 := h9.dropL.cell List.mem_cons_self 1
            rw [show ((#[.int .i64 (a : Int), .int .i64 ((p + 1 : Nat) : Int)] : Array Value).setIfInBounds 1 (.int .i64 (p : Int)))[1]? = some (.int .i64 (p : Int)) from rfl] at z9
            have hb9 := box1_eq z9
            exact ⟨⟨p, by omega, HGO, h9⟩, by rw [hb9, Y1.out]; omega⟩
        · have hnf : ¬ fits a N o := fun hf => hal (by have := hf.1; rw [hM] at this; exact this)
          obtain ⟨p, rfl⟩ : ∃ p, o = p + 1 := ⟨o - 1, by
            have : o ≠ 0 := fun h0 => hal (by rw [← hM, h0]; exact Nat.mod_one _)
            omega⟩
          have hgo : gOrd a N (p + 1) = gOrd a N p := by
            rw [show gOrd a N (p + 1) = if fits a N (p + 1) then p + 1 else gOrd a N p from rfl, if_neg hnf]
          have HGO : Hid (gOrd a N 10 = gOrd a N p) := HO.out.trans hgo
          obtain ⟨R, hR⟩ : ∃ R : Int, ((a % M : Nat) : Int) = R := ⟨_, rfl⟩
          rw [hR] at hand
          have hR0 : (R != 0) = true := bne_iff_ne.2 (by omega)
          have HAL := Lib.hid hal
          clear hal hM hnf hgo HO hR
          go_wp2_with fail
          refine wp_region_held_drew (S := (fun w' => w'.cell? ⟨B, 0, none⟩ = some (.int .i64 a) ∧ w'.cell? ⟨B, 1, none⟩ = some (.int .i64 ((p : Int) + 1)) ∧ w'.cell? ⟨pb, 0, none⟩ = some (.slice A N c))) (by kernel_rfl) (by (refine ⟨?_, ?_, ?_⟩ <;> assumption)) (fun hHeld => ?_)
          refine wpAnyH_take (i := 0) (oi := ⟨some 13, _, _, _, _, _⟩) (v := ?v0) rfl (by kernel_rfl) (by kernel_rfl) (by kernel_rfl) (fun _ _ _ h => h) (Or.inl ⟨by rfl, ?y0⟩) (by assumption) ?r0
          case y0 => (intro w hSw; (try dsimp only at hSw); go_simp; try with_reducible rfl)
          try simp only [Act.put, List.setIfInBounds_toArray, List.set_cons_zero, List.set_cons_succ]
          refine wpAnyH_take (i := 1) (oi := ⟨some 14, _, _, _, _, _⟩) (v := ?v1) rfl (by kernel_rfl) (by kernel_rfl) (by kernel_rfl) (fun _ _ _ h => h) (Or.inl ⟨by rfl, ?y1⟩) (by assumption) ?r1
          case y1 => (intro w hSw; (try dsimp only at hSw); go_simp; try with_reducible rfl)
          try simp only [Act.put, List.setIfInBounds_toArray, List.set_cons_zero, List.set_cons_succ]
          refine wpAnyH_ready (rs := [2]) (by kernel_rfl) (by simp) ?_
          refine AllReadyH.cons (o := ⟨some 15, _, _, _, _, _⟩) rfl (fun K hK => ?_) AllReadyH.nil
          go_simp
          refine (size_spec hs.drew a (p + 1) ho).mono ?_
          rintro e w2 ⟨rfl, h2⟩
          rw [HM.out]
          have y0 := h2.dropL.cell List.mem_cons_self 0
          have y1 := h2.dropL.cell List.mem_cons_self 1
          simp at y0 y1
          refine hK.out _ _ ?k2 (fun hHeld2 => ?_)
          case k2 => exact ⟨y0, y1, PV.out _ _ h2⟩
          clear hK K
          try simp only [Act.put, List.setIfInBounds_toArray, List.set_cons_zero, List.set_cons_succ]
          refine wpAnyH_take (i := 3) (oi := ⟨some 16, _, _, _, _, _⟩) (v := ?v3) rfl (by kernel_rfl) (by kernel_rfl) (by kernel_rfl) (fun _ _ _ h => h) (Or.inl ⟨by rfl, ?y3⟩) (by assumption) ?r3
          case y3 => (intro w hSw; (try dsimp only at hSw); go_simp; try with_reducible rfl)
          try simp only [Act.put, List.setIfInBounds_toArray, List.set_cons_zero, List.set_cons_succ]
          refine wpAnyH_take (i := 4) (oi := ⟨some 17, _, _, _, _, _⟩) (v := ?v4) rfl (by kernel_rfl) (by kernel_rfl) (by kernel_rfl) (fun _ _ _ h => h) (Or.inl ⟨by rfl, ?y4⟩) (by assumption) ?r4
          case y4 => (intro w hSw; (try dsimp only at hSw); go_simp; try with_reducible rfl)
          try simp only [Act.put, List.setIfInBounds_toArray, List.set_cons_zero, List.set_cons_succ]
          refine wpAnyH_take (i := 5) (oi := ⟨some 18, _, _, _, _, _⟩) (v := ?v5) rfl (by kernel_rfl) (by kernel_rfl) (by kernel_rfl) (fun _ _ _ h => h) (Or.inl ⟨by rfl, ?y5⟩) (by assumption) ?r5
          case y5 => (intro w hSw; (try dsimp only at hSw); go_simp; try with_reducible rfl)
          try simp only [Act.put, List.setIfInBounds_toArray, List.set_cons_zero, List.set_cons_succ]
          refine wpAnyH_take (i := 6) (oi := ⟨some 19, _, _, _, _, _⟩) (v := ?v6) rfl (by kernel_rfl) (by kernel_rfl) (by kernel_rfl) (fun _ _ _ h => h) (Or.inl ⟨by rfl, ?y6⟩) (by assumption) ?r6
          case y6 => (intro w hSw; (try dsimp only at hSw); go_simp; try with_reducible rfl)
          try simp only [Act.put, List.setIfInBounds_toArray, List.set_cons_zero, List.set_cons_succ]
          refine wpAnyH_take (i := 7) (oi := ⟨some 20, _, _, _, _, _⟩) (v := undef) rfl (by kernel_rfl) (by kernel_rfl) (by kernel_rfl) (fun _ _ _ h => h) (Or.inr ⟨by kernel_rfl, rfl⟩) (by assumption) ?_
          try simp only [Act.put, List.setIfInBounds_toArray, List.set_cons_zero, List.set_cons_succ]
          refine wpAnyH_take (i := 8) (oi := ⟨some 21, _, _, _, _, _⟩) (v := undef) rfl (by kernel_rfl) (by kernel_rfl) (by kernel_rfl) (fun _ _ _ h => h) (Or.inr ⟨by kernel_rfl, rfl⟩) (by assumption) ?_
          try simp only [Act.put, List.setIfInBounds_toArray, List.set_cons_zero, List.set_cons_succ]
          refine wpAnyH_take (i := 9) (oi := ⟨some 22, _, _, _, _, _⟩) (v := undef) rfl (by kernel_rfl) (by kernel_rfl) (by kernel_rfl) (fun _ _ _ h => h) (Or.inr ⟨by kernel_rfl, rfl⟩) (by assumption) ?_
          try simp only [Act.put, List.setIfInBounds_toArray, List.set_cons_zero, List.set_cons_succ]
          refine wpAnyH_take (i := 10) (oi := ⟨some 23, _, _, _, _, _⟩) (v := undef) rfl (by kernel_rfl) (by kernel_rfl) (by kernel_rfl) (fun _ _ _ h => h) (Or.inr ⟨by kernel_rfl, rfl⟩) (by assumption) ?_
          try simp only [Act.put, List.setIfInBounds_toArray, List.set_cons_zero, List.set_cons_succ]
          refine wpAnyH_take (i := 11) (oi := ⟨some 24, _, _, _, _, _⟩) (v := undef) rfl (by kernel_rfl) (by kernel_rfl) (by kernel_rfl) (fun _ _ _ h => h) (Or.inr ⟨by kernel_rfl, rfl⟩) (by assumption) ?_
          try simp only [Act.put, List.setIfInBounds_toArray, List.set_cons_zero, List.set_cons_succ]
          refine wpAnyH_take (i := 12) (oi := ⟨some 25, _, _, _, _, _⟩) (v := undef) rfl (by kernel_rfl) (by kernel_rfl) (by kernel_rfl) (fun _ _ _ h => h) (Or.inr ⟨by kernel_rfl, rfl⟩) (by assumption) ?_
          try simp only [Act.put, List.setIfInBounds_toArray, List.set_cons_zero, List.set_cons_succ]
          refine wpAnyH_take (i := 13) (oi := ⟨some 26, _, _, _, _, _⟩) (v := undef) rfl (by kernel_rfl) (by kernel_rfl) (by kernel_rfl) (fun _ _ _ h => h) (Or.inr ⟨by kernel_rfl, rfl⟩) (by assumption) ?_
          try simp only [Act.put, List.setIfInBounds_toArray, List.set_cons_zero, List.set_cons_succ]
          refine wpAnyH_take (i := 14) (oi := ⟨some 27, _, _, _, _, _⟩) (v := undef) rfl (by kernel_rfl) (by kernel_rfl) (by kernel_rfl) (fun _ _ _ h => h) (Or.inr ⟨by kernel_rfl, rfl⟩) (by assumption) ?_
          try simp only [Act.put, List.setIfInBounds_toArray, List.set_cons_zero, List.set_cons_succ]
          refine wpAnyH_take (i := 15) (oi := ⟨some 28, _, _, _, _, _⟩) (v := undef) rfl (by kernel_rfl) (by kernel_rfl) (by kernel_rfl) (fun _ _ _ h => h) (Or.inr ⟨by kernel_rfl, rfl⟩) (by assumption) ?_
          try simp only [Act.put, List.setIfInBounds_toArray, List.set_cons_zero, List.set_cons_succ]
          refine wpAnyH_take (i := 16) (oi := ⟨some 29, _, _, _, _, _⟩) (v := undef) rfl (by kernel_rfl) (by kernel_rfl) (by kernel_rfl) (fun _ _ _ h => h) (Or.inr ⟨by kernel_rfl, rfl⟩) (by assumption) ?_
          try simp only [Act.put, List.setIfInBounds_toArray, List.set_cons_zero, List.set_cons_succ]
          refine wpAnyH_take (i := 17) (oi := ⟨some 30, _, _, _, _, _⟩) (v := ?v17) rfl (by kernel_rfl) (by kernel_rfl) (by kernel_rfl) (fun _ _ _ h => h) (Or.inl ⟨by rfl, ?y17⟩) (by assumption) ?r17
          case y17 => (intro w hSw; (try dsimp only at hSw); go_simp; try with_reducible rfl)
          try simp only [Act.put, List.setIfInBounds_toArray, List.set_cons_zero, List.set_cons_succ]
          refine wpAnyH_done (by kernel_rfl) ?_ _
          clear hw1 hw2
          have f1 := h2.dropL.frozen List.mem_cons_self 1
          go_wp2_with fail
          have h9 := h2.setIn 1 (.int .i64 (p : Int))
          have z9 := h9.dropL.cell List.mem_cons_self 1
          rw [show ((#[.int .i64 (a : Int), .int .i64 ((p + 1 : Nat) : Int)] : Array Value).setIfInBounds 1 (.int .i64 (p : Int)))[1]? = some (.int .i64 (p : Int)) from rfl] at z9
          have hb9 := box1_eq z9
          exact ⟨⟨p, by omega, HGO, h9⟩, by rw [hb9, Y1.out]; omega⟩
    · have hlti : ¬ (a : Int) < N := by omega
      go_wp2_with fail
      go_end0
      obtain rfl : a = N := by omega
      have h1 := HT.out
      rw [List.take_of_length_le (by rw [HLa.out]; omega)] at h1
      have h2 := HF.out
      rw [Nat.sub_self, show gBlocks a 0 a = [] from rfl, List.append_nil] at h2
      refine ⟨rfl, bl', ?_, hr⟩
      have e : La = freshL a := by unfold freshL; rw [h2]; exact h1
      rw [← e]
      exact hba
end
end Go.Proofs.Ytljcndcmdphmgaa
