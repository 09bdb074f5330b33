import Derived.Test.YtljcndcmdphmgaaZm11
/-
  wainscotlaw08.ZoneFull answers true: the walk.
-/
namespace Go.Proofs.Ytljcndcmdphmgaa
open Go.RowKit
namespace zoneFull
set_option maxRecDepth 100000 in
set_option maxHeartbeats 4000000 in
theorem walk {W w : World} {m : List (Nat × Obj)} (h : Own W m w) (pages order : Int) (hp : (Lit.int .i64 pages).wf = true) (ht : (Lit.int .i64 order).wf = true) (A : Option Addr) (len cap : Nat) (hlc : len ≤ cap) (hcap : cap ≤ maxLen) (hat : FlatAt W [some .i64, some .i64, some .i64, some .i64] A len) :
    Calls Try.prog 12 #[.int .i64 pages, .slice A len cap, .int .i64 order] w fun e w' => e = .returned (.bool true) ∧ Own W m w' := by
  have HT := Lib.hid ht
  have hpb := emod_bd pages 150 (by omega)
  have hob := emod_bd order 11 (by omega)
  obtain ⟨N, hN⟩ : ∃ N : Nat, pages % 150 = N := ⟨(pages % 150).toNat, by omega⟩
  have hN3 : N < 150 := by omega
  obtain ⟨O, hO⟩ : ∃ O : Nat, order % 11 = O := ⟨(order % 11).toNat, by omega⟩
  have hO10 : O ≤ 10 := by omega
  obtain ⟨M, hM, hMi, hM1, hM2⟩ := pow_nat hO10
  have hmin : min O 64 = O := by omega
  have hO0 : (0 : Int) ≤ O := by omega
  have HORD := Lib.hid hO
  have hpl := fun w (h : Own W m w) => played8_spec h pages hp A len cap hlc hcap hat
  rw [hN, Int.toNat_natCast] at hpl
  have HPL := Lib.hid hpl
  have HMi := Lib.hid hMi
  clear hat ht hN hpb hpl hO hob hM hMi
  go_enter Try.func12, Try.ntmps12
  go_wp2_with fail
  refine (HPL.out w h).mono ?_
  rintro e w2 ⟨zb, zs, v, outl, bo, rfl, HZ, ho60, HB, h2⟩
  have h2 := h2.dropL
  obtain ⟨L, X, f, ho, hi, h3⟩ := HZ.out
  have HO := Lib.hid ho
  have HI := Lib.hid hi
  have H3 := Lib.hid h3
  clear ho60 HB HZ ho hi h3
  go_wp2_with fail
  refine (bring_spec order 11 (by omega) (by omega) HT.out _).mono ?_
  rintro e w' ⟨rfl, rfl⟩
  rw [HORD.out]
  go_wp2_with fail
  refine (zleft_spec h2 HO.out).mono ?_
  rintro e w3 ⟨rfl, h3⟩
  obtain ⟨F, hF⟩ : ∃ F, zLeftOf L X = F := ⟨_, rfl⟩
  have hF' : pgFree L + (nearAll X : Nat) = F := hF
  have HF := Lib.hid hF
  have hbd := zleft_bd HI.out
  rw [hF] at hbd
  rw [hF']
  clear hF hF'
  go_wp2_with fail
  refine (zalloc_spec h3 HO.out (by omega) 0 O 5).mono ?_
  rintro e w4 ⟨p, er, L', X', f', zs', rfl, HA, HZ, h4⟩
  obtain ⟨hl, hal⟩ := zinv_alloc HI.out (ask3 H3.out (by omega) (by omega)) ⟨by omega, by omega, by omega, by omega⟩ HA.out
  rcases hal with ⟨rfl, g1, g2, c, g3, g4⟩ | ⟨rfl, rfl, g1, g2, g3, g4⟩
  · rw [HF.out, Int.toNat_natCast, HMi.out] at g2
    have G1 := Lib.hid g1
    have G2 := Lib.hid g2
    have G3 := Lib.hid g3
    have G4 := Lib.hid g4
    have hb2 := zleft_bd g1
    rw [g2] at hb2
    clear g1 g2 g3 g4 hl
    go_wp2_with fail
    refine (ztag_spec h4 HZ.out p).mono ?_
    rintro e w5 ⟨t, rfl, HTG, h5⟩
    obtain rfl := ztag_given G1.out G3.out G4.out HTG.out
    have hMi := HMi.out
    have hw1 : IntKind.i64.wrap (M : Int) = (M : Int) := by rw [IntWalk.i64_in] <;> omega
    have hw2 : IntKind.i64.wrap (F - (M : Int)) = F - M := by rw [IntWalk.i64_in] <;> omega
    have hG2 : pgFree L' + (nearAll X' : Nat) = F - M := G2.out
    have HG2 := Lib.hid hG2
    clear HTG hG2
    simp only [tagV]
    go_wp2_with fail
    have h6 := h5.new1 (m1 := zs') (.cells #[.int .i64 p, .int .i64 O, .int .i64 5] 80)
    have hc0 := h6.cell (List.mem_append_right _ List.mem_cons_self) 0
    have hc1 := h6.cell (List.mem_append_right _ List.mem_cons_self) 1
    have hc2 := h6.cell (List.mem_append_right _ List.mem_cons_self) 2
    obtain ⟨g, hg⟩ : ∃ g, w5.heap.size = g := ⟨_, rfl⟩
    obtain ⟨wa, hwa⟩ : ∃ wa, w5.alloc (.cells #[.int .i64 p, .int .i64 O, .int .i64 5] 80) = wa := ⟨_, rfl⟩
    rw [hwa, hg] at h6 hc0 hc1 hc2
    rw [hwa, hg]
    simp at hc0 hc1 hc2
    have H6 := Lib.hid h6
    clear h6 h5 h4 h3 hwa hg
    go_region_held3 (fun w' => w'.cell? ⟨g, 0, none⟩ = some (.int .i64 p) ∧ w'.cell? ⟨g, 1, none⟩ = some (.int .i64 O) ∧ w'.cell? ⟨g, 2, none⟩ = some (.int .i64 5)) (first | (refine ⟨?_, ?_, ?_⟩ <;> assumption) | go_keep)
      (first | (go_at_call 41; refine (zleft_spec H6.out.drew HZ.out).mono ?_; rintro e w7 ⟨rfl, h7⟩; rw [HG2.out]; have hc0 := h7.cell (List.mem_append_right _ List.mem_cons_self) 0; have hc1 := h7.cell (List.mem_append_right _ List.mem_cons_self) 1; have hc2 := h7.cell (List.mem_append_right _ List.mem_cons_self) 2; simp at hc0 hc1 hc2) |
        (go_at_call 39; refine (law08.works_spec h7).mono ?_; rintro e w8 ⟨rfl, h8⟩; have hc0 := h8.cell (List.mem_append_right _ List.mem_cons_self) 0; have hc1 := h8.cell (List.mem_append_right _ List.mem_cons_self) 1; have hc2 := h8.cell (List.mem_append_right _ List.mem_cons_self) 2; simp at hc0 hc1 hc2))
    have h9 := h8.drop1.dropL
    go_wp2_with fail
    go_ret
    exact ⟨rfl, h9⟩
  · rw [HF.out] at g2
    have G1 := Lib.hid g1
    have hG2 : pgFree L' + (nearAll X' : Nat) = F := g2
    have HG2 := Lib.hid hG2
    have G4 := Lib.hid g4
    have hor : (0 : Int) < O ∨ F = 0 := by
      by_cases h0 : O = 0
      · subst h0
        right
        have := zleft_none g1 g4 g3
        omega
      · left; omega
    clear g1 g2 g3 g4 hl hG2
    go_wp2_with fail
    refine (zleft_spec h4 HZ.out).mono ?_
    rintro e w5 ⟨rfl, h5⟩
    rw [HG2.out]
    go_wp2_with fail
    refine (znear_spec h5 HZ.out 0).mono ?_
    rintro e w6 ⟨rfl, h6⟩
    rw [nlist_nil G4.out 0]
    go_wp2_with fail
    refine (znear_spec h6 HZ.out 1).mono ?_
    rintro e w7 ⟨rfl, h7⟩
    rw [nlist_nil G4.out 1]
    go_wp2_with fail
    refine (znear_spec h7 HZ.out 2).mono ?_
    rintro e w8 ⟨rfl, h8⟩
    rw [nlist_nil G4.out 2]
    by_cases hO1 : (0 : Int) < O
    · go_wp2_with fail
      refine (law08.works_spec h8.dropL).mono ?_
      rintro e w9 ⟨rfl, h9⟩
      go_wp2_with fail
      go_ret
      exact ⟨rfl, h9⟩
    · have hF0 : F = 0 := by omega
      subst hF0
      go_wp2_with fail
      refine (law08.works_spec h8.dropL).mono ?_
      rintro e w9 ⟨rfl, h9⟩
      go_wp2_with fail
      go_ret
      exact ⟨rfl, h9⟩
end zoneFull
end Go.Proofs.Ytljcndcmdphmgaa
