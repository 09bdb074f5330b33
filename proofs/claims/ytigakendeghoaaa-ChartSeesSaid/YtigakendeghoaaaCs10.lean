/-
  Texts of this claim, joined. No condition.
-/
import Derived.Test.YtigakendeghoaaaCs9
import Derived.Test.YtigakendeghoaaaCs8
import Derived.Test.YtigakendeghoaaaCs1
import Derived.Test.YtigakendeghoaaaCs6
import Derived.Deep.Slices
/-
  Contract: wainscotref21.See. No condition. (Printed by mkrsee.py.)
-/
namespace Go.Proofs.Ytigakendeghoaaa.See
open Go.RowKit
open Apart (chV chB box6 ChAt)
open chartPlaces (Ok)
attribute [local go_sem ↓] Go.wp_at_zero Go.wp_at_succ
section
variable {W w : World} {M m : List (Nat × Obj)} {B o N k b : Nat} {g : List Nat} {c : Ch} {d e : Int}
theorem rcheck_ok {C S O d e key : Int} (h : Ok C S O d e) (hO : Own W m w) : Calls Try.prog 21 #[chV C S O d e key] w fun r w' => r = .returned (.int .i64 0) ∧ Own W m w' := by
  have h1 := h
  unfold Ok at h1
  have h2 := Apart.rcheck_all (C := C) (S := S) (O := O) (d := d) (e := e) (key := key) (by unfold chartPlaces.I64; omega) (by unfold chartPlaces.I64; omega) (by unfold chartPlaces.I64; omega) hO
  rw [if_pos h] at h2
  exact h2
theorem rsee_perm7 {α : Type} (a l : List α) (x y : α) (e : List α) : (a ++ (l ++ (x :: (y :: e)))).Perm (y :: (a ++ (l ++ (x :: e)))) := by
  have h1 : (x :: (y :: e)).Perm (y :: (x :: e)) := List.Perm.swap _ _ _
  have h2 : (l ++ (x :: (y :: e))).Perm (y :: (l ++ (x :: e))) := (List.Perm.append_left l h1).trans List.perm_middle
  exact (List.Perm.append_left a h2).trans List.perm_middle
theorem rsee_sub {α : Type} (a l : List α) (x y : α) (e : List α) : (a ++ (l ++ e)).Sublist (a ++ (l ++ (x :: (y :: e)))) :=
  (List.Sublist.refl a).append ((List.Sublist.refl l).append ((List.sublist_cons_self y e).trans (List.sublist_cons_self x _)))
theorem rsee_perm4 {α : Type} (a b c : List α) (x y z : α) (m : List α) : (a ++ (b ++ (c ++ (x :: (y :: (z :: m)))))).Perm (x :: (y :: (z :: (a ++ (b ++ (c ++ m)))))) := by
  have h1 : (c ++ ([x, y, z] ++ m)).Perm ([x, y, z] ++ (c ++ m)) := perm_swap _ _ _
  have h2 : (b ++ ([x, y, z] ++ (c ++ m))).Perm ([x, y, z] ++ (b ++ (c ++ m))) := perm_swap _ _ _
  have h3 : (a ++ ([x, y, z] ++ (b ++ (c ++ m)))).Perm ([x, y, z] ++ (a ++ (b ++ (c ++ m)))) := perm_swap _ _ _
  exact (List.Perm.append_left a ((List.Perm.append_left b h1).trans h2)).trans h3
set_option maxRecDepth 100000 in
set_option maxHeartbeats 8000000 in
theorem r1see_spec (h : Own W m w) (hc : COk c d e) (hw : WOk W m B o N k g c) :
    Calls Try.prog 37 #[.slice (some ⟨B, o, none⟩) N k, cV c d e] w (SeePost W m (seeP c g)) := by
  obtain ⟨n1, n2, n3, n4, n5, n6⟩ := hc.nums
  have h1 := (h.new (.cells #[.int .i64 c.C, .int .i64 c.S, .int .i64 c.O, .int .i64 d, .int .i64 e, .int .u64 c.key] 24)).new (.cells #[.slice none 0 0, .slice none 0 0, .bool false, .slice none 0 0] 40)
  obtain ⟨b, hb⟩ : ∃ b, w.heap.size = b := ⟨_, rfl⟩
  simp only [World.size_alloc] at h1
  rw [hb] at h1
  have h1 : Own W (kBlk (b + 1) (.slice none 0 0) (.slice none 0 0) false (.slice none 0 0) :: (chB b c.C c.S c.O d e c.key :: m)) _ := h1
  obtain ⟨y0, y1, y2, y3, y4, y5⟩ := box6 h1.skip
  have hN := hw.n
  have hwq := words_eq c
  rw [← hN] at hwq
  have hn32 : 32 ≤ N ∨ N < 32 := by omega
  obtain ⟨p, hp⟩ : ∃ p : Nat, 4 * c.C = p := ⟨_, rfl⟩
  have hpi : 4 * (c.C : Int) = (p : Int) := by omega
  obtain ⟨p1, hpp1⟩ : ∃ p1 : Nat, p + 1 = p1 := ⟨_, rfl⟩
  have hpi1 : 4 * (c.C : Int) + 1 = (p1 : Int) := by omega
  have hpN : p1 < N := by rw [hN]; unfold Ch.words; omega
  have hp2 : (0 : Int) ≤ (p1 : Int) := by omega
  have hp3 : (p1 : Int) < (N : Int) := by omega
  have HPI := Lib.hid hpi
  have HPI1 := Lib.hid hpi1
  have hp0 : (0 : Int) ≤ (p : Int) := by omega
  have hp1 : (p : Int) < (N : Int) := by omega
  obtain ⟨x0, hx0⟩ : ∃ x, g[p]? = some x := ⟨_, List.getElem?_eq_getElem (by rw [hw.len]; omega)⟩
  obtain ⟨x1, hx1⟩ : ∃ x, g[p1]? = some x := ⟨_, List.getElem?_eq_getElem (by rw [hw.len]; omega)⟩
  have a0 : at_ g (4 * c.C) = x0 := by unfold at_; rw [hp, List.getD_eq_getElem?_getD, hx0]; rfl
  have a1 : at_ g (4 * c.C + 1) = x1 := by unfold at_; rw [hp, hpp1, List.getD_eq_getElem?_getD, hx1]; rfl
  have HG : Hid (∀ ws, Own W m ws → ws.cell? ⟨B, o + p, none⟩ = some (.int .u64 (x0 : Int)) ∧ ws.cell? ⟨B, o + p1, none⟩ = some (.int .u64 (x1 : Int))) := fun ws hws => ⟨hw.rd ws hws p x0 hx0, hw.rd ws hws p1 x1 hx1⟩
  have HX1 : Hid (x1 < 18446744073709551616) := hw.w64 x1 (List.mem_of_getElem? hx1)
  obtain ⟨lk, hlk⟩ : ∃ lk, decide (x0 ≠ 0) = lk := ⟨_, rfl⟩
  have hlk2 : ((x0 : Int) != 0) = lk := by
    rw [← hlk]
    by_cases h0 : x0 = 0
    · subst h0; rfl
    · have : (x0 : Int) ≠ 0 := by omega
      simp [h0, this]
  have hR : seeP c g = match upto (slotP c g) c.C with
      | none => none
      | some a => match shelfP c g with
        | none => none
        | some l => match upto (slabP c g) c.S with
          | none => none
          | some b => some ⟨a, l, lk, b⟩ := by
    unfold seeP
    rw [a0, hlk]
    rfl
  obtain ⟨R, hRR⟩ : ∃ R, seeP c g = R := ⟨_, rfl⟩
  rw [hRR] at hR ⊢
  have HR := Lib.hid hR
  have HA1 := Lib.hid a1
  have HC := Lib.hid hc
  have HW := Lib.hid hw
  have HWQ := Lib.hid hwq
  have H1 := Lib.hid h1
  clear hpp1 hN hp hpi hpi1 hx0 hx1 a0 a1 hw hc h1 h hn32 hlk hR hRR hwq
  unfold cV chV
  go_enter Try.func37, Try.ntmps37
  go_wp2_with fail
  refine (rcheck_ok HC.out.ok H1.out).mono ?_
  rintro r w2 ⟨rfl, h2⟩
  clear y0 y1 y2 y3 y4 y5
  obtain ⟨y0, y1, y2, y3, y4, y5⟩ := box6 h2.skip
  go_wp2_with fail
  refine (Apart.rwords_ok HC.out.ok h2).mono ?_
  rintro r w3 ⟨rfl, h3⟩
  rw [HWQ.out]
  clear y0 y1 y2 y3 y4 y5 h2
  obtain ⟨y0, y1, y2, y3, y4, y5⟩ := box6 h3.skip
  go_wp2_with fail
  refine (Apart.rlock_ok HC.out.ok h3).mono ?_
  rintro r w5 ⟨rfl, h5⟩
  rw [HPI.out]
  clear y0 y1 y2 y3 y4 y5 h3
  obtain ⟨q0, q1⟩ := HG.out _ h5.skip.skip
  have h6 := h5.new (.cells #[.slice none 0 0, .slice none 0 0, .bool lk, .slice none 0 0] 40)
  obtain ⟨t, ht⟩ : ∃ t, w5.heap.size = t := ⟨_, rfl⟩
  rw [ht] at h6
  have h6 : Own W (kBlk t (.slice none 0 0) (.slice none 0 0) lk (.slice none 0 0) :: (kBlk (b + 1) (.slice none 0 0) (.slice none 0 0) false (.slice none 0 0) :: (chB b c.C c.S c.O d e c.key :: m))) _ := h6
  obtain ⟨y0, y1, y2, y3, y4, y5⟩ := box6 h6.skip.skip
  go_wp2_with fail
  have H6 := Lib.hid h6
  clear q0 q1 ht h5 h6 y0 y1 y2 y3 y4 y5
  go_loopw [7] (fun iv wr => ∃ (i : Nat) (Ls : List SlotN) (sv : Value) (b0 : List (Nat × Obj)), iv = .int .i64 i ∧ i ≤ c.C ∧ Hid (Ls.length = i) ∧ Hid (upto (slotP c g) i = some (Ls.map (·.x))) ∧ Hid (SlotsOk Ls) ∧ Hid (SlotsV sv Ls b0) ∧ Own W (b0 ++ (slotBlocks Ls ++ (kBlk t sv (.slice none 0 0) lk (.slice none 0 0) :: (kBlk (b + 1) (.slice none 0 0) (.slice none 0 0) false (.slice none 0 0) :: (chB b c.C c.S c.O d e c.key :: m))))) wr) (fun iv _ => c.C - (intOf iv).toNat)
  case atStart => exact ⟨0, [], .slice none 0 0, [], rfl, by omega, rfl, rfl, (fun s hs => by cases hs), SlO.nil _ _ _, H6.out⟩
  case round =>
    clear H6
    obtain ⟨i, Ls, sv, b0, rfl, hi, HLI, HUP, HSO, HSV, hr⟩ := hrel
    obtain ⟨A0, c0, hv0, -, -⟩ := HSV.out.slice
    rw [HLI.out] at hv0
    subst hv0
    have HSV2 : Hid (SlO true 78 4 (.slice A0 i c0) i (slotCells Ls) b0) := by have := HSV.out; unfold SlotsV at this; rw [HLI.out] at this; exact this
    by_cases hlt : i < c.C
    · have hlti : (i : Int) < (c.C : Int) := by omega
      have hsl := r1slot_spec hr HC.out (((HW.out.more (m' := [kBlk t (.slice A0 i c0) (.slice none 0 0) lk (.slice none 0 0), kBlk (b + 1) (.slice none 0 0) (.slice none 0 0) false (.slice none 0 0), chB b c.C c.S c.O d e c.key])).more (m' := slotBlocks Ls)).more (m' := b0)) i hlt
      obtain ⟨y0, y1, y2, y3, y4, y5⟩ := box6 hr.dropL.dropL.skip.skip
      cases hsp : slotP c g i with
      | none =>
        rw [hsp] at hsl
        have HSL := Lib.hid hsl
        have hnone : upto (slotP c g) c.C = none := upto_none hsp hlt
        have hk := HR.out
        rw [hnone] at hk
        simp only at hk
        subst hk
        clear hsl hsp hnone
        go_wp2_with fail
        refine HSL.out.mono ?_
        rintro r w7 ⟨rfl, h7⟩
        clear y0 y1 y2 y3 y4 y5
        have h8 := h7.alloc (.cells #[.int .i64 0, .slice none 0 0, .int .u64 0, .slice none 0 0] 78)
        obtain ⟨⟨z0, z1, z2, z3⟩, ⟨f0, f1, f2, f3⟩⟩ := boxK h8.dropL.dropL.skip
        go_wp2_with fail
        have h9 := kset (sv' := .slice none 0 0) (hv' := .slice none 0 0) (l' := false) (lv' := .slice none 0 0) h8.dropL.dropL.skip
        obtain ⟨⟨e0, e1, e2, e3⟩, -⟩ := boxK h9
        exact bodyPost_ret (v := .tuple #[.agg #[.slice none 0 0, .slice none 0 0, .bool false, .slice none 0 0], .int .i64 150]) (by simp [results, Try.f37, go_sem, e0, e1, e2, e3]) rfl ⟨rfl, h9.skip.skip⟩
      | some x =>
        rw [hsp] at hsl
        have HSL := Lib.hid hsl
        have HUP2 := Lib.hid (upto_step HUP.out hsp)
        clear hsl hsp
        go_wp2_with fail
        refine HSL.out.mono ?_
        rintro r w7 ⟨lv, lb, pv, pb, rfl, KL, KP, h7⟩
        obtain ⟨A1, c1, hv1, -, -⟩ := KL.out.slice
        obtain ⟨A2, c2, hv2, -, -⟩ := KP.out.slice
        obtain ⟨l1, hl1⟩ : ∃ l1, x.list.length = l1 := ⟨_, rfl⟩
        obtain ⟨l2, hl2⟩ : ∃ l2, x.parts.length = l2 := ⟨_, rfl⟩
        rw [hl1] at hv1
        rw [hl2] at hv2
        subst hv1 hv2
        clear y0 y1 y2 y3 y4 y5 hl1 hl2
        have h8 : Own W (b0 ++ (lb ++ (pb ++ (slotBlocks Ls ++ (kBlk t (.slice A0 i c0) (.slice none 0 0) lk (.slice none 0 0) :: (kBlk (b + 1) (.slice none 0 0) (.slice none 0 0) false (.slice none 0 0) :: (chB b c.C c.S c.O d e c.key :: m))))))) w7 := h7.perm (see_perm1 _ _ _ _)
        have h9 := h8.alloc (.cells #[.int .i64 x.slab, .slice A1 l1 c1, .int .u64 x.turn, .slice A2 l2 c2] 78)
        have H10 := Lib.hid (h9.alloc (.cells #[.int .i64 x.slab, .slice A1 l1 c1, .int .u64 x.turn, .slice A2 l2 c2] 78))
        have hsrc := src_vals (w7.alloc (.cells #[.int .i64 x.slab, .slice A1 l1 c1, .int .u64 x.turn, .slice A2 l2 c2] 78)) 78 [.int .i64 x.slab, .slice A1 l1 c1, .int .u64 x.turn, .slice A2 l2 c2]
        rw [World.size_alloc] at hsrc
        have HSRC := Lib.hid hsrc
        have hone : ∀ u ∈ [Value.int .i64 x.slab, .slice A1 l1 c1, .int .u64 x.turn, .slice A2 l2 c2], u.oneCell' = true := by
          intro u hu
          simp at hu
          rcases hu with rfl | rfl | rfl | rfl <;> rfl
        have HONE := Lib.hid hone
        obtain ⟨⟨z0, z1, z2, z3⟩, ⟨f0, f1, f2, f3⟩⟩ := boxK h9.dropL.dropL.dropL.dropL
        clear hsrc hone h7 h8 h9
        go_wp2_with (at_builtin; refine app_struct rfl _ _ 37 rfl rfl rfl _ slot_info Try.underlying37 rfl (by omega) (by omega) HSV2.out H10.out HSRC.out HONE.out (by omega) ?_; intro v' w' bs' k1 k2; have K1 := Lib.hid k1; obtain ⟨A9, c9, hv9, -, -⟩ := k1.slice; subst hv9; have K2 := Lib.hid k2; clear z0 z1 z2 z3 f0 f1 f2 f3; obtain ⟨⟨z0, z1, z2, z3⟩, ⟨f0, f1, f2, f3⟩⟩ := boxK k2.dropL.dropL.dropL.dropL; clear k1 k2)
        have hst := (kset0 (sv' := .slice A9 (i + 1) c9) (K2.out.perm (see_perm2 _ _ _ _ _ _)))
        refine ⟨⟨i + 1, Ls ++ [⟨x, .slice A1 l1 c1, lb, .slice A2 l2 c2, pb⟩], .slice A9 (i + 1) c9, bs', by go_num, by omega, ?_, ?_, ?_, ?_, ?_⟩, by simp [intOf]; omega⟩
        · show _ = _
          rw [List.length_append, HLI.out]
          rfl
        · show _ = _
          rw [List.map_append]
          exact HUP2.out
        · show SlotsOk _
          intro s hs
          rcases List.mem_append.1 hs with hs | hs
          · exact HSO.out s hs
          · rw [List.mem_singleton] at hs
            subst hs
            exact ⟨KL.out, KP.out⟩
        · show SlotsV _ _ _
          unfold SlotsV
          rw [List.length_append, HLI.out, slotCells_append]
          exact K1.out
        · refine hst.perm ?_
          rw [slotBlocks_append]
          exact see_perm3 _ _ _ _ _ _
    · have hiC : i = c.C := by omega
      subst hiC
      have hlti : ¬ (c.C : Int) < (c.C : Int) := by omega
      have hch := fun ws (hws : Own W (b0 ++ (slotBlocks Ls ++ (kBlk t (.slice A0 c.C c0) (.slice none 0 0) lk (.slice none 0 0) :: (kBlk (b + 1) (.slice none 0 0) (.slice none 0 0) false (.slice none 0 0) :: (chB b c.C c.S c.O d e c.key :: m))))) ws) => r1shelf_spec hws HC.out (((HW.out.more (m' := [kBlk t (.slice A0 c.C c0) (.slice none 0 0) lk (.slice none 0 0), kBlk (b + 1) (.slice none 0 0) (.slice none 0 0) false (.slice none 0 0), chB b c.C c.S c.O d e c.key])).more (m' := slotBlocks Ls)).more (m' := b0))
      have HRW := Lib.hid hr
      obtain ⟨y0, y1, y2, y3, y4, y5⟩ := box6 hr.dropL.dropL.skip.skip
      have hk := HR.out
      rw [HUP.out] at hk
      simp only at hk
      clear hr
      cases hsh : shelfP c g with
      | none =>
        rw [hsh] at hch hk
        simp only at hk
        subst hk
        have HCH := Lib.hid hch
        clear hch hsh
        go_wp2_with fail
        refine (HCH.out _ HRW.out).mono ?_
        rintro r w8 ⟨rfl, h8⟩
        clear y0 y1 y2 y3 y4 y5
        obtain ⟨⟨z0, z1, z2, z3⟩, ⟨f0, f1, f2, f3⟩⟩ := boxK h8.dropL.dropL.skip
        go_wp2_with fail
        have h9 := kset (sv' := .slice none 0 0) (hv' := .slice none 0 0) (l' := false) (lv' := .slice none 0 0) h8.dropL.dropL.skip
        obtain ⟨⟨e0, e1, e2, e3⟩, -⟩ := boxK h9
        exact bodyPost_ret (v := .tuple #[.agg #[.slice none 0 0, .slice none 0 0, .bool false, .slice none 0 0], .int .i64 150]) (by simp [results, Try.f37, go_sem, e0, e1, e2, e3]) rfl ⟨rfl, h9.skip.skip⟩
      | some sl =>
        rw [hsh] at hch hk
        simp only at hk
        have HCH := Lib.hid hch
        have HK := Lib.hid hk
        clear hch hsh hk
        go_wp2_with fail
        refine (HCH.out _ HRW.out).mono ?_
        rintro r w8 ⟨hv, b1, rfl, KH, h8⟩
        clear y0 y1 y2 y3 y4 y5
        obtain ⟨A3, c3, hhv, -, -⟩ := KH.out.slice
        obtain ⟨l3, hl3⟩ : ∃ l3, sl.length = l3 := ⟨_, rfl⟩
        rw [hl3] at hhv
        subst hhv
        have h9 := h8.perm (rsee_perm4 _ _ _ _ _ _ _)
        have h10 := kset1 (hv' := .slice A3 l3 c3) h9
        clear hl3 h8
        obtain ⟨⟨z0, z1, z2, z3⟩, ⟨f0, f1, f2, f3⟩⟩ := boxK h9
        obtain ⟨v0, v1, v2, v3, v4, v5⟩ := box6 h10.skip.skip
        go_wp2_with fail
        obtain ⟨wz, hwz⟩ : ∃ wz, w8.setCell ⟨t, 1, none⟩ (.slice A3 l3 c3) = wz := ⟨_, rfl⟩
        rw [hwz] at h10 ⊢
        have H10 := Lib.hid h10
        clear z0 z1 z2 z3 f0 f1 f2 f3 v0 v1 v2 v3 v4 v5 h9 h10 hwz
        obtain ⟨w0, hw0⟩ : ∃ w0 : World, w0 = wr := ⟨_, rfl⟩
        subst hw0
        go_loopw [12] (fun iv wr => ∃ (i : Nat) (Ll : List SlabN) (lv : Value) (b2 : List (Nat × Obj)), iv = .int .i64 i ∧ i ≤ c.S ∧ Hid (Ll.length = i) ∧ Hid (upto (slabP c g) i = some (Ll.map (·.x))) ∧ Hid (SlabsOk Ll) ∧ Hid (SlabsV lv Ll b2) ∧ Own W (b2 ++ (slabBlocks Ll ++ (kBlk t (.slice A0 c.C c0) (.slice A3 l3 c3) lk lv :: (kBlk (b + 1) (.slice none 0 0) (.slice none 0 0) false (.slice none 0 0) :: (chB b c.C c.S c.O d e c.key :: (b1 ++ (b0 ++ (slotBlocks Ls ++ m)))))))) wr) (fun iv _ => c.S - (intOf iv).toNat)
        case atStart => exact ⟨0, [], .slice none 0 0, [], rfl, by omega, rfl, rfl, (fun s hs => by cases hs), SlO.nil _ _ _, H10.out⟩
        case round =>
          clear H10
          obtain ⟨i, Ll, lv, b2, rfl, hi2, HLI2, HUP2, HLO, HLV, hr⟩ := hrel
          obtain ⟨A4, c4, hv4, -, -⟩ := HLV.out.slice
          rw [HLI2.out] at hv4
          subst hv4
          have HLV2 : Hid (SlO true 82 5 (.slice A4 i c4) i (slabCells Ll) b2) := by have := HLV.out; unfold SlabsV at this; rw [HLI2.out] at this; exact this
          by_cases hlt2 : i < c.S
          · have hlti2 : (i : Int) < (c.S : Int) := by omega
            have hsl := r1slab_spec hr HC.out ((((((HW.out.more (m' := slotBlocks Ls)).more (m' := b0)).more (m' := b1)).more (m' := [kBlk t (.slice A0 c.C c0) (.slice A3 l3 c3) lk (.slice A4 i c4), kBlk (b + 1) (.slice none 0 0) (.slice none 0 0) false (.slice none 0 0), chB b c.C c.S c.O d e c.key])).more (m' := slabBlocks Ll)).more (m' := b2)) i hlt2
            obtain ⟨y0, y1, y2, y3, y4, y5⟩ := box6 hr.dropL.dropL.skip.skip
            cases hsp : slabP c g i with
            | none =>
              rw [hsp] at hsl
              have HSL := Lib.hid hsl
              have hnone : upto (slabP c g) c.S = none := upto_none hsp hlt2
              have hk := HK.out
              rw [hnone] at hk
              simp only at hk
              subst hk
              clear hsl hsp hnone
              go_wp2_with fail
              refine HSL.out.mono ?_
              rintro r w9 ⟨rfl, h9⟩
              clear y0 y1 y2 y3 y4 y5
              have h11 := h9.alloc (.cells #[.int .i64 0, .int .i64 0, .bool false, .bool false, .slice none 0 0] 82)
              obtain ⟨⟨z0, z1, z2, z3⟩, ⟨f0, f1, f2, f3⟩⟩ := boxK h11.dropL.dropL.skip
              go_wp2_with fail
              have h12 := kset (sv' := .slice none 0 0) (hv' := .slice none 0 0) (l' := false) (lv' := .slice none 0 0) h11.dropL.dropL.skip
              obtain ⟨⟨e0, e1, e2, e3⟩, -⟩ := boxK h12
              exact bodyPost_ret (v := .tuple #[.agg #[.slice none 0 0, .slice none 0 0, .bool false, .slice none 0 0], .int .i64 150]) (by simp [results, Try.f37, go_sem, e0, e1, e2, e3]) rfl ⟨rfl, h12.skip.skip.dropL.dropL.dropL⟩
            | some x =>
              rw [hsp] at hsl
              have HSL := Lib.hid hsl
              have HUP3 := Lib.hid (upto_step HUP2.out hsp)
              clear hsl hsp
              go_wp2_with fail
              refine HSL.out.mono ?_
              rintro r w9 ⟨lv, lb, rfl, KL, h9⟩
              obtain ⟨A1, c1, hv1, -, -⟩ := KL.out.slice
              obtain ⟨l1, hl1⟩ : ∃ l1, x.first.length = l1 := ⟨_, rfl⟩
              rw [hl1] at hv1
              subst hv1
              clear y0 y1 y2 y3 y4 y5 hl1
              have h11 : Own W (b2 ++ (lb ++ (slabBlocks Ll ++ (kBlk t (.slice A0 c.C c0) (.slice A3 l3 c3) lk (.slice A4 i c4) :: (kBlk (b + 1) (.slice none 0 0) (.slice none 0 0) false (.slice none 0 0) :: (chB b c.C c.S c.O d e c.key :: (b1 ++ (b0 ++ (slotBlocks Ls ++ m))))))))) w9 := h9.swap
              have h12 := h11.alloc (.cells #[.int .i64 x.counts.inuse, .int .i64 x.counts.objects, .bool x.counts.frozen, .bool x.counts.live, .slice A1 l1 c1] 82)
              have H13 := Lib.hid (h12.alloc (.cells #[.int .i64 x.counts.inuse, .int .i64 x.counts.objects, .bool x.counts.frozen, .bool x.counts.live, .slice A1 l1 c1] 82))
              have hsrc := src_vals (w9.alloc (.cells #[.int .i64 x.counts.inuse, .int .i64 x.counts.objects, .bool x.counts.frozen, .bool x.counts.live, .slice A1 l1 c1] 82)) 82 [.int .i64 x.counts.inuse, .int .i64 x.counts.objects, .bool x.counts.frozen, .bool x.counts.live, .slice A1 l1 c1]
              rw [World.size_alloc] at hsrc
              have HSRC := Lib.hid hsrc
              have hone : ∀ u ∈ ([.int .i64 x.counts.inuse, .int .i64 x.counts.objects, .bool x.counts.frozen, .bool x.counts.live, .slice A1 l1 c1] : List Value), u.oneCell' = true := by
                intro u hu
                simp at hu
                rcases hu with rfl | rfl | rfl | rfl | rfl <;> rfl
              have HONE := Lib.hid hone
              obtain ⟨⟨z0, z1, z2, z3⟩, ⟨f0, f1, f2, f3⟩⟩ := boxK h12.dropL.dropL.dropL
              clear hsrc hone h9 h11 h12
              go_wp2_with (at_builtin; refine app_struct rfl _ _ 38 rfl rfl rfl _ slab_info Try.underlying38 rfl (by omega) (by omega) HLV2.out H13.out HSRC.out HONE.out (by omega) ?_; intro v' w' bs' k1 k2; have K1 := Lib.hid k1; obtain ⟨A9, c9, hv9, -, -⟩ := k1.slice; subst hv9; have K2 := Lib.hid k2; clear z0 z1 z2 z3 f0 f1 f2 f3; obtain ⟨⟨z0, z1, z2, z3⟩, ⟨f0, f1, f2, f3⟩⟩ := boxK k2.dropL.dropL.dropL; clear k1 k2)
              have hst := (kset3 (lv' := .slice A9 (i + 1) c9) (K2.out.perm (see_perm5 _ _ _ _ _)))
              refine ⟨⟨i + 1, Ll ++ [⟨x, .slice A1 l1 c1, lb⟩], .slice A9 (i + 1) c9, bs', by go_num, by omega, ?_, ?_, ?_, ?_, ?_⟩, by simp [intOf]; omega⟩
              · show _ = _
                rw [List.length_append, HLI2.out]
                rfl
              · show _ = _
                rw [List.map_append]
                exact HUP3.out
              · show SlabsOk _
                intro s hs
                rcases List.mem_append.1 hs with hs | hs
                · exact HLO.out s hs
                · rw [List.mem_singleton] at hs
                  subst hs
                  exact KL.out
              · show SlabsV _ _ _
                unfold SlabsV
                rw [List.length_append, HLI2.out, slabCells_append]
                exact K1.out
              · refine hst.perm ?_
                rw [slabBlocks_append]
                exact see_perm6 _ _ _ _ _
          · have hiS : i = c.S := by omega
            subst hiS
            have hlti2 : ¬ (c.S : Int) < (c.S : Int) := by omega
            have hk := HK.out
            rw [HUP2.out] at hk
            simp only at hk
            have HK2 := Lib.hid hk
            have ht2 := hr.dropL.dropL
            obtain ⟨y0, y1, y2, y3, y4, y5⟩ := box6 ht2.skip.skip
            obtain ⟨⟨z0, z1, z2, z3⟩, ⟨f0, f1, f2, f3⟩⟩ := boxK ht2
            obtain ⟨⟨g0, g1, g2, g3⟩, ⟨u0, u1, u2, u3⟩⟩ := boxK ht2.skip
            clear hk
            go_wp2_with fail
            have hx := hr.perm (rsee_perm7 _ _ _ _ _)
            have h9 := kset (sv' := .slice A0 c.C c0) (hv' := .slice A3 l3 c3) (l' := lk) (lv' := .slice A4 c.S c4) hx
            obtain ⟨⟨e0, e1, e2, e3⟩, -⟩ := boxK h9
            rw [HK2.out]
            refine bodyPost_ret (v := .tuple #[.agg #[.slice A0 c.C c0, .slice A3 l3 c3, .bool lk, .slice A4 c.S c4], .int .i64 0]) (by simp [results, Try.f37, go_sem, e0, e1, e2, e3]) rfl ?_
            refine ⟨_, b0 ++ (slotBlocks Ls ++ (b1 ++ (b2 ++ slabBlocks Ll))), rfl, ⟨Ls, .slice A0 c.C c0, b0, .slice A3 l3 c3, b1, Ll, .slice A4 c.S c4, b2, rfl, rfl, HSO.out, HSV.out, KH.out, rfl, HLO.out, HLV.out, rfl⟩, ?_⟩
            rw [List.append_assoc, List.append_assoc, List.append_assoc, List.append_assoc]
            exact (h9.skip.sub (rsee_sub _ _ _ _ _)).perm (see_perm8 _ _ _ _ _ _)
end
end Go.Proofs.Ytigakendeghoaaa.See

/-
  wainscotref00.EqInts answers whether two lists of numbers are one.
-/
namespace Go.Proofs.Ytigakendeghoaaa
open Go.RowKit

theorem take_eq_of {a b : List Int} {k : Nat} {x y : Int} (ha : a[k]? = some x) (hb : b[k]? = some y) (h : a.take k = b.take k) (hxy : x = y) : a.take (k + 1) = b.take (k + 1) := by
  rw [List.take_add_one, List.take_add_one, ha, hb, h, hxy]
set_option maxHeartbeats 1000000 in
theorem eqInts_spec {w : World} {v1 v2 : Value} {l1 l2 : List Int} (h1 : IntsSrc w v1 l1) (h2 : IntsSrc w v2 l2) (hl1 : l1.length ≤ 60000) (hl2 : l2.length ≤ 60000) :
    Calls Try.prog 31 #[v1, v2] w fun e w' => e = .returned (.bool (decide (l1 = l2))) ∧ ∃ n, w' = w.drewN n := by
  have f1 : ∃ A c, v1 = .slice A l1.length c := by
    rcases h1.2 with ⟨rfl, h0⟩ | ⟨a, c, rfl, _⟩
    · exact ⟨none, 0, by rw [h0]⟩
    · exact ⟨_, c, rfl⟩
  have f2 : ∃ A c, v2 = .slice A l2.length c := by
    rcases h2.2 with ⟨rfl, h0⟩ | ⟨a, c, rfl, _⟩
    · exact ⟨none, 0, by rw [h0]⟩
    · exact ⟨_, c, rfl⟩
  obtain ⟨A1, c1, rfl⟩ := f1
  obtain ⟨A2, c2, rfl⟩ := f2
  by_cases hl : l1.length = l2.length
  · have H1 := Lib.hid h1
    have H2 := Lib.hid h2
    clear h1 h2
    have hb : ((l1.length : Int) != (l2.length : Int)) = false := by rw [hl]; simp
    have HL := Lib.hid hl
    clear hl
    go_enter Try.func31, Try.ntmps31
    go_wp2_with fail
    go_loopw [5] (fun k wr => ∃ i : Nat, i ≤ l1.length ∧ k = .int .i64 i ∧ l1.take i = l2.take i ∧ ∃ n, wr = w.drewN n) (fun k _ => l1.length - (intOf k).toNat)
    case atStart => exact ⟨0, Nat.zero_le _, rfl, by simp, 0, rfl⟩
    case round =>
      obtain ⟨i, hi, rfl, hT, nq0, rfl⟩ := hrel
      have HT := Lib.hid hT
      clear hT
      by_cases hlt : i < l1.length
      · rcases H1.out.2 with ⟨_, h0⟩ | ⟨a1, k1, he1, hc1⟩
        · omega
        rcases H2.out.2 with ⟨_, h0⟩ | ⟨a2, k2, he2, hc2⟩
        · have := HL.out; omega
        cases he1
        cases he2
        obtain ⟨x, hx⟩ : ∃ x, l1[i]? = some x := ⟨_, List.getElem?_eq_getElem hlt⟩
        obtain ⟨y, hy⟩ : ∃ y, l2[i]? = some y := ⟨_, List.getElem?_eq_getElem (by have := HL.out; omega)⟩
        have cx := hc1 i _ (ints_get hx)
        have cy := hc2 i _ (ints_get hy)
        have i0 : (0 : Int) ≤ (i : Int) := by omega
        have i1 : (i : Int) < (l1.length : Int) := by omega
        have i2 : (i : Int) < (l2.length : Int) := by have := HL.out; omega
        have HX := Lib.hid hx
        have HY := Lib.hid hy
        clear hx hy hc1 hc2
        by_cases hxy : x = y
        · have hxb : (x != y) = false := by simpa using hxy
          have HXY := Lib.hid hxy
          clear hxy
          go_wp2_with fail
          go_quiet (fail)
          go_wp2_with fail
          go_roundw
          case rel => exact ⟨i + 1, by omega, by go_num, take_eq_of HX.out HY.out HT.out HXY.out, nq0 + nq, by first | rfl | rw [World.drewN_drewN]⟩
          case measure => simp [intOf]; omega
        · have hxb : (x != y) = true := by simpa using hxy
          have HXY := Lib.hid hxy
          clear hxy
          go_wp2_with fail
          go_quiet (fail)
          go_wp2_with fail
          go_ret
          refine ⟨?_, nq0 + nq, by first | rfl | rw [World.drewN_drewN]⟩
          have : l1 ≠ l2 := fun he => HXY.out (by have := HX.out; rw [he, HY.out] at this; exact (Option.some.inj this).symm)
          rw [decide_eq_false this]; rfl
      · obtain rfl : i = l1.length := by omega
        go_wp2_with fail
        go_ret
        refine ⟨?_, _, rfl⟩
        have : l1 = l2 := by
          have h := HT.out
          rw [List.take_of_length_le (Nat.le_refl _), HL.out, List.take_of_length_le (Nat.le_refl _)] at h
          exact h
        rw [decide_eq_true this]; rfl
  · have hb : ((l1.length : Int) != (l2.length : Int)) = true := by simp; omega
    have hne : l1 ≠ l2 := fun he => hl (by rw [he])
    have HN := Lib.hid hne
    clear hne hl h1 h2
    go_enter Try.func31, Try.ntmps31
    go_wp2_with fail
    go_ret
    exact ⟨by rw [decide_eq_false HN.out]; rfl, 0, rfl⟩
section
variable {W : World} {m : List (Nat × Obj)} {w : World}
theorem eqInts_yes {v1 v2 : Value} {l1 l2 : List Int} (h1 : IntsSrc w v1 l1) (h2 : IntsSrc w v2 l2) (hl1 : l1.length ≤ 60000) (he : l1 = l2) (h : Own W m w) :
    Calls Try.prog 31 #[v1, v2] w fun e w' => e = .returned (.bool true) ∧ Own W m w' := by
  subst he
  refine (eqInts_spec h1 h2 hl1 hl1).mono ?_
  rintro e w' ⟨rfl, n, rfl⟩
  exact ⟨by simp, h.drewN n⟩
end
end Go.Proofs.Ytigakendeghoaaa

/-
  Contract: wainscotref21.Same of two values that are one core. No condition.
-/
namespace Go.Proofs.Ytigakendeghoaaa.See
open Go.RowKit
attribute [local go_sem ↓] Go.wp_at_zero Go.wp_at_succ
/-- lists that are short -/
def SmallC (K : CoreP) : Prop := K.slots.length ≤ 100 ∧ K.slabs.length ≤ 100 ∧ K.shelf.length ≤ 100 ∧ (∀ s ∈ K.slots, s.list.length ≤ 100 ∧ s.parts.length ≤ 100) ∧ ∀ s ∈ K.slabs, s.first.length ≤ 100
theorem walk_len {sh : Nat → Int → Option Int} {l : List Nat} : ∀ {n : Nat} {out r : List Int} {i : Int}, walk sh l n out i = some r → r.length ≤ out.length + n
  | 0, _, _, _, h => by cases h
  | n + 1, out, r, i, h => by
    unfold walk at h
    split at h
    · cases h; omega
    · split at h
      · cases h
      · split at h
        · cases h
        · split at h
          · cases h
          · have := walk_len h
            simp at this
            omega
theorem chain_len {of : Nat → Option Int} {nx : Int → Nat} {S : Nat} : ∀ {n : Nat} {out r : List Int} {w : Nat}, chain of nx S n out w = some r → r.length ≤ out.length + n
  | 0, _, _, _, h => by cases h
  | n + 1, out, r, w, h => by
    unfold chain at h
    split at h
    · cases h
    · split at h
      · cases h
      · split at h
        · cases h; omega
        · have := chain_len h
          simp at this
          omega
theorem listP_len {c : Ch} {g : List Nat} {s i : Int} {l : List Int} (h : listP c g s i = some l) : l.length ≤ c.O + 1 := by
  unfold listP at h
  split at h
  · have := walk_len h
    simp at this
    omega
  · cases h
theorem upto_mem {α : Type} {f : Nat → Option α} {n : Nat} {l : List α} (h : upto f n = some l) {x : α} (hx : x ∈ l) : ∃ i, i < n ∧ f i = some x := by
  obtain ⟨i, hi, rfl⟩ := List.getElem_of_mem hx
  have hl := upto_len h
  exact ⟨i, by omega, by rw [upto_get h i (by omega), List.getElem?_eq_getElem hi]⟩
theorem see_small {c : Ch} {g : List Nat} {K : CoreP} (hc : c.C ≤ 8 ∧ c.S ≤ 32 ∧ c.O ≤ 16) (h : seeP c g = some K) : SmallC K := by
  unfold seeP at h
  split at h <;> first | (cases h; done) | skip
  rename_i a ha
  split at h <;> first | (cases h; done) | skip
  rename_i l hl
  split at h <;> first | (cases h; done) | skip
  rename_i b hb
  simp only [Option.some.injEq] at h
  subst h
  refine ⟨by rw [upto_len ha]; omega, by rw [upto_len hb]; omega, ?_, fun s hs => ?_, fun s hs => ?_⟩
  · have := chain_len hl
    simp at this
    show l.length ≤ 100
    omega
  · obtain ⟨i, hi, hf⟩ := upto_mem ha hs
    unfold slotP at hf
    split at hf <;> first | (cases hf; done) | skip
    split at hf <;> first | (cases hf; done) | skip
    rename_i l1 hl1
    split at hf <;> first | (cases hf; done) | skip
    rename_i l2 hl2
    simp only [Option.some.injEq] at hf
    subst hf
    constructor
    · show l1.length ≤ 100
      split at hl1
      · simp only [Option.some.injEq] at hl1
        subst hl1
        simp
      · have := listP_len hl1
        omega
    · show l2.length ≤ 100
      have := chain_len hl2
      simp at this
      omega
  · obtain ⟨i, hi, hf⟩ := upto_mem hb hs
    unfold slabP at hf
    split at hf <;> first | (cases hf; done) | skip
    split at hf <;> first | (cases hf; done) | skip
    split at hf <;> first | (cases hf; done) | skip
    rename_i l1 hl1
    simp only [Option.some.injEq] at hf
    subst hf
    have := listP_len hl1
    show l1.length ≤ 100
    omega
theorem flat_get {α : Type} (f : α → List Value) (n : Nat) (hf : ∀ x, (f x).length = n) : ∀ {L : List α} {i j : Nat} {x : α}, L[i]? = some x → j < n → (L.flatMap f)[i * n + j]? = (f x)[j]?
  | [], i, j, x, h, _ => by simp at h
  | y :: L, 0, j, x, h, hj => by
    simp at h
    subst h
    rw [List.flatMap_cons, Nat.zero_mul, Nat.zero_add, List.getElem?_append_left (by rw [hf]; exact hj)]
  | y :: L, i + 1, j, x, h, hj => by
    rw [List.flatMap_cons, List.getElem?_append_right (by rw [hf, Nat.succ_mul]; omega), hf, show (i + 1) * n + j - n = i * n + j by rw [Nat.succ_mul]; omega]
    exact flat_get f n hf (by simpa using h) hj
theorem flatMap_split {α : Type} (f : α → List (Nat × Obj)) : ∀ {L : List α} {x : α}, x ∈ L → ∃ r, (L.flatMap f).Perm (f x ++ r)
  | y :: L, x, h => by
    rcases List.mem_cons.1 h with rfl | h
    · exact ⟨L.flatMap f, by rw [List.flatMap_cons]⟩
    · obtain ⟨r, hr⟩ := flatMap_split f h
      refine ⟨f y ++ r, ?_⟩
      rw [List.flatMap_cons]
      exact (List.Perm.append_left (f y) hr).trans (perm_swap _ _ _)
section
variable {W w : World} {M m bs : List (Nat × Obj)} {b : Nat}
theorem slots_at {L : List SlotN} {A : Option Addr} {n cap : Nat} {b0 : List (Nat × Obj)} (h : SlO true 78 4 (.slice A n cap) n (slotCells L) b0) (hO : Own W (b0 ++ M) w) {i : Nat} {s : SlotN} (hs : L[i]? = some s) (hi : i < n) :
    ∃ g, A = some ⟨g, 0, none⟩ ∧ w.cell? ⟨g, i * 4, none⟩ = some (.int .i64 s.x.slab) ∧ w.cell? ⟨g, i * 4 + 1, none⟩ = some s.lv ∧ w.cell? ⟨g, i * 4 + 2, none⟩ = some (.int .u64 s.x.turn) ∧ w.cell? ⟨g, i * 4 + 3, none⟩ = some s.pv ∧ g < w.heap.size := by
  obtain ⟨g, cap', cur, hv, -⟩ := h.form (by omega)
  simp only [Value.slice.injEq, true_and] at hv
  obtain ⟨rfl, rfl⟩ := hv
  have hg := fun j (hj : j < 4) => flat_get SlotN.cells 4 (fun _ => rfl) hs hj
  exact ⟨g, rfl, h.cell hO rfl (hg 0 (by omega)), h.cell hO rfl (hg 1 (by omega)), h.cell hO rfl (hg 2 (by omega)), h.cell hO rfl (hg 3 (by omega)), h.lt hO rfl⟩
theorem slabs_at {L : List SlabN} {A : Option Addr} {n cap : Nat} {b0 : List (Nat × Obj)} (h : SlO true 82 5 (.slice A n cap) n (slabCells L) b0) (hO : Own W (b0 ++ M) w) {i : Nat} {s : SlabN} (hs : L[i]? = some s) (hi : i < n) :
    ∃ g, A = some ⟨g, 0, none⟩ ∧ w.cell? ⟨g, i * 5, none⟩ = some (.int .i64 s.x.counts.inuse) ∧ w.cell? ⟨g, i * 5 + 1, none⟩ = some (.int .i64 s.x.counts.objects) ∧ w.cell? ⟨g, i * 5 + 2, none⟩ = some (.bool s.x.counts.frozen) ∧ w.cell? ⟨g, i * 5 + 3, none⟩ = some (.bool s.x.counts.live) ∧ w.cell? ⟨g, i * 5 + 4, none⟩ = some s.v ∧ g < w.heap.size := by
  obtain ⟨g, cap', cur, hv, -⟩ := h.form (by omega)
  simp only [Value.slice.injEq, true_and] at hv
  obtain ⟨rfl, rfl⟩ := hv
  have hg := fun j (hj : j < 5) => flat_get SlabN.cells 5 (fun _ => rfl) hs hj
  exact ⟨g, rfl, h.cell hO rfl (hg 0 (by omega)), h.cell hO rfl (hg 1 (by omega)), h.cell hO rfl (hg 2 (by omega)), h.cell hO rfl (hg 3 (by omega)), h.cell hO rfl (hg 4 (by omega)), h.lt hO rfl⟩
theorem slots_src {L : List SlotN} (hk : SlotsOk L) (hO : Own W (slotBlocks L ++ M) w) {s : SlotN} (hs : s ∈ L) : IntsSrc w s.lv s.x.list ∧ IntsSrc w s.pv s.x.parts := by
  obtain ⟨r, hr⟩ := flatMap_split (fun s : SlotN => s.lb ++ s.pb) hs
  obtain ⟨h1, h2⟩ := hk s hs
  have h3 : Own W (s.lb ++ (s.pb ++ (r ++ M))) w := by
    have := hO.perm (List.Perm.append_right M hr)
    simpa [List.append_assoc] using this
  exact ⟨h1.src h3, h2.src h3.swap⟩
theorem slabs_src {L : List SlabN} (hk : SlabsOk L) (hO : Own W (slabBlocks L ++ M) w) {s : SlabN} (hs : s ∈ L) : IntsSrc w s.v s.x.first := by
  obtain ⟨r, hr⟩ := flatMap_split SlabN.b hs
  have h3 : Own W (s.b ++ (r ++ M)) w := by
    have := hO.perm (List.Perm.append_right M hr)
    simpa [List.append_assoc] using this
  exact SlO.src (hk s hs) h3
/-- a core's parts, wherever its blocks lie -/
structure Parts (K : CoreP) (A0 A1 A2 : Option Addr) (c0 c1 c2 : Nat) (bs : List (Nat × Obj)) (Ls : List SlotN) (Ll : List SlabN) : Prop where
  es : Ls.map (·.x) = K.slots
  el : Ll.map (·.x) = K.slabs
  slots : ∀ {W w M}, Own W (bs ++ M) w → ∀ {i s}, Ls[i]? = some s → i < K.slots.length → (∃ g, A0 = some ⟨g, 0, none⟩ ∧ w.cell? ⟨g, i * 4, none⟩ = some (.int .i64 s.x.slab) ∧ w.cell? ⟨g, i * 4 + 1, none⟩ = some s.lv ∧ w.cell? ⟨g, i * 4 + 2, none⟩ = some (.int .u64 s.x.turn) ∧ w.cell? ⟨g, i * 4 + 3, none⟩ = some s.pv ∧ g < w.heap.size) ∧ IntsSrc w s.lv s.x.list ∧ IntsSrc w s.pv s.x.parts
  slabs : ∀ {W w M}, Own W (bs ++ M) w → ∀ {i s}, Ll[i]? = some s → i < K.slabs.length → (∃ g, A2 = some ⟨g, 0, none⟩ ∧ w.cell? ⟨g, i * 5, none⟩ = some (.int .i64 s.x.counts.inuse) ∧ w.cell? ⟨g, i * 5 + 1, none⟩ = some (.int .i64 s.x.counts.objects) ∧ w.cell? ⟨g, i * 5 + 2, none⟩ = some (.bool s.x.counts.frozen) ∧ w.cell? ⟨g, i * 5 + 3, none⟩ = some (.bool s.x.counts.live) ∧ w.cell? ⟨g, i * 5 + 4, none⟩ = some s.v ∧ g < w.heap.size) ∧ IntsSrc w s.v s.x.first
  shelf : ∀ {W w M}, Own W (bs ++ M) w → IntsSrc w (.slice A1 K.shelf.length c1) K.shelf
theorem core_parts {v : Value} {K : CoreP} (h : CoreO v K bs) : ∃ A0 A1 A2 c0 c1 c2 Ls Ll, v = .agg #[.slice A0 K.slots.length c0, .slice A1 K.shelf.length c1, .bool K.locked, .slice A2 K.slabs.length c2] ∧ Parts K A0 A1 A2 c0 c1 c2 bs Ls Ll := by
  obtain ⟨Ls, sv, b0, hv, b1, Ll, lv, b2, rfl, es, so, s1, h1, el, lo, l1, rfl⟩ := h
  have ns : Ls.length = K.slots.length := by rw [← es, List.length_map]
  have nl : Ll.length = K.slabs.length := by rw [← el, List.length_map]
  unfold SlotsV at s1
  unfold SlabsV at l1
  rw [ns] at s1
  rw [nl] at l1
  obtain ⟨A0, c0, rfl, -, -⟩ := s1.slice
  obtain ⟨A1, c1, rfl, -, -⟩ := SlO.slice h1
  obtain ⟨A2, c2, rfl, -, -⟩ := l1.slice
  refine ⟨A0, A1, A2, c0, c1, c2, Ls, Ll, rfl, ⟨es, el, fun hO i s hs hi => ?_, fun hO i s hs hi => ?_, fun hO => ?_⟩⟩
  · simp only [List.append_assoc] at hO
    exact ⟨slots_at s1 hO hs hi, slots_src so hO.dropL (List.mem_of_getElem? hs)⟩
  · simp only [List.append_assoc] at hO
    have h3 := hO.dropL.dropL.dropL
    exact ⟨slabs_at l1 h3 hs hi, slabs_src lo h3.dropL (List.mem_of_getElem? hs)⟩
  · simp only [List.append_assoc] at hO
    exact SlO.src h1 hO.dropL.dropL
theorem src_slice {v : Value} {l : List Int} (h : IntsSrc w v l) : ∃ A c, v = .slice A l.length c := by
  rcases h.2 with ⟨rfl, hn⟩ | ⟨a, c, rfl, -⟩
  · exact ⟨none, 0, by rw [hn]⟩
  · exact ⟨_, _, rfl⟩
set_option maxRecDepth 100000 in
set_option maxHeartbeats 8000000 in
theorem same_spec {v1 v2 : Value} {K : CoreP} {bs1 bs2 : List (Nat × Obj)} (h : Own W (bs1 ++ (bs2 ++ m)) w) (h1 : CoreO v1 K bs1) (h2 : CoreO v2 K bs2) (hs : SmallC K) :
    Calls Try.prog 38 #[v1, v2] w fun e w' => e = .returned (.bool true) ∧ Own W (bs1 ++ (bs2 ++ m)) w' := by
  obtain ⟨A0, A1, A2, c0, c1, c2, Ls, Ll, rfl, P1⟩ := core_parts h1
  obtain ⟨D0, D1, D2, d0, d1, d2, Ms, Ml, rfl, P2⟩ := core_parts h2
  generalize K.locked = lk at h1 h2 ⊢
  have HP1 := Lib.hid P1
  have HP2 := Lib.hid P2
  have HS := Lib.hid hs
  obtain ⟨n, hn⟩ : ∃ n, K.slots.length = n := ⟨_, rfl⟩
  obtain ⟨l, hl⟩ : ∃ l, K.slabs.length = l := ⟨_, rfl⟩
  obtain ⟨q, hq⟩ : ∃ q, K.shelf.length = q := ⟨_, rfl⟩
  have hn1 : n ≤ 100 := by rw [← hn]; exact hs.1
  have hl1 : l ≤ 100 := by rw [← hl]; exact hs.2.1
  have HN := Lib.hid hn
  have HL := Lib.hid hl
  have HQ := Lib.hid hq
  rw [hn, hl, hq]
  have hk := (h.new (.cells #[.slice A0 n c0, .slice A1 q c1, .bool lk, .slice A2 l c2] 40)).new (.cells #[.slice D0 n d0, .slice D1 q d1, .bool lk, .slice D2 l d2] 40)
  obtain ⟨b, hb⟩ : ∃ b, w.heap.size = b := ⟨_, rfl⟩
  simp only [World.size_alloc] at hk
  rw [hb] at hk
  have hk : Own W (kBlk (b + 1) (.slice D0 n d0) (.slice D1 q d1) lk (.slice D2 l d2) :: (kBlk b (.slice A0 n c0) (.slice A1 q c1) lk (.slice A2 l c2) :: (bs1 ++ (bs2 ++ m)))) _ := hk
  obtain ⟨⟨z0, z1, z2, z3⟩, -⟩ := boxK hk
  obtain ⟨⟨y0, y1, y2, y3⟩, -⟩ := boxK hk.skip
  have hq1 := HP1.out.shelf hk.skip.skip
  have hq2 := HP2.out.shelf (hk.skip.skip.swap)
  rw [hq] at hq1 hq2
  have HQ1 := Lib.hid hq1
  have HQ2 := Lib.hid hq2
  have HKK := Lib.hid hk
  clear hs h1 h2 P1 P2 hn hl hq hk hq1 hq2 h
  go_enter Try.func38, Try.ntmps38
  go_wp2_with fail
  refine (eqInts_yes HQ1.out HQ2.out (by have := HS.out.2.2.1; omega) rfl HKK.out).mono ?_
  rintro e w2 ⟨rfl, h2⟩
  clear y0 y1 y2 y3 z0 z1 z2 z3
  obtain ⟨⟨z0, z1, z2, z3⟩, -⟩ := boxK h2
  obtain ⟨⟨y0, y1, y2, y3⟩, -⟩ := boxK h2.skip
  go_wp2_with fail
  have H2 := Lib.hid h2
  clear z0 z1 z2 z3 y0 y1 y2 y3 h2
  go_loopw [5] (fun iv wr => ∃ i : Nat, iv = .int .i64 i ∧ i ≤ n ∧ Own W (kBlk (b + 1) (.slice D0 n d0) (.slice D1 q d1) lk (.slice D2 l d2) :: (kBlk b (.slice A0 n c0) (.slice A1 q c1) lk (.slice A2 l c2) :: (bs1 ++ (bs2 ++ m)))) wr) (fun iv _ => n - (intOf iv).toNat)
  case atStart => exact ⟨0, rfl, by omega, H2.out⟩
  case round =>
    clear H2
    obtain ⟨i, rfl, hi, hr⟩ := hrel
    obtain ⟨⟨z0, z1, z2, z3⟩, -⟩ := boxK hr
    obtain ⟨⟨y0, y1, y2, y3⟩, -⟩ := boxK hr.skip
    by_cases hlt : i < n
    · have hlti : (i : Int) < n := by omega
      have hi0 : (0 : Int) ≤ i := by omega
      obtain ⟨⟨⟨sx, sl, st, sp⟩, lv1, lb1, pv1, pb1⟩, hs1⟩ : ∃ s, Ls[i]? = some s := ⟨_, List.getElem?_eq_getElem (by have := congrArg List.length HP1.out.es; rw [List.length_map, HN.out] at this; omega)⟩
      obtain ⟨⟨x2, lv2, lb2, pv2, pb2⟩, hs2⟩ : ∃ s, Ms[i]? = some s := ⟨_, List.getElem?_eq_getElem (by have := congrArg List.length HP2.out.es; rw [List.length_map, HN.out] at this; omega)⟩
      have hx : x2 = ⟨sx, sl, st, sp⟩ := by
        have e1 := congrArg (fun l => l[i]?) (HP1.out.es.trans HP2.out.es.symm)
        simp only [List.getElem?_map, hs1, hs2, Option.map_some, Option.some.injEq] at e1
        exact e1.symm
      subst hx
      have hiK : i < K.slots.length := by rw [HN.out]; exact hlt
      have hm1 : (⟨sx, sl, st, sp⟩ : SlotP) ∈ K.slots := by
        rw [← HP1.out.es]
        exact List.mem_map.2 ⟨_, List.mem_of_getElem? hs1, rfl⟩
      have hsm := HS.out.2.2.2.1 _ hm1
      obtain ⟨⟨g1, rfl, p0, p1, p2, p3, gl1⟩, r1, r2⟩ := HP1.out.slots hr.skip.skip hs1 hiK
      obtain ⟨⟨g2, rfl, o0, o1, o2, o3, gl2⟩, r3, r4⟩ := HP2.out.slots hr.skip.skip.swap hs2 hiK
      simp only at p0 p1 p2 p3 o0 o1 o2 o3 r1 r2 r3 r4 hsm
      obtain ⟨B1, e1, rfl⟩ := src_slice r1
      obtain ⟨B2, e2, rfl⟩ := src_slice r2
      obtain ⟨B3, e3, rfl⟩ := src_slice r3
      obtain ⟨B4, e4, rfl⟩ := src_slice r4
      have HS1 := Lib.hid hs1
      have HS2 := Lib.hid hs2
      have HIK := Lib.hid hiK
      have HSM := Lib.hid hsm
      obtain ⟨u1, hu1⟩ : ∃ u1, sl.length = u1 := ⟨_, rfl⟩
      obtain ⟨u2, hu2⟩ : ∃ u2, sp.length = u2 := ⟨_, rfl⟩
      have HU1 := Lib.hid hu1
      have HU2 := Lib.hid hu2
      rw [hu1] at p1 o1
      rw [hu2] at p3 o3
      clear hs1 hs2 hiK hsm hm1 hu1 hu2 r1 r2 r3 r4 z1 z2 z3 y1 y2 y3
      have yb : b < wr.heap.size := hr.skip.lt List.mem_cons_self
      have zb : b + 1 < wr.heap.size := hr.lt List.mem_cons_self
      go_wp2_with fail
      go_region_held3 (fun w' => (w'.cell? ⟨b, 0, none⟩ = some (.slice (some ⟨g1, 0, none⟩) n c0) ∧ w'.cell? ⟨b + 1, 0, none⟩ = some (.slice (some ⟨g2, 0, none⟩) n d0)) ∧ (w'.cell? ⟨g1, i * 4, none⟩ = some (.int .i64 sx) ∧ w'.cell? ⟨g1, i * 4 + 1, none⟩ = some (.slice B1 u1 e1) ∧ w'.cell? ⟨g1, i * 4 + 2, none⟩ = some (.int .u64 (st : Int)) ∧ w'.cell? ⟨g1, i * 4 + 3, none⟩ = some (.slice B2 u2 e2)) ∧ (w'.cell? ⟨g2, i * 4, none⟩ = some (.int .i64 sx) ∧ w'.cell? ⟨g2, i * 4 + 1, none⟩ = some (.slice B3 u1 e3) ∧ w'.cell? ⟨g2, i * 4 + 2, none⟩ = some (.int .u64 (st : Int)) ∧ w'.cell? ⟨g2, i * 4 + 3, none⟩ = some (.slice B4 u2 e4))) (first | (refine ⟨⟨?_, ?_⟩, ⟨?_, ?_, ?_, ?_⟩, ⟨?_, ?_, ?_, ?_⟩⟩ <;> assumption) | go_keep) (fail)
      · have h3 := ((hr.new (.cells #[.int .i64 sx, .slice B1 u1 e1, .int .u64 st, .slice B2 u2 e2] 78)).new (.cells #[.int .i64 sx, .slice B3 u1 e3, .int .u64 st, .slice B4 u2 e4] 78)).drew
        obtain ⟨w3, hw3⟩ : ∃ w3, ((wr.alloc (.cells #[.int .i64 sx, .slice B1 u1 e1, .int .u64 st, .slice B2 u2 e2] 78)).alloc (.cells #[.int .i64 sx, .slice B3 u1 e3, .int .u64 st, .slice B4 u2 e4] 78)).drew = w3 := ⟨_, rfl⟩
        rw [World.size_alloc] at h3
        rw [hw3] at h3 ⊢
        have m0 := h3.cell List.mem_cons_self
        have m1 := h3.cell (List.mem_cons_of_mem _ List.mem_cons_self)
        have m00 := m0 0
        have m01 := m0 1
        have m02 := m0 2
        have m03 := m0 3
        have m10 := m1 0
        have m11 := m1 1
        have m12 := m1 2
        have m13 := m1 3
        simp at m00 m01 m02 m03 m10 m11 m12 m13
        have h4 := h3.skip.skip
        obtain ⟨-, r1, r2⟩ := HP1.out.slots h4.skip.skip HS1.out HIK.out
        obtain ⟨-, r3, r4⟩ := HP2.out.slots h4.skip.skip.swap HS2.out HIK.out
        simp only at r1 r2 r3 r4
        have R1 : Hid (IntsSrc w3 (.slice B1 u1 e1) sl) := by show IntsSrc w3 (.slice B1 u1 e1) sl; rw [← HU1.out]; exact r1
        have R3 : Hid (IntsSrc w3 (.slice B3 u1 e3) sl) := by show IntsSrc w3 (.slice B3 u1 e3) sl; rw [← HU1.out]; exact r3
        have H3 := Lib.hid h3
        clear hw3 m0 m1 r1 r2 r3 r4 p0 p1 p2 p3 o0 o1 o2 o3 y0 z0 h3 h4 hr
        go_wp2_with fail
        refine (eqInts_yes R1.out R3.out (by have := HSM.out.1; omega) rfl H3.out).mono ?_
        rintro e w4 ⟨rfl, h3⟩
        clear m00 m01 m02 m03 m10 m11 m12 m13
        have m0 := h3.cell List.mem_cons_self
        have m1 := h3.cell (List.mem_cons_of_mem _ List.mem_cons_self)
        have m00 := m0 0
        have m01 := m0 1
        have m02 := m0 2
        have m03 := m0 3
        have m10 := m1 0
        have m11 := m1 1
        have m12 := m1 2
        have m13 := m1 3
        simp at m00 m01 m02 m03 m10 m11 m12 m13
        have h4 := h3.skip.skip
        obtain ⟨-, r1, r2⟩ := HP1.out.slots h4.skip.skip HS1.out HIK.out
        obtain ⟨-, r3, r4⟩ := HP2.out.slots h4.skip.skip.swap HS2.out HIK.out
        simp only at r1 r2 r3 r4
        have R2 : Hid (IntsSrc w4 (.slice B2 u2 e2) sp) := by show IntsSrc w4 (.slice B2 u2 e2) sp; rw [← HU2.out]; exact r2
        have R4 : Hid (IntsSrc w4 (.slice B4 u2 e4) sp) := by show IntsSrc w4 (.slice B4 u2 e4) sp; rw [← HU2.out]; exact r4
        have H4 := Lib.hid h3
        clear m0 m1 r1 r2 r3 r4 h3 h4
        go_wp2_with fail
        refine (eqInts_yes R2.out R4.out (by have := HSM.out.2; omega) rfl H4.out).mono ?_
        rintro e w5 ⟨rfl, h5⟩
        clear m00 m01 m02 m03 m10 m11 m12 m13
        go_wp2_with fail
        exact ⟨⟨i + 1, by go_num, by omega, h5.skip.skip⟩, by simp [intOf]; omega⟩
      · have h3 := ((hr.new (.cells #[.int .i64 sx, .slice B3 u1 e3, .int .u64 st, .slice B4 u2 e4] 78)).new (.cells #[.int .i64 sx, .slice B1 u1 e1, .int .u64 st, .slice B2 u2 e2] 78)).drew
        obtain ⟨w3, hw3⟩ : ∃ w3, ((wr.alloc (.cells #[.int .i64 sx, .slice B3 u1 e3, .int .u64 st, .slice B4 u2 e4] 78)).alloc (.cells #[.int .i64 sx, .slice B1 u1 e1, .int .u64 st, .slice B2 u2 e2] 78)).drew = w3 := ⟨_, rfl⟩
        rw [World.size_alloc] at h3
        rw [hw3] at h3 ⊢
        have m0 := h3.cell List.mem_cons_self
        have m1 := h3.cell (List.mem_cons_of_mem _ List.mem_cons_self)
        have m00 := m0 0
        have m01 := m0 1
        have m02 := m0 2
        have m03 := m0 3
        have m10 := m1 0
        have m11 := m1 1
        have m12 := m1 2
        have m13 := m1 3
        simp at m00 m01 m02 m03 m10 m11 m12 m13
        have h4 := h3.skip.skip
        obtain ⟨-, r1, r2⟩ := HP1.out.slots h4.skip.skip HS1.out HIK.out
        obtain ⟨-, r3, r4⟩ := HP2.out.slots h4.skip.skip.swap HS2.out HIK.out
        simp only at r1 r2 r3 r4
        have R1 : Hid (IntsSrc w3 (.slice B1 u1 e1) sl) := by show IntsSrc w3 (.slice B1 u1 e1) sl; rw [← HU1.out]; exact r1
        have R3 : Hid (IntsSrc w3 (.slice B3 u1 e3) sl) := by show IntsSrc w3 (.slice B3 u1 e3) sl; rw [← HU1.out]; exact r3
        have H3 := Lib.hid h3
        clear hw3 m0 m1 r1 r2 r3 r4 p0 p1 p2 p3 o0 o1 o2 o3 y0 z0 h3 h4 hr
        go_wp2_with fail
        refine (eqInts_yes R1.out R3.out (by have := HSM.out.1; omega) rfl H3.out).mono ?_
        rintro e w4 ⟨rfl, h3⟩
        clear m00 m01 m02 m03 m10 m11 m12 m13
        have m0 := h3.cell List.mem_cons_self
        have m1 := h3.cell (List.mem_cons_of_mem _ List.mem_cons_self)
        have m00 := m0 0
        have m01 := m0 1
        have m02 := m0 2
        have m03 := m0 3
        have m10 := m1 0
        have m11 := m1 1
        have m12 := m1 2
        have m13 := m1 3
        simp at m00 m01 m02 m03 m10 m11 m12 m13
        have h4 := h3.skip.skip
        obtain ⟨-, r1, r2⟩ := HP1.out.slots h4.skip.skip HS1.out HIK.out
        obtain ⟨-, r3, r4⟩ := HP2.out.slots h4.skip.skip.swap HS2.out HIK.out
        simp only at r1 r2 r3 r4
        have R2 : Hid (IntsSrc w4 (.slice B2 u2 e2) sp) := by show IntsSrc w4 (.slice B2 u2 e2) sp; rw [← HU2.out]; exact r2
        have R4 : Hid (IntsSrc w4 (.slice B4 u2 e4) sp) := by show IntsSrc w4 (.slice B4 u2 e4) sp; rw [← HU2.out]; exact r4
        have H4 := Lib.hid h3
        clear m0 m1 r1 r2 r3 r4 h3 h4
        go_wp2_with fail
        refine (eqInts_yes R2.out R4.out (by have := HSM.out.2; omega) rfl H4.out).mono ?_
        rintro e w5 ⟨rfl, h5⟩
        clear m00 m01 m02 m03 m10 m11 m12 m13
        go_wp2_with fail
        exact ⟨⟨i + 1, by go_num, by omega, h5.skip.skip⟩, by simp [intOf]; omega⟩
    · have hnl : ¬ (i : Int) < (n : Int) := by omega
      have HR := Lib.hid hr
      clear hr z1 z2 y1 y2
      go_wp2_with fail
      obtain ⟨w0, hw0⟩ : ∃ w0 : World, w0 = wr := ⟨_, rfl⟩
      subst hw0
      go_loopw [8] (fun iv wr => ∃ i : Nat, iv = .int .i64 i ∧ i ≤ l ∧ Own W (kBlk (b + 1) (.slice D0 n d0) (.slice D1 q d1) lk (.slice D2 l d2) :: (kBlk b (.slice A0 n c0) (.slice A1 q c1) lk (.slice A2 l c2) :: (bs1 ++ (bs2 ++ m)))) wr) (fun iv _ => l - (intOf iv).toNat)
      case atStart => exact ⟨0, rfl, by omega, HR.out⟩
      case round =>
        clear HR z0 z3 y0 y3
        obtain ⟨i, rfl, hi, hr⟩ := hrel
        obtain ⟨⟨z0, z1, z2, z3⟩, -⟩ := boxK hr
        obtain ⟨⟨y0, y1, y2, y3⟩, -⟩ := boxK hr.skip
        by_cases hlt : i < l
        · have hlti : (i : Int) < l := by omega
          have hi0 : (0 : Int) ≤ i := by omega
          obtain ⟨⟨⟨⟨ni, no, nf, nv⟩, sl⟩, lv1, lb1⟩, hs1⟩ : ∃ s, Ll[i]? = some s := ⟨_, List.getElem?_eq_getElem (by have := congrArg List.length HP1.out.el; rw [List.length_map, HL.out] at this; omega)⟩
          obtain ⟨⟨x2, lv2, lb2⟩, hs2⟩ : ∃ s, Ml[i]? = some s := ⟨_, List.getElem?_eq_getElem (by have := congrArg List.length HP2.out.el; rw [List.length_map, HL.out] at this; omega)⟩
          have hx : x2 = ⟨⟨ni, no, nf, nv⟩, sl⟩ := by
            have e1 := congrArg (fun l => l[i]?) (HP1.out.el.trans HP2.out.el.symm)
            simp only [List.getElem?_map, hs1, hs2, Option.map_some, Option.some.injEq] at e1
            exact e1.symm
          subst hx
          have hiK : i < K.slabs.length := by rw [HL.out]; exact hlt
          have hm1 : (⟨⟨ni, no, nf, nv⟩, sl⟩ : SlabP) ∈ K.slabs := by
            rw [← HP1.out.el]
            exact List.mem_map.2 ⟨_, List.mem_of_getElem? hs1, rfl⟩
          have hsm := HS.out.2.2.2.2 _ hm1
          obtain ⟨⟨g1, rfl, p0, p1, p2, p3, p4, gl1⟩, r1⟩ := HP1.out.slabs hr.skip.skip hs1 hiK
          obtain ⟨⟨g2, rfl, o0, o1, o2, o3, o4, gl2⟩, r3⟩ := HP2.out.slabs hr.skip.skip.swap hs2 hiK
          simp only at p0 p1 p2 p3 p4 o0 o1 o2 o3 o4 r1 r3 hsm
          obtain ⟨B1, e1, rfl⟩ := src_slice r1
          obtain ⟨B3, e3, rfl⟩ := src_slice r3
          have HS1 := Lib.hid hs1
          have HS2 := Lib.hid hs2
          have HIK := Lib.hid hiK
          have HSM := Lib.hid hsm
          obtain ⟨u1, hu1⟩ : ∃ u1, sl.length = u1 := ⟨_, rfl⟩
          have HU1 := Lib.hid hu1
          rw [hu1] at p4 o4
          have hdrew := hr.drew
          obtain ⟨-, r5⟩ := HP1.out.slabs hdrew.skip.skip hs1 hiK
          obtain ⟨-, r6⟩ := HP2.out.slabs hdrew.skip.skip.swap hs2 hiK
          simp only at r5 r6
          have R1 : Hid (IntsSrc wr.drew (.slice B1 u1 e1) sl) := by show IntsSrc _ (.slice B1 u1 e1) sl; rw [← hu1]; exact r5
          have R3 : Hid (IntsSrc wr.drew (.slice B3 u1 e3) sl) := by show IntsSrc _ (.slice B3 u1 e3) sl; rw [← hu1]; exact r6
          have HD := Lib.hid hdrew
          clear hs1 hs2 hiK hsm hm1 hu1 r1 r3 r5 r6 z0 z1 z2 y0 y1 y2 hdrew
          go_wp2_with fail
          go_region_held3 (fun w' => (w'.cell? ⟨b, 3, none⟩ = some (.slice (some ⟨g1, 0, none⟩) l c2) ∧ w'.cell? ⟨b + 1, 3, none⟩ = some (.slice (some ⟨g2, 0, none⟩) l d2)) ∧ (w'.cell? ⟨g1, i * 5, none⟩ = some (.int .i64 ni) ∧ w'.cell? ⟨g1, i * 5 + 1, none⟩ = some (.int .i64 no) ∧ w'.cell? ⟨g1, i * 5 + 2, none⟩ = some (.bool nf) ∧ w'.cell? ⟨g1, i * 5 + 3, none⟩ = some (.bool nv) ∧ w'.cell? ⟨g1, i * 5 + 4, none⟩ = some (.slice B1 u1 e1)) ∧ (w'.cell? ⟨g2, i * 5, none⟩ = some (.int .i64 ni) ∧ w'.cell? ⟨g2, i * 5 + 1, none⟩ = some (.int .i64 no) ∧ w'.cell? ⟨g2, i * 5 + 2, none⟩ = some (.bool nf) ∧ w'.cell? ⟨g2, i * 5 + 3, none⟩ = some (.bool nv) ∧ w'.cell? ⟨g2, i * 5 + 4, none⟩ = some (.slice B3 u1 e3))) (first | (refine ⟨⟨?_, ?_⟩, ⟨?_, ?_, ?_, ?_, ?_⟩, ⟨?_, ?_, ?_, ?_, ?_⟩⟩ <;> assumption) | go_keep)
            (first | (go_at_call 31; refine (eqInts_yes R1.out R3.out (by have := HSM.out; omega) rfl HD.out).mono ?_; rintro e w5 ⟨rfl, h5⟩; obtain ⟨⟨z0, z1, z2, z3⟩, -⟩ := boxK h5; obtain ⟨⟨y0, y1, y2, y3⟩, -⟩ := boxK h5.skip; obtain ⟨⟨gg1, hg1, p0, p1, p2, p3, p4, -⟩, r1⟩ := HP1.out.slabs h5.skip.skip HS1.out HIK.out; cases hg1; obtain ⟨⟨gg2, hg2, o0, o1, o2, o3, o4, -⟩, r3⟩ := HP2.out.slabs h5.skip.skip.swap HS2.out HIK.out; cases hg2; simp only at p0 p1 p2 p3 p4 o0 o1 o2 o3 o4; rw [HU1.out] at p4 o4))
          go_wp2_with fail
          exact ⟨⟨i + 1, by go_num, by omega, h5⟩, by simp [intOf]; omega⟩
        · have hnl2 : ¬ (i : Int) < (l : Int) := by omega
          go_wp2_with fail
          go_ret
          exact ⟨rfl, hr.skip.skip⟩
end
end Go.Proofs.Ytigakendeghoaaa.See

/-
  wainscotlaw21.ChartApart answers true: the walk. No condition.
-/
namespace Go.Proofs.Ytigakendeghoaaa.Apart
open Go.RowKit
open chartPlaces (Ok)
attribute [local go_sem ↓] Go.wp_at_zero Go.wp_at_succ
theorem yes_works : Ex.yes Try.prog 30 34 = true := by kernel_rfl
theorem bool_info : (Try.prog.info? 4).map (fun i => (i.zero, i.size, i.bytes)) = some (some (.bool false), 1, 1) := by kernel_rfl
/-- which places are there already -/
def bRow (n : Nat) (S : List Nat) : Array Value := ((List.range n).map fun i => Value.bool (decide (i ∈ S))).toArray
theorem bRow_get {n i : Nat} (S : List Nat) (h : i < n) : (bRow n S)[i]? = some (.bool (decide (i ∈ S))) := by simp [bRow, h]
theorem bRow_nil (n : Nat) : Array.replicate n (Value.bool false) = bRow n [] := by
  apply Array.ext_getElem?
  intro j
  by_cases hj : j < n
  · rw [bRow_get _ hj]; simp [hj]
  · rw [Array.getElem?_eq_none (by simp; omega), Array.getElem?_eq_none (by simp [bRow]; omega)]
theorem bRow_set {n x : Nat} (S : List Nat) (h : x < n) : (bRow n S).setIfInBounds x (.bool true) = bRow n (S ++ [x]) := by
  apply Array.ext_getElem?
  intro j
  rw [Array.getElem?_setIfInBounds]
  by_cases hj : j < n
  · rw [bRow_get _ hj]
    by_cases hx : x = j
    · subst hx; simp [bRow, h]
    · rw [if_neg hx, bRow_get _ hj]
      have : ¬ j = x := fun e => hx e.symm
      simp [this]
  · rw [if_neg (by omega), Array.getElem?_eq_none (by simp [bRow]; omega), Array.getElem?_eq_none (by simp [bRow]; omega)]
theorem pl_new {C S O i x : Nat} (h : (pl C S O)[i]? = some x) : x ∉ (pl C S O).take i := by
  intro hm
  obtain ⟨j, hj, he⟩ := List.getElem_of_mem hm
  rw [List.length_take] at hj
  obtain ⟨hi, rfl⟩ := List.getElem?_eq_some_iff.1 h
  rw [List.getElem_take] at he
  have := List.pairwise_iff_getElem.1 (nodup_pl C S O) j i (by omega) hi (by omega)
  exact this he
theorem take_succ_get {l : List Nat} {i x : Nat} (h : l[i]? = some x) : l.take (i + 1) = l.take i ++ [x] := by
  obtain ⟨hi, rfl⟩ := List.getElem?_eq_some_iff.1 h
  exact List.take_succ_eq_append_getElem hi
theorem works_in {W w : World} {m : List (Nat × Obj)} (h : Own W m w) : Calls Try.prog 34 #[] w fun e w' => e = .returned (.bool true) ∧ Own W m w' := Ex.yes_in yes_works h
section
variable {W w : World} {m : List (Nat × Obj)}
set_option maxRecDepth 100000 in
set_option maxHeartbeats 4000000 in
theorem law_ok (a b c d0 e0 key : Int) (ha : (Lit.int .i64 a).wf = true) (hb : (Lit.int .i64 b).wf = true) (hc : (Lit.int .i64 c).wf = true) (hd : (Lit.int .i64 d0).wf = true) (he : (Lit.int .i64 e0).wf = true) (hO : Own W m w) :
    Calls Try.prog 5 #[chV a b c d0 e0 key] w fun r w' => r = .returned (.bool true) ∧ Own W m w' := by
  have h0 : Own W (chB w.heap.size a b c d0 e0 key :: m) _ := hO.new (.cells #[.int .i64 a, .int .i64 b, .int .i64 c, .int .i64 d0, .int .i64 e0, .int .u64 key] 24)
  obtain ⟨y0, y1, y2, y3, y4, y5⟩ := box6 h0
  have HA := Lib.hid ha
  have HB := Lib.hid hb
  have HC := Lib.hid hc
  have HD := Lib.hid hd
  have HE := Lib.hid he
  clear ha hb hc hd he
  unfold chV
  go_enter Try.func5, Try.ntmps5
  go_wp2_with fail
  refine (made_ok HA.out HB.out HC.out HD.out HE.out h0).mono ?_
  rintro r w1 ⟨⟨C, S, O, d, e, hOk, rfl⟩, h1⟩
  obtain ⟨C, rfl⟩ : ∃ n : Nat, C = n := ⟨C.toNat, by unfold Ok at hOk; omega⟩
  obtain ⟨S, rfl⟩ : ∃ n : Nat, S = n := ⟨S.toNat, by unfold Ok at hOk; omega⟩
  obtain ⟨O, rfl⟩ : ∃ n : Nat, O = n := ⟨O.toNat, by unfold Ok at hOk; omega⟩
  clear y0 y1 y2 y3 y4 y5
  obtain ⟨y0, y1, y2, y3, y4, y5⟩ := box6 h1
  have f0 := h1.frozen List.mem_cons_self 0
  have f1 := h1.frozen List.mem_cons_self 1
  have f2 := h1.frozen List.mem_cons_self 2
  have f3 := h1.frozen List.mem_cons_self 3
  have f4 := h1.frozen List.mem_cons_self 4
  have f5 := h1.frozen List.mem_cons_self 5
  have h2 : Own W (chB w.heap.size C S O d e key :: m) _ := (((((h1.set 0 (.int .i64 C)).set 1 (.int .i64 S)).set 2 (.int .i64 O)).set 3 (.int .i64 d)).set 4 (.int .i64 e)).set 5 (.int .u64 key)
  have HOK := Lib.hid hOk
  obtain ⟨c1, c2, c3, c4, c5, c6⟩ : 1 ≤ C ∧ C ≤ 8 ∧ 1 ≤ S ∧ S ≤ 32 ∧ 1 ≤ O ∧ O ≤ 16 := by unfold Ok at hOk; omega
  have hmul : S * O ≤ 32 * 16 := Nat.mul_le_mul c4 c6
  obtain ⟨N, hN⟩ : ∃ N : Nat, 4 * C + 4 + 4 * S + S * O = N := ⟨_, rfl⟩
  have hNi : 4 * (C : Int) + 4 + 4 * (S : Int) + (S : Int) * (O : Int) = (N : Int) := by rw [← hN]; push_cast; rfl
  have hN1 : 1 ≤ N := by omega
  have hN2 : N ≤ 4096 := by omega
  have HN := Lib.hid hN
  have HNI := Lib.hid hNi
  clear hOk hmul hN hNi
  go_wp2_with fail
  obtain ⟨wa, hwa⟩ : ∃ wa, (((((w1.setCell ⟨w.heap.size, 0, none⟩ (.int .i64 C)).setCell ⟨w.heap.size, 1, none⟩ (.int .i64 S)).setCell ⟨w.heap.size, 2, none⟩ (.int .i64 O)).setCell ⟨w.heap.size, 3, none⟩ (.int .i64 d)).setCell ⟨w.heap.size, 4, none⟩ (.int .i64 e)).setCell ⟨w.heap.size, 5, none⟩ (.int .u64 key) = wa := ⟨_, rfl⟩
  rw [hwa] at h2 ⊢
  clear hwa y0 y1 y2 y3 y4 y5 f0 f1 f2 f3 f4 f5
  refine (words_ok HOK.out h2).mono ?_
  rintro r w3 ⟨rfl, h3⟩
  rw [HNI.out]
  obtain ⟨y0, y1, y2, y3, y4, y5⟩ := box6 h3
  go_wp2_with fail
  refine (check_ok HOK.out h3).mono ?_
  rintro r w4 ⟨rfl, h4⟩
  clear y0 y1 y2 y3 y4 y5
  obtain ⟨i, hi, hz, hs, hby⟩ := info_get bool_info
  have hmk := fun W => run_make_rowN (P := Try.prog) 47 4 i _ Try.underlying47 hi hz .i64 .i64 N N (Nat.le_refl _) (by rw [hby]; omega) (by omega) W
  rw [hs, Nat.mul_one, madeCells_const _ (.bool false) _ (by simp [Value.cells]) (by intro j hj; obtain rfl : j = 0 := (by simp [Value.cells] at hj; omega); rfl), bRow_nil] at hmk
  clear hi hz hs hby
  have h5 := h4.new1 (m1 := [chB w.heap.size C S O d e key]) (.cells (bRow N []) 4)
  have h5 : Own W (chB w.heap.size C S O d e key :: (w4.heap.size, .cells (bRow N []) 4) :: m) _ := h5
  obtain ⟨y0, y1, y2, y3, y4, y5⟩ := box6 h5
  go_wp2_with fail
  clear hmk y0 y1 y2 y3 y4 y5
  refine (places_ok HOK.out h5).mono ?_
  rintro r w6 ⟨v6, bs6, rfl, o6, h6⟩
  have hlen : 0 < (castN (pl C S O)).length := by rw [castN_len, pl_eq, plB_len]; omega
  obtain ⟨g, cap6, cur6, rfl, -, -⟩ := o6.form hlen
  have O6 := Lib.hid o6
  have h6 : Own W (bs6 ++ (w4.heap.size, .cells (bRow N []) 4) :: m) _ := (h6.perm List.perm_middle).skip
  clear o6 hlen
  obtain ⟨Z, hZ⟩ : ∃ Z, (castN (pl C S O)).length = Z := ⟨_, rfl⟩
  have HZ := Lib.hid hZ
  rw [hZ]
  have hZ7 : Z ≤ 700 := by
    have h1 := plB_len C S O S
    have h2 : S * (3 + O) ≤ 32 * 19 := Nat.mul_le_mul c4 (by omega)
    rw [← hZ, castN_len, pl_eq]
    omega
  clear hZ
  go_wp2_with fail
  go_loopw [6] (fun i wr => ∃ j : Nat, j ≤ Z ∧ i = .int .i64 j ∧ Own W (bs6 ++ (w4.heap.size, .cells (bRow N ((pl C S O).take j)) 4) :: m) wr) (fun i _ => Z - (intOf i).toNat)
  case atStart => exact ⟨0, by omega, rfl, by simpa using h6⟩
  case round =>
    clear h6
    obtain ⟨j, hj, rfl, hr⟩ := hrel
    by_cases hlt : j < Z
    · have hlti : (j : Int) < Z := by omega
      obtain ⟨x, hx⟩ : ∃ x, (pl C S O)[j]? = some x := ⟨_, List.getElem?_eq_getElem (by have := HZ.out; rw [castN_len] at this; omega)⟩
      have hxi : (castN (pl C S O))[j]? = some (x : Int) := by simp [castN, hx]
      have hxN : x < N := by rw [← HN.out]; exact mem_pl (List.mem_of_getElem? hx)
      have hnew := pl_new hx
      have cx := SlO.cell O6.out hr rfl (ints_get hxi)
      have cb := hr.dropL.cell List.mem_cons_self x
      rw [bRow_get _ hxN, decide_eq_false hnew] at cb
      have fb := hr.dropL.frozen List.mem_cons_self x
      have h7 := hr.setIn x (.bool true)
      rw [bRow_set _ hxN, ← take_succ_get hx] at h7
      have hxi0 : (0 : Int) ≤ (x : Int) := by omega
      have hxi1 : (x : Int) < N := by omega
      clear hxi hnew hx
      go_wp2_with fail
      exact ⟨⟨j + 1, by omega, by go_num, h7⟩, by simp [intOf]; omega⟩
    · have hlti : ¬ (j : Int) < Z := by omega
      go_wp2_with fail
      refine (works_in hr.dropL.skip).mono ?_
      rintro r w7 ⟨rfl, h7⟩
      go_wp2_with fail
      go_ret
      exact ⟨rfl, h7⟩
end
end Go.Proofs.Ytigakendeghoaaa.Apart

/-
  Arguments opened to cells: flat types (numbers, bools, structs and arrays of such), and slices of them. No condition.
-/
namespace Go.Proofs.Ytigakendeghoaaa
open Go.ChangeShapes Go.WideShapes Go.ChangeAt Go.RowKit

/-- a cell of a kind: 'none': a bool -/
def CellIs : Option IntKind → Value → Prop
  | none, v => ∃ b, v = .bool b
  | some k, v => ∃ n, v = .int k n ∧ (Lit.int k n).wf = true

/-- the kinds of a struct's cells, from an offset on -/
def flatFields (P : Program) (K : TypeId → Option (List (Option IntKind))) : Nat → List Field → Option (List (Option IntKind))
  | _, [] => some []
  | off, f :: fs =>
    match K f.type with
    | some l => if f.offset = off ∧ l.length = P.cellsOf f.type then (flatFields P K (off + l.length) fs).map (l ++ ·) else none
    | none => none
/-- the kinds of a flat type's cells -/
def flatKinds (P : Program) : Nat → TypeId → Option (List (Option IntKind))
  | 0, _ => none
  | n + 1, t =>
    match P.underlying t with
    | some .bool => some [none]
    | some (.int k) => some [some k]
    | some (.struct fs) => flatFields P (flatKinds P n) 0 fs.toList
    | some (.array m e) =>
      match flatKinds P n e with
      | some l => if l.length = P.cellsOf e then some (List.replicate m l).flatten else none
      | none => none
    | _ => none

section
variable {H : Type} {enc : TypeId × Value → H} {P : Program} {w : World} {base : Nat} {spare : Nat → Bool} {held : Bool}

theorem flat_rep {l : List (Option IntKind)} {cs : List Value} : ∀ (m off : Nat) (_h : ∀ i, i < m → ∀ (j : Nat) (k : Option IntKind), l[j]? = some k → ∃ v, cs[off + i * l.length + j]? = some v ∧ CellIs k v) (i : Nat) (k : Option IntKind),
    (List.replicate m l).flatten[i]? = some k → ∃ v, cs[off + i]? = some v ∧ CellIs k v
  | 0, _, _, i, k, hk => by simp at hk
  | m + 1, off, h, i, k, hk => by
    rw [List.replicate_succ, List.flatten_cons] at hk
    by_cases hi : i < l.length
    · rw [List.getElem?_append_left hi] at hk
      have := h 0 (by omega) i k hk
      simpa using this
    · rw [List.getElem?_append_right (by omega)] at hk
      have h' : ∀ i, i < m → ∀ (j : Nat) (k : Option IntKind), l[j]? = some k → ∃ v, cs[(off + l.length) + i * l.length + j]? = some v ∧ CellIs k v := fun i' hi' j k' hk' => by
        have := h (i' + 1) (by omega) j k' hk'
        rwa [show off + (i' + 1) * l.length + j = off + l.length + i' * l.length + j from by rw [Nat.succ_mul]; omega] at this
      have := flat_rep m (off + l.length) h' (i - l.length) k hk
      rwa [show off + l.length + (i - l.length) = off + i from by omega] at this

theorem flat_fields {cs : List Value} {K : TypeId → Option (List (Option IntKind))} : ∀ (fs : List Field) (off : Nat) (ks : List (Option IntKind)), flatFields P K off fs = some ks →
    (∀ f ∈ fs, ∀ l, K f.type = some l → l.length = P.cellsOf f.type → ∀ (j : Nat) (k : Option IntKind), l[j]? = some k → ∃ v, cs[f.offset + j]? = some v ∧ CellIs k v) →
    ∀ (i : Nat) (k : Option IntKind), ks[i]? = some k → ∃ v, cs[off + i]? = some v ∧ CellIs k v
  | [], off, ks, hks, _, i, k, hk => by
    simp only [flatFields, Option.some.injEq] at hks
    subst hks
    simp at hk
  | f :: fs, off, ks, hks, hf, i, k, hk => by
    simp only [flatFields] at hks
    split at hks
    · rename_i l hl
      split at hks
      · rename_i hc
        obtain ⟨r, hr, rfl⟩ := Option.map_eq_some_iff.1 hks
        by_cases hi : i < l.length
        · rw [List.getElem?_append_left hi] at hk
          have := hf f List.mem_cons_self l hl hc.2 i k hk
          rwa [hc.1] at this
        · rw [List.getElem?_append_right (by omega)] at hk
          have := flat_fields fs (off + l.length) r hr (fun g hg => hf g (List.mem_cons_of_mem _ hg)) (i - l.length) k hk
          rwa [show off + l.length + (i - l.length) = off + i from by omega] at this
      · cases hks
    · cases hks

theorem take_drop_get {cs : List Value} {a n j : Nat} {v : Value} (h : ((cs.drop a).take n)[j]? = some v) : cs[a + j]? = some v := by
  rw [List.getElem?_take] at h
  split at h
  · rwa [List.getElem?_drop] at h
  · cases h

/-- what is read of a flat type: each cell is of its kind -/
theorem trod_flat : ∀ (fuel n : Nat) (t : TypeId) (cs : List Value) (x : DataW H × List MemPlace) (ks : List (Option IntKind)), DataW.trod enc P w base spare held fuel t cs = some x → flatKinds P n t = some ks →
    ∀ (i : Nat) (k : Option IntKind), ks[i]? = some k → ∃ v, cs[i]? = some v ∧ CellIs k v
  | 0, _, _, _, _, _, h, _ => by simp [DataW.trod] at h
  | fuel + 1, 0, _, _, _, _, _, hk => by simp [flatKinds] at hk
  | fuel + 1, n + 1, t, cs, x, ks, h, hks => by
    intro i k hk
    unfold flatKinds at hks
    split at hks
    · rename_i hu
      simp only [Option.some.injEq] at hks
      subst hks
      unfold DataW.trod at h
      rw [hu] at h
      match cs, h with
      | [.bool b], _ =>
        match i, hk with
        | 0, hk => simp at hk; subst hk; exact ⟨_, rfl, b, rfl⟩
        | i + 1, hk => simp at hk
    · rename_i q hu
      simp only [Option.some.injEq] at hks
      subst hks
      unfold DataW.trod at h
      rw [hu] at h
      match cs, h with
      | [.int k' z], h =>
        simp only at h
        split at h
        · rename_i hc
          match i, hk with
          | 0, hk => simp at hk; subst hk; exact ⟨_, rfl, z, by rw [hc.1], hc.2⟩
          | i + 1, hk => simp at hk
        · cases h
    · rename_i fs hu
      obtain ⟨xs, m, hm, _, hcl, _, hf⟩ := DataW.trod_struct hu h
      obtain rfl : fuel = m := by omega
      have := flat_fields (cs := cs) fs.toList 0 ks hks (fun f hfm l hl hlc j k' hk' => by
        obtain ⟨i', hi', hfi⟩ := List.getElem_of_mem hfm
        have hfi' : fs[i']? = some f := by rw [← Array.getElem?_toList, List.getElem?_eq_getElem hi', hfi]
        have ht := hf i' f hfi'
        have hlt : i' < xs.length := by have : i' < fs.size := by simpa using hi'
                                        omega
        rw [List.getElem?_eq_getElem hlt] at ht
        obtain ⟨v, hv, hc⟩ := trod_flat fuel n f.type _ _ l ht hl j k' hk'
        exact ⟨v, take_drop_get hv, hc⟩) i k hk
      simpa using this
    · rename_i m e hu
      split at hks
      · rename_i l hl
        split at hks
        · rename_i hlc
          simp only [Option.some.injEq] at hks
          subst hks
          unfold DataW.trod at h
          rw [hu] at h
          have h2 : ∃ xs, (List.range m).mapM (fun i => DataW.trod enc P w base spare held fuel e ((cs.drop (i * P.cellsOf e)).take (P.cellsOf e))) = some xs := by
            split at h <;> simp_all
            obtain ⟨_, xs, hx, _⟩ := h
            exact ⟨xs, hx⟩
          obtain ⟨xs, hx⟩ := h2
          have := flat_rep (l := l) (cs := cs) m 0 (fun i' hi' j k' hk' => by
            have hg := mapM_some_get hx i' i' (by simp [hi'])
            have hlen := mapM_some_length hx
            have hlt : i' < xs.length := by simpa [hlen] using hi'
            rw [List.getElem?_eq_getElem hlt] at hg
            obtain ⟨v, hv, hc⟩ := trod_flat fuel n e _ _ l hg hl j k' hk'
            refine ⟨v, ?_, hc⟩
            rw [hlc]
            simpa using take_drop_get hv) i k hk
          simpa using this
        · cases hks
      · cases hks
    · cases hks

/-- an argument of a struct's or an array's type is an aggregate of so many cells -/
theorem arg_agg {r : Reach} {b0 : Nat} {t : TypeId} {v : Value} (hu : (match P.underlying t with | some (.struct _) | some (.array _ _) => true | _ => false) = true) (hv : Value.okWide P w r b0 t v) :
    ∃ cs : Array Value, v = .agg cs ∧ cs.size = P.cellsOf t := by
  unfold Value.okWide at hv
  split at hv
  · obtain ⟨cs, h1, h2, _⟩ := hv; exact ⟨cs, h1, h2⟩
  · obtain ⟨cs, h1, h2, _⟩ := hv; exact ⟨cs, h1, h2⟩
  · rename_i h1 h2
    split at hu
    · rename_i q hq; exact absurd hq (h1 q)
    · rename_i q r hq; exact absurd hq (h2 q r)
    · cases hu
/-- ... each of its cells is of its kind -/
theorem open_flat {r : Reach} {b0 : Nat} {t : TypeId} {v : Value} {d : DataW H} {p : List MemPlace} (n : Nat) {ks : List (Option IntKind)} (hu : (match P.underlying t with | some (.struct _) | some (.array _ _) => true | _ => false) = true)
    (hks : flatKinds P n t = some ks) (hv : Value.okWide P w r b0 t v) (h : DataW.Trod enc P w base spare held t v d p) :
    ∃ cs : Array Value, v = .agg cs ∧ cs.size = P.cellsOf t ∧ ∀ (i : Nat) (k : Option IntKind), ks[i]? = some k → ∃ u, cs[i]? = some u ∧ CellIs k u := by
  obtain ⟨cs, rfl, hs⟩ := arg_agg hu hv
  obtain ⟨fuel, hf⟩ := h
  refine ⟨cs, rfl, hs, fun i k hk => ?_⟩
  obtain ⟨u, h1, h2⟩ := trod_flat fuel n t _ _ ks hf hks i k hk
  exact ⟨u, by simpa [Value.cells] using h1, h2⟩
/-- a slice of a flat type: each cell of each element is of its kind -/
theorem open_slice_flat {t e : TypeId} {v : Value} {d : DataW H} {p : List MemPlace} (n : Nat) {ks : List (Option IntKind)} (ht : P.underlying t = some (.slice e)) (hks : flatKinds P n e = some ks) (hone : v.cells.toList = [v])
    (h : DataW.Trod enc P w base spare held t v d p) (_hlt : ∀ x ∈ p, x.block < w.heap.size) (hpos : 0 < P.cellsOf e) :
    v = .slice none 0 0 ∨ ∃ (a : Addr) (len cap : Nat), v = .slice (some a) len cap ∧ len ≤ cap ∧ cap ≤ maxLen ∧ (0 < len → a.block < w.heap.size) ∧
      ∀ i, i < len → ∀ (j : Nat) (k : Option IntKind), ks[j]? = some k → ∃ u, w.cell? (a.add (i * P.cellsOf e + j)) = some u ∧ CellIs k u := by
  obtain ⟨fuel, hf⟩ := h
  rw [hone] at hf
  rcases Deep.open_slice ht hf with ⟨h0, _⟩ | ⟨a, len, cap, m, n', D, Pl, hcs, hb, hl, hm, hmm, hx, hi⟩
  · left; simpa using h0
  · right
    refine ⟨a, len, cap, by simpa using hcs, hl, hm, ?_, ?_⟩
    · intro hpos'
      have hml : len ≤ m := by rw [hmm]; split <;> omega
      obtain ⟨cs', hc, _⟩ := hi 0 (by omega)
      obtain ⟨_, hcl, hat⟩ := World.cells?_some hc
      have h0 := hat 0 (by omega)
      have h1 : cs'[0]? = some (cs'[0]'(by omega)) := List.getElem?_eq_getElem (by omega)
      rw [h1] at h0
      have := block_lt_of_cell h0
      simpa [Addr.add] using this
    · intro i hil j k hk
      have hml : len ≤ m := by rw [hmm]; split <;> omega
      obtain ⟨cs', hc, ht'⟩ := hi i (by omega)
      obtain ⟨u, hu, hcell⟩ := trod_flat n' n e cs' _ ks ht' hks j k hk
      obtain ⟨_, hcl, hat⟩ := World.cells?_some hc
      have hj : j < P.cellsOf e := by
        have := (List.getElem?_eq_some_iff.1 hu).1
        omega
      have := hat j hj
      rw [← Go.Deep.add_add, this, hu]
      exact ⟨u, rfl, hcell⟩

/-- a slice's elements, cell by cell, are of their kinds -/
def FlatAt (W : World) (ks : List (Option IntKind)) (A : Option Addr) (len : Nat) : Prop :=
  0 < len → ∃ B o, A = some ⟨B, o, none⟩ ∧ B < W.heap.size ∧ ∀ i, i < len → ∀ (j : Nat) (k : Option IntKind), ks[j]? = some k → ∃ u, W.cell? ⟨B, o + i * ks.length + j, none⟩ = some u ∧ CellIs k u
theorem open_slice_at {t e : TypeId} {v : Value} {d : DataW H} {p : List MemPlace} (n : Nat) {ks : List (Option IntKind)} (ht : P.underlying t = some (.slice e)) (hks : flatKinds P n e = some ks) (hlen : P.cellsOf e = ks.length) (hpos : 0 < ks.length) (hone : v.cells.toList = [v])
    (h : DataW.Trod enc P w base spare held t v d p) (hlt : ∀ x ∈ p, x.block < w.heap.size) :
    ∃ (A : Option Addr) (len cap : Nat), v = .slice A len cap ∧ len ≤ cap ∧ cap ≤ maxLen ∧ FlatAt w ks A len := by
  rcases open_slice_flat n ht hks hone h hlt (by omega) with rfl | ⟨a, len, cap, rfl, hl, hm, hb, hc⟩
  · exact ⟨none, 0, 0, rfl, Nat.le_refl _, by unfold maxLen; omega, fun h => absurd h (by omega)⟩
  · refine ⟨some a, len, cap, rfl, hl, hm, fun hp => ?_⟩
    obtain ⟨u, hu, _⟩ := hc 0 hp 0 (ks[0]'(by omega)) (List.getElem?_eq_getElem (by omega))
    have hs : a.spot = none := by
      have h0 : a.add (0 * P.cellsOf e + 0) = a := by simp [Addr.add]
      rw [h0] at hu
      unfold World.cell? at hu
      split at hu
      · split at hu
        · cases hu
        · simpa using ‹¬ a.spot.isSome = true›
      · cases hu
    obtain ⟨B, o, s⟩ := a
    simp only at hs
    subst hs
    refine ⟨B, o, rfl, hb hp, fun i hi j k hk => ?_⟩
    obtain ⟨u, hu, hk'⟩ := hc i hi j k hk
    refine ⟨u, ?_, hk'⟩
    rw [← hlen]
    have e1 : (⟨B, o, none⟩ : Addr).add (i * P.cellsOf e + j) = ⟨B, o + (i * P.cellsOf e + j), none⟩ := by
      unfold Addr.add
      split
      · rename_i h0; rw [h0]; rfl
      · rfl
    rw [e1] at hu
    rw [show o + i * P.cellsOf e + j = o + (i * P.cellsOf e + j) from by omega]
    exact hu
/-- an argument of a slice's type is one cell -/
theorem arg_slice {r : Reach} {b0 : Nat} {t e : TypeId} {v : Value} (ht : P.underlying t = some (.slice e)) (hv : Value.okWide P w r b0 t v) : v.cells.toList = [v] := by
  unfold Value.okWide at hv
  rw [ht] at hv
  simp only at hv
  unfold Cell.okWide at hv
  rw [ht] at hv
  cases v <;> first | rfl | (simp [Cell.ok, ht] at hv)
/-- a block of numbers is a slice of structs of numbers -/
theorem flatAt_of {W : World} {g : Nat} {T : TypeId} {l : List Int} {n len : Nat} (hg : W.heap[g]? = some (.cells (l.map fun x => Value.int .i64 x).toArray T (0, 0))) (hl : len * n ≤ l.length) (hwf : ∀ x ∈ l, (Lit.int .i64 x).wf = true) :
    FlatAt W (List.replicate n (some .i64)) (some ⟨g, 0, none⟩) len := by
  intro _
  refine ⟨g, 0, rfl, heap_lt hg, fun i hi j k hk => ?_⟩
  have hj : j < n := by have := (List.getElem?_eq_some_iff.1 hk).1; simpa using this
  have hk' : k = some .i64 := by
    rw [List.getElem?_replicate, if_pos hj] at hk
    exact (Option.some.inj hk).symm
  subst hk'
  rw [List.length_replicate]
  have hlt : 0 + i * n + j < l.length := by
    have : (i + 1) * n ≤ len * n := Nat.mul_le_mul_right _ hi
    rw [Nat.succ_mul] at this
    omega
  refine ⟨.int .i64 l[0 + i * n + j], ?_, _, rfl, hwf _ (List.getElem_mem hlt)⟩
  simp [World.cell?, hg, List.getElem?_eq_getElem (show i * n + j < l.length by omega)]
end
end Go.Proofs.Ytigakendeghoaaa
